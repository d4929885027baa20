/-
  Parts of a proof, put together: X5, X7, X8, X9, TAw, TP2, TP3, TP4, TP5, TD1, TD2, TD3.
  Conditions: none.
-/
import Derived.Test.YtfamlpbdhhikdaaGreatZe
namespace Go.Proofs.YtfamlpbdhhikdaaGreat
set_option linter.all false
open Go

abbrev readings_o : List StSh := [⟨[.ols 0], [.lst Ql]⟩]
noncomputable abbrev readings_self (self : Int → Option Qr) : Spec := mkS 94 ⟨[.i .i64], []⟩ readings_o (fun p => self p.1.1) (fun k r => k (((), ()), (r, ())))
def readings_l2 (N : Nat) (self : Int → Option Qr) : Nat → Int → Int → Int → Qr → Qr → Option (Int × Int × List Qg)
 | 0, _, _, _, _, _ => none
 | n_ + 1, n, k, i, out, rest =>
  br (decide (i < (rest.length : Int)))
   (rng i rest.length <|
   get rest i.toNat fun x_2 =>
   lim ([k].length + x_2.length) <|
   lim (out.length + ([([k] ++ x_2)]).length) <|
   chk (i + 1) <|
   readings_l2 N self n_ n k (i + 1) (out ++ [([k] ++ x_2)]) rest)
   (some ((n, k, out)))
def readings_l1 (N : Nat) (self : Int → Option Qr) : Nat → Int → Int → Qr → Option Qr
 | 0, _, _, _ => none
 | n_ + 1, n, k, out =>
  br (decide (k ≤ n))
   (chk (n - k) <|
   (self (n - k)).bind fun x_1 =>
   (readings_l2 N self N n k 0 out x_1).bind fun (n_3, k_4, out_5) =>
   chk (k_4 + 1) <|
   readings_l1 N self n_ n_3 (k_4 + 1) out_5)
   (some (out))
def readings_S (N : Nat) (self : Int → Option Qr) (n : Int) : Option Qr :=
 br (decide (n = 0))
  (some ([[]]))
  ((readings_l1 N self N n 1 []).bind fun out_6 =>
  some out_6)
noncomputable def readings_sp (N : Nat) (self : Int → Option Qr) (hself : SpecOK Tryz.prog (readings_self self)) : Oks := [⟨_, hself⟩]
noncomputable abbrev readings_B : Body := mkB Tryz.f94 readings_o 0
noncomputable def readings_l2_L (N : Nat) (self : Int → Option Qr) (hself : SpecOK Tryz.prog (readings_self self)) {top : Bool} : LpQ readings_B top := mkL (Z := Int × Int × List Qg) (readings_sp N self hself) [] [.c [1, 1, 1, 0, 1, 0, 0, 1, 0, 0, 1, 1, 0, 0, 0, 0], .c [1, 1, 1, 0, 1, 0, 0, 1, 0, 0, 1, 1, 0, 0, 0, 1], .c [1, 1, 1, 0, 1, 0, 0, 1, 0, 0, 1, 1, 0, 0, 1], .l [1, 1, 1, 0, 1, 0, 0, 1, 0, 0, 1, 1, 0, 0], .b 2, .b 1, .c [1, 1, 1, 0, 1, 0, 0, 1, 1], .l [1, 1, 1, 0, 1, 0, 0], .b 0, .c [1, 1, 1, 1]] ⟨[0, 3, 4, 5, 6], ⟨[.i .i64, .ols 0, .i .i64, .ols 1, .i .i64], [.lst Ql, .lst Ql]⟩⟩ (fun m p => readings_l2 N self m p.1.1 p.1.2.2.1 p.1.2.2.2.2.1 p.2.1 p.2.2.1) [⟨[.c [1, 1, 1, 0, 1, 0, 0, 1, 1], .l [1, 1, 1, 0, 1, 0, 0], .b 0, .c [1, 1, 1, 1]], ⟨[0, 3, 4], ⟨[.i .i64, .ols 0, .i .i64], [.lst Ql]⟩⟩, fun p => some ((p.1.1, p.1.2.2.1, p.2.1))⟩] (fun _ => []) (fun k e => k (.inl ((e.1, (), e.2.1, ()), (e.2.2, ())))) N (fun m p => by kernel_rfl)
noncomputable def readings_l1_L (N : Nat) (self : Int → Option Qr) (hself : SpecOK Tryz.prog (readings_self self)) {top : Bool} : LpQ readings_B top := mkL (Z := List Qg) (readings_sp N self hself) [readings_l2_L N self hself] [.c [1, 1, 1, 0, 1, 0, 0, 0, 0], .c [1, 1, 1, 0, 1, 0, 0, 0, 1], .c [1, 1, 1, 0, 1, 0, 0, 1], .l [1, 1, 1, 0, 1, 0, 0], .b 0, .c [1, 1, 1, 1]] ⟨[0, 3, 4], ⟨[.i .i64, .ols 0, .i .i64], [.lst Ql]⟩⟩ (fun m p => readings_l1 N self m p.1.1 p.1.2.2.1 p.2.1) [⟨[.c [1, 1, 1, 1, 0], .c [1, 1, 1, 1, 1]], ⟨[3], ⟨[.ols 0], [.lst Ql]⟩⟩, fun p => some (p.2.1)⟩] (fun _ => []) (fun k e => k (.inl (((), ()), (e, ())))) N (fun m p => by kernel_rfl)
theorem readings_self_ok (N : Nat) (self : Int → Option Qr) (hself : SpecOK Tryz.prog (readings_self self)) : SpecOK Tryz.prog (readings_self (readings_S N self)) := mkF (R := List Qg) (m0 := 0) (readings_sp N self hself) [readings_l2_L N self hself, readings_l1_L N self hself] (fun r => some r.2.1) [] Tryz.func94 (fun p => by kernel_rfl) (by kernel_rfl) (fun _ => by kernel_rfl)
def readings_R (N : Nat) : Nat → Int → Option Qr
 | 0 => fun _ => none
 | n + 1 => readings_S N (readings_R N n)
theorem readings_R_ok (N : Nat) : ∀ n, SpecOK Tryz.prog (readings_self (readings_R N n))
 | 0 => SpecOK.none (fun _ _ _ => rfl) (fun args w => Sem.pv_run _ _ _ (by kernel_rfl) w)
 | n + 1 => readings_self_ok N (readings_R N n) (readings_R_ok N n)
noncomputable abbrev sp_readings (N : Nat) : Spec := readings_self (readings_R N N)
theorem sp_readings_ok (N : Nat) : SpecOK Tryz.prog (sp_readings N) := readings_R_ok N N

def rright_j1 (N : Nat) (rec : Int → Qh → Qi → Int → Qr → Qr → Option Qr) (i : Int) (t : List Qe) (t2 : List Qf) (t3 : Int) (out all : List Qg) : Option Qr :=
 chk (i + 1) <|
 rec (i + 1) t t2 t3 out all
def rright_l1 (N : Nat) : Nat → Int → Qh → Qi → Int → Qr → Qr → Option Qr
 | 0, _, _, _, _, _, _ => none
 | n_ + 1, i, t, t2, t3, out, all =>
  br (decide (i < (all.length : Int)))
   (rng i all.length <|
   get all i.toNat fun x_2 =>
   (rwrong_S N t t2 t3 x_2).bind fun (x_3, y_4, y_5) =>
   br (decide (y_5 = 6))
    (rng i all.length <|
    get all i.toNat fun x_6 =>
    lim (out.length + [x_6].length) <|
    rright_j1 N (rright_l1 N n_) i t t2 t3 (out ++ [x_6]) all)
    (rright_j1 N (rright_l1 N n_) i t t2 t3 out all))
   (some (out))
def rright_S (N : Nat) (t : List Qe) (t2 : List Qf) (t3 : Int) : Option Qr :=
 (readings_R N N (t.length : Int)).bind fun x_1 =>
 (rright_l1 N N 0 t t2 t3 [] x_1).bind fun out_7 =>
 some out_7
noncomputable def rright_sp (N : Nat) : Oks := [⟨_, sp_rwrong_ok N⟩, ⟨_, sp_readings_ok N⟩]
abbrev rright_o : List StSh := [⟨[.sl Ql], []⟩]
noncomputable abbrev rright_B : Body := mkB Tryz.f34 rright_o 0
abbrev rright_l1_at : List PI := [.c [1, 1, 1, 0, 1, 0, 0, 0, 0], .c [1, 1, 1, 0, 1, 0, 0, 0, 1], .c [1, 1, 1, 0, 1, 0, 0, 1], .l [1, 1, 1, 0, 1, 0, 0], .b 0, .c [1, 1, 1, 1]]
abbrev rright_l1_st : Sta := ⟨[1, 3, 4, 5], ⟨[.own 0 0, .ols 1, .ols 2, .i .i64], [.segs [.sl Qd, .sl Qc, .i .i64], .lst Ql, .lst Ql]⟩⟩
abbrev rright_l1_h (rec : Int → Qh → Qi → Int → Qr → Qr → Option Qr) : Leaf Qr := ⟨rright_l1_at, rright_l1_st, fun p => rec p.1.2.2.2.1 p.2.1.1 p.2.1.2.1 p.2.1.2.2.1 p.2.2.1 p.2.2.2.1⟩
abbrev rright_l1_e0 : Leaf Qr := ⟨[.c [1, 1, 1, 1, 0], .c [1, 1, 1, 1, 1]], ⟨[3], ⟨[.ols 0], [.lst Ql]⟩⟩, fun p => some (p.2.1)⟩
noncomputable def rright_j1_k (N : Nat) (rec : Int → Qh → Qi → Int → Qr → Qr → Option Qr) {top : Bool} : JnQ (Z := List Qg) rright_B top none [rright_l1_h rec, rright_l1_e0] := mkJ (rright_sp N) [] [] ⟨[.c [1, 1, 1, 0, 1, 0, 0, 1, 1], .l [1, 1, 1, 0, 1, 0, 0], .b 0, .c [1, 1, 1, 1]], ⟨[1, 3, 4, 5], ⟨[.own 0 0, .ols 1, .ols 2, .i .i64], [.segs [.sl Qd, .sl Qc, .i .i64], .lst Ql, .lst Ql]⟩⟩, fun p => rright_j1 N rec p.1.2.2.2.1 p.2.1.1 p.2.1.2.1 p.2.1.2.2.1 p.2.2.1 p.2.2.2.1⟩ (fun p => by kernel_rfl)
noncomputable def rright_l1_L (N : Nat) {top : Bool} : LpQ rright_B top := mkL (Z := List Qg) (rright_sp N) [] rright_l1_at rright_l1_st (fun m p => rright_l1 N m p.1.2.2.2.1 p.2.1.1 p.2.1.2.1 p.2.1.2.2.1 p.2.2.1 p.2.2.2.1) [rright_l1_e0] (fun m => [rright_j1_k N (rright_l1 N m)]) (fun k e => k (.inl (((), ()), (e, ())))) N (fun m p => by kernel_rfl)
noncomputable def sp_rright (N : Nat) : Spec := mkS 34 ⟨[.agg [.sl Qd, .sl Qc, .i .i64]], []⟩ rright_o (fun p => rright_S N p.1.1.1 p.1.1.2.1 p.1.1.2.2.1) (fun k r => k ((r, ()), ()))
theorem sp_rright_ok (N : Nat) : SpecOK Tryz.prog (sp_rright N) := mkF (R := List Qg) (m0 := 0) (rright_sp N) [rright_l1_L N] (fun r => some r.1.1) [] Tryz.func34 (fun p => by kernel_rfl) (by kernel_rfl) (fun _ => by kernel_rfl)

def rfewest_j1 (N : Nat) (rec : Qr → Int → Int → Option Int) (l : List Qg) (best i : Int) : Option Int :=
 chk (i + 1) <|
 rec l best (i + 1)
def rfewest_l1 (N : Nat) : Nat → Qr → Int → Int → Option Int
 | 0, _, _, _ => none
 | n_ + 1, l, best, i =>
  br (decide (i < (l.length : Int)))
   (br (decide (best = 0))
    (idx l i fun x_1 =>
    rfewest_j1 N (rfewest_l1 N n_) l (x_1.length : Int) i)
    (idx l i fun x_2 =>
    br (decide ((x_2.length : Int) < best))
     (idx l i fun x_3 =>
     rfewest_j1 N (rfewest_l1 N n_) l (x_3.length : Int) i)
     (rfewest_j1 N (rfewest_l1 N n_) l best i)))
   (some (best))
def rfewest_S (N : Nat) (l : List Qg) : Option Qn :=
 (rfewest_l1 N N l 0 0).bind fun best_4 =>
 br (decide (best_4 = 0))
  (some (0, 6))
  (some (best_4, 0))
noncomputable def rfewest_sp (N : Nat) : Oks := []
abbrev rfewest_o : List StSh := [⟨[.i .i64, .i .i64], []⟩]
noncomputable abbrev rfewest_B : Body := mkB Tryz.f33 rfewest_o 0
abbrev rfewest_l1_at : List PI := [.c [1, 1, 0, 1, 0, 0, 0, 0], .c [1, 1, 0, 1, 0, 0, 0, 1], .c [1, 1, 0, 1, 0, 0, 1], .l [1, 1, 0, 1, 0, 0], .b 0, .c [1, 1, 1]]
abbrev rfewest_l1_st : Sta := ⟨[0, 4, 5], ⟨[.sl Ql, .i .i64, .i .i64], []⟩⟩
abbrev rfewest_l1_h (rec : Qr → Int → Int → Option Int) : Leaf Int := ⟨rfewest_l1_at, rfewest_l1_st, fun p => rec p.1.1 p.1.2.1 p.1.2.2.1⟩
abbrev rfewest_l1_e0 : Leaf Int := ⟨[.c [1, 1, 1, 0, 0], .c [1, 1, 1, 0, 1], .c [1, 1, 1, 1]], ⟨[4], ⟨[.i .i64], []⟩⟩, fun p => some (p.1.1)⟩
noncomputable def rfewest_j1_k (N : Nat) (rec : Qr → Int → Int → Option Int) {top : Bool} : JnQ (Z := Int) rfewest_B top none [rfewest_l1_h rec, rfewest_l1_e0] := mkJ (rfewest_sp N) [] [] ⟨[.c [1, 1, 0, 1, 0, 0, 1, 1], .l [1, 1, 0, 1, 0, 0], .b 0, .c [1, 1, 1]], ⟨[0, 4, 5], ⟨[.sl Ql, .i .i64, .i .i64], []⟩⟩, fun p => rfewest_j1 N rec p.1.1 p.1.2.1 p.1.2.2.1⟩ (fun p => by kernel_rfl)
noncomputable def rfewest_l1_L (N : Nat) {top : Bool} : LpQ rfewest_B top := mkL (Z := Int) (rfewest_sp N) [] rfewest_l1_at rfewest_l1_st (fun m p => rfewest_l1 N m p.1.1 p.1.2.1 p.1.2.2.1) [rfewest_l1_e0] (fun m => [rfewest_j1_k N (rfewest_l1 N m)]) (fun k e => k (.inl ((e, ()), ()))) N (fun m p => by kernel_rfl)
noncomputable def sp_rfewest (N : Nat) : Spec := mkS 33 ⟨[.sl Ql], []⟩ rfewest_o (fun p => rfewest_S N p.1.1) (fun k r => k ((r.1, r.2, ()), ()))
theorem sp_rfewest_ok (N : Nat) : SpecOK Tryz.prog (sp_rfewest N) := mkF (R := Int × Int) (m0 := 0) (rfewest_sp N) [rfewest_l1_L N] (fun r => some (r.1.1, r.1.2.1)) [] Tryz.func33 (fun p => by kernel_rfl) (by kernel_rfl) (fun _ => by kernel_rfl)

def rnever_l3 (N : Nat) : Nat → Qr → Int → Bool → Int → Int → Int → Qh → Qi → Int → Qg → Option (List Qg × Int × Bool × Int × Qh × Qi × Int × List Int)
 | 0, _, _, _, _, _, _, _, _, _, _ => none
 | n_ + 1, l, place, breaks, i, at_, k, t, t2, t3, out =>
  idx l i fun x_1 =>
  br (decide (k < (x_1.length : Int)))
   (idx l i fun x_2 =>
   idx x_2 k fun x_3 =>
   chk (at_ + x_3) <|
   br breaks
    (chk (k + 1) <|
    rnever_l3 N n_ l place true i (at_ + x_3) (k + 1) t t2 t3 out)
    (chk (k + 1) <|
    rnever_l3 N n_ l place (decide ((at_ + x_3) = place)) i (at_ + x_3) (k + 1) t t2 t3 out))
   (some ((l, place, breaks, i, t, t2, t3, out)))
def rnever_l2 (N : Nat) : Nat → Qr → Int → Bool → Int → Qh → Qi → Int → Qg → Option (List Qg × Int × Bool × Qh × Qi × Int × List Int)
 | 0, _, _, _, _, _, _, _, _ => none
 | n_ + 1, l, place, breaks, i, t, t2, t3, out =>
  br (decide (i < (l.length : Int)))
   ((rnever_l3 N N l place breaks i 0 0 t t2 t3 out).bind fun (l_4, place_5, breaks_6, i_7, t_8, t2_9, t3_10, out_11) =>
   chk (i_7 + 1) <|
   rnever_l2 N n_ l_4 place_5 breaks_6 (i_7 + 1) t_8 t2_9 t3_10 out_11)
   (some ((l, place, breaks, t, t2, t3, out)))
def rnever_j1 (N : Nat) (rec : Qr → Int → Qh → Qi → Int → Qg → Option Qg) (l : List Qg) (place : Int) (t : List Qe) (t2 : List Qf) (t3 : Int) (out : List Int) : Option Qg :=
 chk (place + 1) <|
 rec l (place + 1) t t2 t3 out
def rnever_l1 (N : Nat) : Nat → Qr → Int → Qh → Qi → Int → Qg → Option Qg
 | 0, _, _, _, _, _, _ => none
 | n_ + 1, l, place, t, t2, t3, out =>
  br (decide (place < (t.length : Int)))
   ((rnever_l2 N N l place false 0 t t2 t3 out).bind fun (l_12, place_13, breaks_14, t_15, t2_16, t3_17, out_18) =>
   br (!breaks_14)
    (lim (out_18.length + [place_13].length) <|
    rnever_j1 N (rnever_l1 N n_) l_12 place_13 t_15 t2_16 t3_17 (out_18 ++ [place_13]))
    (rnever_j1 N (rnever_l1 N n_) l_12 place_13 t_15 t2_16 t3_17 out_18))
   (some (out))
def rnever_S (N : Nat) (t : List Qe) (t2 : List Qf) (t3 : Int) (l : List Qg) : Option Qg :=
 (rnever_l1 N N l 1 t t2 t3 []).bind fun out_19 =>
 some out_19
noncomputable def rnever_sp (N : Nat) : Oks := []
abbrev rnever_o : List StSh := [⟨[.sl (.int .i64)], []⟩]
noncomputable abbrev rnever_B : Body := mkB Tryz.f49 rnever_o 0
noncomputable def rnever_l3_L (N : Nat) {top : Bool} : LpQ rnever_B top := mkL (Z := List Qg × Int × Bool × Int × Qh × Qi × Int × List Int) (rnever_sp N) [] [.c [1, 1, 0, 1, 0, 0, 1, 0, 0, 1, 0, 1, 0, 0, 1, 0, 0, 1, 1, 0, 0, 0, 0], .c [1, 1, 0, 1, 0, 0, 1, 0, 0, 1, 0, 1, 0, 0, 1, 0, 0, 1, 1, 0, 0, 0, 1], .c [1, 1, 0, 1, 0, 0, 1, 0, 0, 1, 0, 1, 0, 0, 1, 0, 0, 1, 1, 0, 0, 1], .l [1, 1, 0, 1, 0, 0, 1, 0, 0, 1, 0, 1, 0, 0, 1, 0, 0, 1, 1, 0, 0], .b 4, .b 3, .c [1, 1, 0, 1, 0, 0, 1, 0, 0, 1, 0, 1, 0, 0, 1, 1], .l [1, 1, 0, 1, 0, 0, 1, 0, 0, 1, 0, 1, 0, 0], .b 2, .c [1, 1, 0, 1, 0, 0, 1, 0, 0, 1, 1], .b 1, .c [1, 1, 0, 1, 0, 0, 1, 1], .l [1, 1, 0, 1, 0, 0], .b 0, .c [1, 1, 1]] ⟨[1, 2, 5, 6, 7, 8, 9, 10], ⟨[.sl Ql, .own 0 0, .ols 1, .i .i64, .b, .i .i64, .i .i64, .i .i64], [.segs [.sl Qd, .sl Qc, .i .i64], .lst (.int .i64)]⟩⟩ (fun m p => rnever_l3 N m p.1.1 p.1.2.2.2.1 p.1.2.2.2.2.1 p.1.2.2.2.2.2.1 p.1.2.2.2.2.2.2.1 p.1.2.2.2.2.2.2.2.1 p.2.1.1 p.2.1.2.1 p.2.1.2.2.1 p.2.2.1) [⟨[.c [1, 1, 0, 1, 0, 0, 1, 0, 0, 1, 0, 1, 0, 0, 1, 1], .l [1, 1, 0, 1, 0, 0, 1, 0, 0, 1, 0, 1, 0, 0], .b 2, .c [1, 1, 0, 1, 0, 0, 1, 0, 0, 1, 1], .b 1, .c [1, 1, 0, 1, 0, 0, 1, 1], .l [1, 1, 0, 1, 0, 0], .b 0, .c [1, 1, 1]], ⟨[1, 2, 5, 6, 7, 8], ⟨[.sl Ql, .own 0 0, .ols 1, .i .i64, .b, .i .i64], [.segs [.sl Qd, .sl Qc, .i .i64], .lst (.int .i64)]⟩⟩, fun p => some ((p.1.1, p.1.2.2.2.1, p.1.2.2.2.2.1, p.1.2.2.2.2.2.1, p.2.1.1, p.2.1.2.1, p.2.1.2.2.1, p.2.2.1))⟩] (fun _ => []) (fun k e => k (.inl ((e.1, (), (), e.2.1, e.2.2.1, e.2.2.2.1, ()), ((e.2.2.2.2.1, e.2.2.2.2.2.1, e.2.2.2.2.2.2.1, ()), e.2.2.2.2.2.2.2, ())))) N (fun m p => by kernel_rfl)
noncomputable def rnever_l2_L (N : Nat) {top : Bool} : LpQ rnever_B top := mkL (Z := List Qg × Int × Bool × Qh × Qi × Int × List Int) (rnever_sp N) [rnever_l3_L N] [.c [1, 1, 0, 1, 0, 0, 1, 0, 0, 1, 0, 1, 0, 0, 0, 0], .c [1, 1, 0, 1, 0, 0, 1, 0, 0, 1, 0, 1, 0, 0, 0, 1], .c [1, 1, 0, 1, 0, 0, 1, 0, 0, 1, 0, 1, 0, 0, 1], .l [1, 1, 0, 1, 0, 0, 1, 0, 0, 1, 0, 1, 0, 0], .b 2, .c [1, 1, 0, 1, 0, 0, 1, 0, 0, 1, 1], .b 1, .c [1, 1, 0, 1, 0, 0, 1, 1], .l [1, 1, 0, 1, 0, 0], .b 0, .c [1, 1, 1]] ⟨[1, 2, 5, 6, 7, 8], ⟨[.sl Ql, .own 0 0, .ols 1, .i .i64, .b, .i .i64], [.segs [.sl Qd, .sl Qc, .i .i64], .lst (.int .i64)]⟩⟩ (fun m p => rnever_l2 N m p.1.1 p.1.2.2.2.1 p.1.2.2.2.2.1 p.1.2.2.2.2.2.1 p.2.1.1 p.2.1.2.1 p.2.1.2.2.1 p.2.2.1) [⟨[.c [1, 1, 0, 1, 0, 0, 1, 0, 0, 1, 1, 0], .c [1, 1, 0, 1, 0, 0, 1, 0, 0, 1, 1, 1], .b 1, .c [1, 1, 0, 1, 0, 0, 1, 1], .l [1, 1, 0, 1, 0, 0], .b 0, .c [1, 1, 1]], ⟨[1, 2, 5, 6, 7], ⟨[.sl Ql, .own 0 0, .ols 1, .i .i64, .b], [.segs [.sl Qd, .sl Qc, .i .i64], .lst (.int .i64)]⟩⟩, fun p => some ((p.1.1, p.1.2.2.2.1, p.1.2.2.2.2.1, p.2.1.1, p.2.1.2.1, p.2.1.2.2.1, p.2.2.1))⟩] (fun _ => []) (fun k e => k (.inl ((e.1, (), (), e.2.1, e.2.2.1, ()), ((e.2.2.2.1, e.2.2.2.2.1, e.2.2.2.2.2.1, ()), e.2.2.2.2.2.2, ())))) N (fun m p => by kernel_rfl)
abbrev rnever_l1_at : List PI := [.c [1, 1, 0, 1, 0, 0, 0, 0], .c [1, 1, 0, 1, 0, 0, 0, 1], .c [1, 1, 0, 1, 0, 0, 1], .l [1, 1, 0, 1, 0, 0], .b 0, .c [1, 1, 1]]
abbrev rnever_l1_st : Sta := ⟨[1, 2, 5, 6], ⟨[.sl Ql, .own 0 0, .ols 1, .i .i64], [.segs [.sl Qd, .sl Qc, .i .i64], .lst (.int .i64)]⟩⟩
abbrev rnever_l1_h (rec : Qr → Int → Qh → Qi → Int → Qg → Option Qg) : Leaf Qg := ⟨rnever_l1_at, rnever_l1_st, fun p => rec p.1.1 p.1.2.2.2.1 p.2.1.1 p.2.1.2.1 p.2.1.2.2.1 p.2.2.1⟩
abbrev rnever_l1_e0 : Leaf Qg := ⟨[.c [1, 1, 1, 0], .c [1, 1, 1, 1]], ⟨[5], ⟨[.ols 0], [.lst (.int .i64)]⟩⟩, fun p => some (p.2.1)⟩
noncomputable def rnever_j1_k (N : Nat) (rec : Qr → Int → Qh → Qi → Int → Qg → Option Qg) {top : Bool} : JnQ (Z := List Int) rnever_B top none [rnever_l1_h rec, rnever_l1_e0] := mkJ (rnever_sp N) [rnever_l3_L N, rnever_l2_L N] [] ⟨[.c [1, 1, 0, 1, 0, 0, 1, 1], .l [1, 1, 0, 1, 0, 0], .b 0, .c [1, 1, 1]], ⟨[1, 2, 5, 6], ⟨[.sl Ql, .own 0 0, .ols 1, .i .i64], [.segs [.sl Qd, .sl Qc, .i .i64], .lst (.int .i64)]⟩⟩, fun p => rnever_j1 N rec p.1.1 p.1.2.2.2.1 p.2.1.1 p.2.1.2.1 p.2.1.2.2.1 p.2.2.1⟩ (fun p => by kernel_rfl)
noncomputable def rnever_l1_L (N : Nat) {top : Bool} : LpQ rnever_B top := mkL (Z := List Int) (rnever_sp N) [rnever_l3_L N, rnever_l2_L N] rnever_l1_at rnever_l1_st (fun m p => rnever_l1 N m p.1.1 p.1.2.2.2.1 p.2.1.1 p.2.1.2.1 p.2.1.2.2.1 p.2.2.1) [rnever_l1_e0] (fun m => [rnever_j1_k N (rnever_l1 N m)]) (fun k e => k (.inl (((), ()), (e, ())))) N (fun m p => by kernel_rfl)
noncomputable def sp_rnever (N : Nat) : Spec := mkS 49 ⟨[.agg [.sl Qd, .sl Qc, .i .i64], .sl Ql], []⟩ rnever_o (fun p => rnever_S N p.1.1.1 p.1.1.2.1 p.1.1.2.2.1 p.1.2.1) (fun k r => k ((r, ()), ()))
theorem sp_rnever_ok (N : Nat) : SpecOK Tryz.prog (sp_rnever N) := mkF (R := List Int) (m0 := 0) (rnever_sp N) [rnever_l3_L N, rnever_l2_L N, rnever_l1_L N] (fun r => some r.1.1) [] Tryz.func49 (fun p => by kernel_rfl) (by kernel_rfl) (fun _ => by kernel_rfl)

def tfewest_S (N : Nat) (t : List Qe) (t2 : List Qf) (t3 : Int) : Option Bool :=
 (great_S N t t2 t3 10).bind fun x_1 =>
 br x_1
  ((awake_S N).bind fun x_2 =>
  some x_2)
  ((copyx_S N t t2 t3).bind fun (x_3, y_4, y_5) =>
  (theirs_S N t t2 t3).bind fun (x_6, y_7, y_8) =>
  (fewest_S N x_3 y_4 y_5).bind fun (x_9, y_10) =>
  (count_S N x_3 y_4 y_5).bind fun (x_11, y_12) =>
  (never_S N x_3 y_4 y_5).bind fun (x_13, y_14) =>
  (rcheck_S N x_6 y_7 y_8).bind fun x_15 =>
  br (!decide (x_15 = 0))
   (br (decide (y_10 = x_15))
    (br (decide (y_12 = x_15))
     (br (decide (y_14 = x_15))
      (chk ((x_9.length : Int) + x_11) <|
      chk (((x_9.length : Int) + x_11) + (x_13.length : Int)) <|
      br (decide ((((x_9.length : Int) + x_11) + (x_13.length : Int)) = 0))
       ((awake_S N).bind fun x_16 =>
       some x_16)
       (some false))
      (some false))
     (some false))
    (some false))
   ((rright_S N x_6 y_7 y_8).bind fun x_17 =>
   (rfewest_S N x_17).bind fun (x_18, y_19) =>
   br (!decide (y_10 = y_19))
    (some false)
    (br (!decide (y_14 = y_19))
     (some false)
     (br (!decide (y_12 = 0))
      (some false)
      (br (!decide (x_11 = (x_17.length : Int)))
       (some false)
       (br (!decide ((x_9.length : Int) = x_18))
        (some false)
        (br (!decide (y_19 = 0))
         (br (decide ((x_13.length : Int) = 0))
          ((same_S N x_3 y_4 y_5 t t2 t3).bind fun x_20 =>
          br x_20
           ((awake_S N).bind fun x_21 =>
           some x_21)
           (some false))
          (some false))
         ((rwrong_S N x_6 y_7 y_8 x_9).bind fun (x_22, y_23, y_24) =>
         br (decide (y_24 = 6))
          ((rnever_S N x_6 y_7 y_8 x_17).bind fun x_25 =>
          (likei_S N x_13 x_25).bind fun x_26 =>
          br x_26
           ((same_S N x_3 y_4 y_5 t t2 t3).bind fun x_27 =>
           br x_27
            ((awake_S N).bind fun x_28 =>
            some x_28)
            (some false))
           (some false))
          (some false)))))))))
noncomputable def sp_tfewest (N : Nat) : Spec := mkS 10 ⟨[.agg [.sl Qd, .sl Qc, .i .i64]], []⟩ [⟨[.b], []⟩] (fun p => tfewest_S N p.1.1.1 p.1.1.2.1 p.1.1.2.2.1) (fun k r => k ((r, ()), ()))
theorem sp_tfewest_ok (N : Nat) : SpecOK Tryz.prog (sp_tfewest N) := mkF (R := Bool) (m0 := 0) [⟨_, sp_fewest_ok N⟩, ⟨_, sp_count_ok N⟩, ⟨_, sp_never_ok N⟩, ⟨_, sp_likei_ok N⟩, ⟨_, sp_awake_ok N⟩, ⟨_, sp_copyx_ok N⟩, ⟨_, sp_same_ok N⟩, ⟨_, sp_theirs_ok N⟩, ⟨_, sp_great_ok N⟩, ⟨_, sp_rcheck_ok N⟩, ⟨_, sp_rwrong_ok N⟩, ⟨_, sp_rright_ok N⟩, ⟨_, sp_rfewest_ok N⟩, ⟨_, sp_rnever_ok N⟩] [] (fun r => some r.1.1) [] Tryz.func10 (fun p => by kernel_rfl) (by kernel_rfl) (fun _ => by kernel_rfl)

def rlongest_l2 (N : Nat) : Nat → Qg → Int → Int → Int → Int → Int → Qh → Qi → Int → Option (List Int × Int × Int × Int × Int × Qh × Qi × Int)
 | 0, _, _, _, _, _, _, _, _, _ => none
 | n_ + 1, l, most, at_, i, n, w, t, t2, t3 =>
  idx l i fun x_1 =>
  chk (at_ + x_1) <|
  br (decide (w < (at_ + x_1)))
   (idx t w fun x_2 =>
   chk (n + x_2.1) <|
   chk (w + 1) <|
   rlongest_l2 N n_ l most at_ i (n + x_2.1) (w + 1) t t2 t3)
   (some ((l, most, at_, i, n, t, t2, t3)))
def rlongest_l1 (N : Nat) : Nat → Qg → Int → Int → Int → Qh → Qi → Int → Option Int
 | 0, _, _, _, _, _, _, _ => none
 | n_ + 1, l, most, at_, i, t, t2, t3 =>
  br (decide (i < (l.length : Int)))
   ((rlongest_l2 N N l most at_ i 0 at_ t t2 t3).bind fun (l_3, most_4, at__5, i_6, n_7, t_8, t2_9, t3_10) =>
   idx l_3 i_6 fun x_11 =>
   chk (at__5 + x_11) <|
   chk (i_6 + 1) <|
   rlongest_l1 N n_ l_3 (max most_4 n_7) (at__5 + x_11) (i_6 + 1) t_8 t2_9 t3_10)
   (some (most))
def rlongest_S (N : Nat) (t : List Qe) (t2 : List Qf) (t3 : Int) (l : List Int) : Option Int :=
 (rlongest_l1 N N l 0 0 0 t t2 t3).bind fun most_12 =>
 some most_12
noncomputable def rlongest_sp (N : Nat) : Oks := []
abbrev rlongest_o : List StSh := [⟨[.i .i64], []⟩]
noncomputable abbrev rlongest_B : Body := mkB Tryz.f54 rlongest_o 0
noncomputable def rlongest_l2_L (N : Nat) {top : Bool} : LpQ rlongest_B top := mkL (Z := List Int × Int × Int × Int × Int × Qh × Qi × Int) (rlongest_sp N) [] [.c [1, 1, 0, 1, 0, 0, 1, 0, 0, 1, 0, 1, 0, 0, 0, 0], .c [1, 1, 0, 1, 0, 0, 1, 0, 0, 1, 0, 1, 0, 0, 0, 1], .c [1, 1, 0, 1, 0, 0, 1, 0, 0, 1, 0, 1, 0, 0, 1], .l [1, 1, 0, 1, 0, 0, 1, 0, 0, 1, 0, 1, 0, 0], .b 2, .c [1, 1, 0, 1, 0, 0, 1, 0, 0, 1, 1], .b 1, .c [1, 1, 0, 1, 0, 0, 1, 1], .l [1, 1, 0, 1, 0, 0], .b 0, .c [1, 1, 1]] ⟨[1, 2, 5, 6, 7, 8, 9], ⟨[.sl (.int .i64), .own 0 0, .i .i64, .i .i64, .i .i64, .i .i64, .i .i64], [.segs [.sl Qd, .sl Qc, .i .i64]]⟩⟩ (fun m p => rlongest_l2 N m p.1.1 p.1.2.2.1 p.1.2.2.2.1 p.1.2.2.2.2.1 p.1.2.2.2.2.2.1 p.1.2.2.2.2.2.2.1 p.2.1.1 p.2.1.2.1 p.2.1.2.2.1) [⟨[.c [1, 1, 0, 1, 0, 0, 1, 0, 0, 1, 1, 0], .c [1, 1, 0, 1, 0, 0, 1, 0, 0, 1, 1, 1], .b 1, .c [1, 1, 0, 1, 0, 0, 1, 1], .l [1, 1, 0, 1, 0, 0], .b 0, .c [1, 1, 1]], ⟨[1, 2, 5, 6, 7, 8], ⟨[.sl (.int .i64), .own 0 0, .i .i64, .i .i64, .i .i64, .i .i64], [.segs [.sl Qd, .sl Qc, .i .i64]]⟩⟩, fun p => some ((p.1.1, p.1.2.2.1, p.1.2.2.2.1, p.1.2.2.2.2.1, p.1.2.2.2.2.2.1, p.2.1.1, p.2.1.2.1, p.2.1.2.2.1))⟩] (fun _ => []) (fun k e => k (.inl ((e.1, (), e.2.1, e.2.2.1, e.2.2.2.1, e.2.2.2.2.1, ()), ((e.2.2.2.2.2.1, e.2.2.2.2.2.2.1, e.2.2.2.2.2.2.2, ()), ())))) N (fun m p => by kernel_rfl)
noncomputable def rlongest_l1_L (N : Nat) {top : Bool} : LpQ rlongest_B top := mkL (Z := Int) (rlongest_sp N) [rlongest_l2_L N] [.c [1, 1, 0, 1, 0, 0, 0, 0], .c [1, 1, 0, 1, 0, 0, 0, 1], .c [1, 1, 0, 1, 0, 0, 1], .l [1, 1, 0, 1, 0, 0], .b 0, .c [1, 1, 1]] ⟨[1, 2, 5, 6, 7], ⟨[.sl (.int .i64), .own 0 0, .i .i64, .i .i64, .i .i64], [.segs [.sl Qd, .sl Qc, .i .i64]]⟩⟩ (fun m p => rlongest_l1 N m p.1.1 p.1.2.2.1 p.1.2.2.2.1 p.1.2.2.2.2.1 p.2.1.1 p.2.1.2.1 p.2.1.2.2.1) [⟨[.c [1, 1, 1, 0], .c [1, 1, 1, 1]], ⟨[5], ⟨[.i .i64], []⟩⟩, fun p => some (p.1.1)⟩] (fun _ => []) (fun k e => k (.inl ((e, ()), ()))) N (fun m p => by kernel_rfl)
noncomputable def sp_rlongest (N : Nat) : Spec := mkS 54 ⟨[.agg [.sl Qd, .sl Qc, .i .i64], .sl (.int .i64)], []⟩ rlongest_o (fun p => rlongest_S N p.1.1.1 p.1.1.2.1 p.1.1.2.2.1 p.1.2.1) (fun k r => k ((r, ()), ()))
theorem sp_rlongest_ok (N : Nat) : SpecOK Tryz.prog (sp_rlongest N) := mkF (R := Int) (m0 := 0) (rlongest_sp N) [rlongest_l2_L N, rlongest_l1_L N] (fun r => some r.1.1) [] Tryz.func54 (fun p => by kernel_rfl) (by kernel_rfl) (fun _ => by kernel_rfl)

def reven_j1 (N : Nat) (rec : Qr → Int → Int → Int → Qh → Qi → Int → Option Qn) (l : List Qg) (many most i : Int) (t : List Qe) (t2 : List Qf) (t3 : Int) : Option Qn :=
 chk (i + 1) <|
 rec l many most (i + 1) t t2 t3
def reven_l1 (N : Nat) : Nat → Qr → Int → Int → Int → Qh → Qi → Int → Option Qn
 | 0, _, _, _, _, _, _, _ => none
 | n_ + 1, l, many, most, i, t, t2, t3 =>
  br (decide (i < (l.length : Int)))
   (idx l i fun x_1 =>
   (rlongest_S N t t2 t3 x_1).bind fun x_2 =>
   br (decide (i = 0))
    (idx l i fun x_3 =>
    reven_j1 N (reven_l1 N n_) l (x_3.length : Int) x_2 i t t2 t3)
    (br (decide (x_2 < most))
     (idx l i fun x_4 =>
     reven_j1 N (reven_l1 N n_) l (x_4.length : Int) x_2 i t t2 t3)
     (br (decide (x_2 = most))
      (idx l i fun x_5 =>
      br (decide ((x_5.length : Int) < many))
       (idx l i fun x_6 =>
       reven_j1 N (reven_l1 N n_) l (x_6.length : Int) x_2 i t t2 t3)
       (reven_j1 N (reven_l1 N n_) l many most i t t2 t3))
      (reven_j1 N (reven_l1 N n_) l many most i t t2 t3))))
   (some ((many, most)))
def reven_S (N : Nat) (t : List Qe) (t2 : List Qf) (t3 : Int) (l : List Qg) : Option Qn :=
 (reven_l1 N N l 0 0 0 t t2 t3).bind fun (many_7, most_8) =>
 some (many_7, most_8)
noncomputable def reven_sp (N : Nat) : Oks := [⟨_, sp_rlongest_ok N⟩]
abbrev reven_o : List StSh := [⟨[.i .i64, .i .i64], []⟩]
noncomputable abbrev reven_B : Body := mkB Tryz.f53 reven_o 0
abbrev reven_l1_at : List PI := [.c [1, 1, 0, 1, 0, 0, 0, 0], .c [1, 1, 0, 1, 0, 0, 0, 1], .c [1, 1, 0, 1, 0, 0, 1], .l [1, 1, 0, 1, 0, 0], .b 0, .c [1, 1, 1]]
abbrev reven_l1_st : Sta := ⟨[1, 2, 6, 7, 8], ⟨[.sl Ql, .own 0 0, .i .i64, .i .i64, .i .i64], [.segs [.sl Qd, .sl Qc, .i .i64]]⟩⟩
abbrev reven_l1_h (rec : Qr → Int → Int → Int → Qh → Qi → Int → Option Qn) : Leaf Qn := ⟨reven_l1_at, reven_l1_st, fun p => rec p.1.1 p.1.2.2.1 p.1.2.2.2.1 p.1.2.2.2.2.1 p.2.1.1 p.2.1.2.1 p.2.1.2.2.1⟩
abbrev reven_l1_e0 : Leaf Qn := ⟨[.c [1, 1, 1, 0], .c [1, 1, 1, 1]], ⟨[6, 7], ⟨[.i .i64, .i .i64], []⟩⟩, fun p => some ((p.1.1, p.1.2.1))⟩
noncomputable def reven_j1_k (N : Nat) (rec : Qr → Int → Int → Int → Qh → Qi → Int → Option Qn) {top : Bool} : JnQ (Z := Int × Int) reven_B top none [reven_l1_h rec, reven_l1_e0] := mkJ (reven_sp N) [] [] ⟨[.c [1, 1, 0, 1, 0, 0, 1, 1], .l [1, 1, 0, 1, 0, 0], .b 0, .c [1, 1, 1]], ⟨[1, 2, 6, 7, 8], ⟨[.sl Ql, .own 0 0, .i .i64, .i .i64, .i .i64], [.segs [.sl Qd, .sl Qc, .i .i64]]⟩⟩, fun p => reven_j1 N rec p.1.1 p.1.2.2.1 p.1.2.2.2.1 p.1.2.2.2.2.1 p.2.1.1 p.2.1.2.1 p.2.1.2.2.1⟩ (fun p => by kernel_rfl)
noncomputable def reven_l1_L (N : Nat) {top : Bool} : LpQ reven_B top := mkL (Z := Int × Int) (reven_sp N) [] reven_l1_at reven_l1_st (fun m p => reven_l1 N m p.1.1 p.1.2.2.1 p.1.2.2.2.1 p.1.2.2.2.2.1 p.2.1.1 p.2.1.2.1 p.2.1.2.2.1) [reven_l1_e0] (fun m => [reven_j1_k N (reven_l1 N m)]) (fun k e => k (.inl ((e.1, e.2, ()), ()))) N (fun m p => by kernel_rfl)
noncomputable def sp_reven (N : Nat) : Spec := mkS 53 ⟨[.agg [.sl Qd, .sl Qc, .i .i64], .sl Ql], []⟩ reven_o (fun p => reven_S N p.1.1.1 p.1.1.2.1 p.1.1.2.2.1 p.1.2.1) (fun k r => k ((r.1, r.2, ()), ()))
theorem sp_reven_ok (N : Nat) : SpecOK Tryz.prog (sp_reven N) := mkF (R := Int × Int) (m0 := 0) (reven_sp N) [reven_l1_L N] (fun r => some (r.1.1, r.1.2.1)) [] Tryz.func53 (fun p => by kernel_rfl) (by kernel_rfl) (fun _ => by kernel_rfl)

def rsure_j1 (N : Nat) (rec : Qr → Int → Qh → Qi → Int → Qr → Option Qr) (l : List Qg) (i : Int) (t : List Qe) (t2 : List Qf) (t3 : Int) (out : List Qg) : Option Qr :=
 chk (i + 1) <|
 rec l (i + 1) t t2 t3 out
def rsure_l1 (N : Nat) : Nat → Qr → Int → Qh → Qi → Int → Qr → Option Qr
 | 0, _, _, _, _, _, _ => none
 | n_ + 1, l, i, t, t2, t3, out =>
  br (decide (i < (l.length : Int)))
   (idx l i fun x_1 =>
   (rastray_S N t t2 t3 x_1).bind fun (x_2, y_3, y_4, y_5) =>
   br (!y_5)
    (idx l i fun x_6 =>
    lim (out.length + [x_6].length) <|
    rsure_j1 N (rsure_l1 N n_) l i t t2 t3 (out ++ [x_6]))
    (rsure_j1 N (rsure_l1 N n_) l i t t2 t3 out))
   (some (out))
def rsure_S (N : Nat) (t : List Qe) (t2 : List Qf) (t3 : Int) (l : List Qg) : Option Qr :=
 (rsure_l1 N N l 0 t t2 t3 []).bind fun out_7 =>
 some out_7
noncomputable def rsure_sp (N : Nat) : Oks := [⟨_, sp_rastray_ok N⟩]
abbrev rsure_o : List StSh := [⟨[.sl Ql], []⟩]
noncomputable abbrev rsure_B : Body := mkB Tryz.f52 rsure_o 0
abbrev rsure_l1_at : List PI := [.c [1, 1, 0, 1, 0, 0, 0, 0], .c [1, 1, 0, 1, 0, 0, 0, 1], .c [1, 1, 0, 1, 0, 0, 1], .l [1, 1, 0, 1, 0, 0], .b 0, .c [1, 1, 1]]
abbrev rsure_l1_st : Sta := ⟨[1, 2, 5, 6], ⟨[.sl Ql, .own 0 0, .ols 1, .i .i64], [.segs [.sl Qd, .sl Qc, .i .i64], .lst Ql]⟩⟩
abbrev rsure_l1_h (rec : Qr → Int → Qh → Qi → Int → Qr → Option Qr) : Leaf Qr := ⟨rsure_l1_at, rsure_l1_st, fun p => rec p.1.1 p.1.2.2.2.1 p.2.1.1 p.2.1.2.1 p.2.1.2.2.1 p.2.2.1⟩
abbrev rsure_l1_e0 : Leaf Qr := ⟨[.c [1, 1, 1, 0], .c [1, 1, 1, 1]], ⟨[5], ⟨[.ols 0], [.lst Ql]⟩⟩, fun p => some (p.2.1)⟩
noncomputable def rsure_j1_k (N : Nat) (rec : Qr → Int → Qh → Qi → Int → Qr → Option Qr) {top : Bool} : JnQ (Z := List Qg) rsure_B top none [rsure_l1_h rec, rsure_l1_e0] := mkJ (rsure_sp N) [] [] ⟨[.c [1, 1, 0, 1, 0, 0, 1, 1], .l [1, 1, 0, 1, 0, 0], .b 0, .c [1, 1, 1]], ⟨[1, 2, 5, 6], ⟨[.sl Ql, .own 0 0, .ols 1, .i .i64], [.segs [.sl Qd, .sl Qc, .i .i64], .lst Ql]⟩⟩, fun p => rsure_j1 N rec p.1.1 p.1.2.2.2.1 p.2.1.1 p.2.1.2.1 p.2.1.2.2.1 p.2.2.1⟩ (fun p => by kernel_rfl)
noncomputable def rsure_l1_L (N : Nat) {top : Bool} : LpQ rsure_B top := mkL (Z := List Qg) (rsure_sp N) [] rsure_l1_at rsure_l1_st (fun m p => rsure_l1 N m p.1.1 p.1.2.2.2.1 p.2.1.1 p.2.1.2.1 p.2.1.2.2.1 p.2.2.1) [rsure_l1_e0] (fun m => [rsure_j1_k N (rsure_l1 N m)]) (fun k e => k (.inl (((), ()), (e, ())))) N (fun m p => by kernel_rfl)
noncomputable def sp_rsure (N : Nat) : Spec := mkS 52 ⟨[.agg [.sl Qd, .sl Qc, .i .i64], .sl Ql], []⟩ rsure_o (fun p => rsure_S N p.1.1.1 p.1.1.2.1 p.1.1.2.2.1 p.1.2.1) (fun k r => k ((r, ()), ()))
theorem sp_rsure_ok (N : Nat) : SpecOK Tryz.prog (sp_rsure N) := mkF (R := List Qg) (m0 := 0) (rsure_sp N) [rsure_l1_L N] (fun r => some r.1.1) [] Tryz.func52 (fun p => by kernel_rfl) (by kernel_rfl) (fun _ => by kernel_rfl)

def teven1_S (N : Nat) (k : List Int) (u : Qg) : Option Bool :=
 (likei_S N k u).bind fun x_1 =>
 some x_1
noncomputable def sp_teven1 (N : Nat) : Spec := mkS 56 ⟨[.sl (.int .i64), .fe Ql], []⟩ [⟨[.b], []⟩] (fun p => teven1_S N p.1.1 p.1.2.1) (fun k r => k ((r, ()), ()))
theorem sp_teven1_ok (N : Nat) : SpecOK Tryz.prog (sp_teven1 N) := mkF (R := Bool) (m0 := 0) [⟨_, sp_likei_ok N⟩] [] (fun r => some r.1.1) [] Tryz.func56 (fun p => by kernel_rfl) (by kernel_rfl) (fun _ => by kernel_rfl)

def ixfte_l1 (N : Nat) : Nat → Qr → (Qg) → Int → Int → Option ((Int) ⊕ (Unit))
 | 0, _, _, _, _ => none
 | n_ + 1, s, f, u, u2 =>
  br (decide (u2 < u))
   (idx s u2 fun x_1 =>
   (teven1_S N x_1 f).bind fun x_2 =>
   br x_2
    (some (.inl u2))
    (chk (u2 + 1) <|
    ixfte_l1 N n_ s f u (u2 + 1)))
   (some (.inr ()))
def ixfte_S (N : Nat) (s : List Qg) (f : Qg) : Option Int :=
 (ixfte_l1 N N s f (s.length : Int) 0).bind fun e => match e with
 | .inl i_3 =>
  some i_3
 | .inr _ =>
  some (-1)
noncomputable def ixfte_sp (N : Nat) : Oks := [⟨_, sp_teven1_ok N⟩]
abbrev ixfte_o : List StSh := [⟨[.i .i64], []⟩]
noncomputable abbrev ixfte_B : Body := mkB Tryz.f109 ixfte_o 0
noncomputable def ixfte_l1_L (N : Nat) {top : Bool} : LpQ ixfte_B top := mkL (Z := (Int) ⊕ (Unit)) (ixfte_sp N) [] [.c [1, 0, 1, 0, 0, 0], .c [1, 0, 1, 0, 0, 1], .l [1, 0, 1, 0, 0], .b 0, .c [1, 1]] ⟨[0, 1, 7, 8], ⟨[.sl Ql, .fn 56 [] [.fe Ql], .i .i64, .i .i64], []⟩⟩ (fun m p => ixfte_l1 N m p.1.1 p.1.2.1.2.1 p.1.2.2.1 p.1.2.2.2.1) [⟨[.c [1, 0, 1, 0, 0, 1, 1, 0, 0, 1, 1, 0, 0], .c [1, 0, 1, 0, 0, 1, 1, 0, 0, 1, 1, 0, 1], .b 1, .c [1, 0, 1, 0, 0, 1, 1, 1], .l [1, 0, 1, 0, 0], .b 0, .c [1, 1]], ⟨[5], ⟨[.i .i64], []⟩⟩, fun p => some (.inl p.1.1)⟩, ⟨[.c [1, 1, 0], .c [1, 1, 1]], ⟨[], ⟨[], []⟩⟩, fun p => some (.inr ())⟩] (fun _ => []) (fun k e => match e with | .inl x => k (.inl ((x, ()), ())) | .inr x => k (.inr (.inl ((), ())))) N (fun m p => by kernel_rfl) (hg := (by rintro _ _ (_ | _) <;> rfl))
noncomputable def sp_ixfte (N : Nat) : Spec := mkS 109 ⟨[.sl Ql, .fn 56 [] [.fe Ql]], []⟩ ixfte_o (fun p => ixfte_S N p.1.1 p.1.2.1.2.1) (fun k r => k ((r, ()), ()))
theorem sp_ixfte_ok (N : Nat) : SpecOK Tryz.prog (sp_ixfte N) := mkF (R := Int) (m0 := 0) (ixfte_sp N) [ixfte_l1_L N] (fun r => some r.1.1) [] Tryz.func109 (fun p => by kernel_rfl) (by kernel_rfl) (fun _ => by kernel_rfl)

def cofte_S (N : Nat) (s : List Qg) (f : Qg) : Option Bool :=
 (ixfte_S N s f).bind fun x_1 =>
 some (decide (0 ≤ x_1))
noncomputable def sp_cofte (N : Nat) : Spec := mkS 55 ⟨[.sl Ql, .fn 56 [] [.fe Ql]], []⟩ [⟨[.b], []⟩] (fun p => cofte_S N p.1.1 p.1.2.1.2.1) (fun k r => k ((r, ()), ()))
theorem sp_cofte_ok (N : Nat) : SpecOK Tryz.prog (sp_cofte N) := mkF (R := Bool) (m0 := 0) [⟨_, sp_ixfte_ok N⟩] [] (fun r => some r.1.1) [] Tryz.func55 (fun p => by kernel_rfl) (by kernel_rfl) (fun _ => by kernel_rfl)

def teven_j1 (N : Nat) (f : Int) (sure : List Qg) (t : List Qe) (t2 : List Qf) (t3 : Int) (own : List Qe) (own2 : List Qf) (own3 : Int) (s : List Int) : Option Bool :=
 br (decide (f = 0))
  ((cofte_S N sure s).bind fun x_28 =>
  br (!x_28)
   (some false)
   ((same_S N own own2 own3 t t2 t3).bind fun x_29 =>
   br x_29
    ((awake_S N).bind fun x_30 =>
    some x_30)
    (some false)))
  ((same_S N own own2 own3 t t2 t3).bind fun x_31 =>
  br x_31
   ((awake_S N).bind fun x_32 =>
   some x_32)
   (some false))
def teven_S (N : Nat) (t : List Qe) (t2 : List Qf) (t3 : Int) : Option Bool :=
 (great_S N t t2 t3 9).bind fun x_1 =>
 br x_1
  ((awake_S N).bind fun x_2 =>
  some x_2)
  ((copyx_S N t t2 t3).bind fun (x_3, y_4, y_5) =>
  (theirs_S N t t2 t3).bind fun (x_6, y_7, y_8) =>
  (even_S N x_3 y_4 y_5).bind fun (x_9, y_10, y_11) =>
  (surest_S N x_3 y_4 y_5).bind fun (x_12, y_13) =>
  (rcheck_S N x_6 y_7 y_8).bind fun x_14 =>
  br (!decide (x_14 = 0))
   (br (decide (y_11 = x_14))
    (br (decide (y_13 = x_14))
     (chk ((x_9.length : Int) + y_10) <|
     chk (((x_9.length : Int) + y_10) + (x_12.length : Int)) <|
     br (decide ((((x_9.length : Int) + y_10) + (x_12.length : Int)) = 0))
      ((awake_S N).bind fun x_15 =>
      some x_15)
      (some false))
     (some false))
    (some false))
   ((rright_S N x_6 y_7 y_8).bind fun x_16 =>
   (rsure_S N x_6 y_7 y_8 x_16).bind fun x_17 =>
   (rfewest_S N x_16).bind fun (x_18, y_19) =>
   (reven_S N x_6 y_7 y_8 x_16).bind fun (x_20, y_21) =>
   (rfewest_S N x_17).bind fun (x_22, y_23) =>
   br (!decide (y_11 = y_19))
    (some false)
    (br (!decide (y_13 = y_23))
     (some false)
     (br (!decide (y_10 = y_21))
      (some false)
      (br (!decide ((x_9.length : Int) = x_20))
       (some false)
       (br (!decide ((x_12.length : Int) = x_22))
        (some false)
        (br (decide (y_11 = 0))
         ((rwrong_S N x_6 y_7 y_8 x_9).bind fun (x_24, y_25, y_26) =>
         br (!decide (y_26 = 6))
          (some false)
          ((rlongest_S N x_6 y_7 y_8 x_9).bind fun x_27 =>
          br (!decide (x_27 = y_21))
           (some false)
           (teven_j1 N y_13 x_17 t t2 t3 x_3 y_4 y_5 x_12)))
         (teven_j1 N y_13 x_17 t t2 t3 x_3 y_4 y_5 x_12))))))))
noncomputable def teven_sp (N : Nat) : Oks := [⟨_, sp_even_ok N⟩, ⟨_, sp_surest_ok N⟩, ⟨_, sp_awake_ok N⟩, ⟨_, sp_copyx_ok N⟩, ⟨_, sp_same_ok N⟩, ⟨_, sp_theirs_ok N⟩, ⟨_, sp_great_ok N⟩, ⟨_, sp_rcheck_ok N⟩, ⟨_, sp_rwrong_ok N⟩, ⟨_, sp_rright_ok N⟩, ⟨_, sp_rfewest_ok N⟩, ⟨_, sp_rlongest_ok N⟩, ⟨_, sp_reven_ok N⟩, ⟨_, sp_rsure_ok N⟩, ⟨_, sp_cofte_ok N⟩]
abbrev teven_o : List StSh := [⟨[.b], []⟩]
noncomputable abbrev teven_B : Body := mkB Tryz.f11 teven_o 0
abbrev teven_rt : altD teven_o → Option Bool := fun r => some r.1.1
noncomputable def teven_j1_k (N : Nat) : JnQ (Z := Bool) teven_B true (some teven_rt) [] := mkJ (teven_sp N) [] [] ⟨[.c [1, 1, 1, 1, 1, 1, 1, 1, 1, 1, 1, 1, 1, 0, 0], .c [1, 1, 1, 1, 1, 1, 1, 1, 1, 1, 1, 1, 1, 0, 1], .c [1, 1, 1, 1, 1, 1, 1, 1, 1, 1, 1, 1, 1, 1]], ⟨[1, 3, 8, 9, 12], ⟨[.own 0 0, .own 1 0, .own 2 0, .i .i64, .sl Ql], [.segs [.sl Qd, .sl Qc, .i .i64], .segs [.sl Qd, .sl Qc, .i .i64], .segs [.sl (.int .i64)]]⟩⟩, fun p => teven_j1 N p.1.2.2.2.1 p.1.2.2.2.2.1 p.2.1.1 p.2.1.2.1 p.2.1.2.2.1 p.2.2.1.1 p.2.2.1.2.1 p.2.2.1.2.2.1 p.2.2.2.1.1⟩ (fun p => by kernel_rfl)
noncomputable def sp_teven (N : Nat) : Spec := mkS 11 ⟨[.agg [.sl Qd, .sl Qc, .i .i64]], []⟩ teven_o (fun p => teven_S N p.1.1.1 p.1.1.2.1 p.1.1.2.2.1) (fun k r => k ((r, ()), ()))
theorem sp_teven_ok (N : Nat) : SpecOK Tryz.prog (sp_teven N) := mkF (R := Bool) (m0 := 0) (teven_sp N) [] (teven_rt) [teven_j1_k N] Tryz.func11 (fun p => by kernel_rfl) (by kernel_rfl) (fun _ => by kernel_rfl)

def lists_l1 (N : Nat) : Nat → Int → Int → Qh → Qi → Int → Option Int
 | 0, _, _, _, _, _ => none
 | n_ + 1, n, i, t, t2, t3 =>
  br (decide (i < (t.length : Int)))
   (chk (2 * n) <|
   chk (i + 1) <|
   lists_l1 N n_ (2 * n) (i + 1) t t2 t3)
   (some (n))
def lists_S (N : Nat) (t : List Qe) (t2 : List Qf) (t3 : Int) : Option Int :=
 (lists_l1 N N 1 0 t t2 t3).bind fun n_1 =>
 some n_1
noncomputable def lists_sp (N : Nat) : Oks := []
abbrev lists_o : List StSh := [⟨[.i .i64], []⟩]
noncomputable abbrev lists_B : Body := mkB Tryz.f91 lists_o 0
noncomputable def lists_l1_L (N : Nat) {top : Bool} : LpQ lists_B top := mkL (Z := Int) (lists_sp N) [] [.c [1, 1, 0, 1, 0, 0, 0, 0], .c [1, 1, 0, 1, 0, 0, 0, 1], .c [1, 1, 0, 1, 0, 0, 1], .l [1, 1, 0, 1, 0, 0], .b 0, .c [1, 1, 1]] ⟨[1, 3, 4], ⟨[.own 0 0, .i .i64, .i .i64], [.segs [.sl Qd, .sl Qc, .i .i64]]⟩⟩ (fun m p => lists_l1 N m p.1.2.1 p.1.2.2.1 p.2.1.1 p.2.1.2.1 p.2.1.2.2.1) [⟨[.c [1, 1, 1, 0], .c [1, 1, 1, 1]], ⟨[3], ⟨[.i .i64], []⟩⟩, fun p => some (p.1.1)⟩] (fun _ => []) (fun k e => k (.inl ((e, ()), ()))) N (fun m p => by kernel_rfl)
noncomputable def sp_lists (N : Nat) : Spec := mkS 91 ⟨[.agg [.sl Qd, .sl Qc, .i .i64]], []⟩ lists_o (fun p => lists_S N p.1.1.1 p.1.1.2.1 p.1.1.2.2.1) (fun k r => k ((r, ()), ()))
theorem sp_lists_ok (N : Nat) : SpecOK Tryz.prog (sp_lists N) := mkF (R := Int) (m0 := 0) (lists_sp N) [lists_l1_L N] (fun r => some r.1.1) [] Tryz.func91 (fun p => by kernel_rfl) (by kernel_rfl) (fun _ => by kernel_rfl)

def list__j1 (N : Nat) (rec : Int → Int → Qg → Option Qg) (n w : Int) (out : List Int) : Option Qg :=
 chk (w + 1) <|
 rec (IntKind.i64.wrap (Int.tdiv n 2)) (w + 1) out
def list__l1 (N : Nat) : Nat → Int → Int → Qg → Option Qg
 | 0, _, _, _ => none
 | n_ + 1, n, w, out =>
  br (decide (0 < n))
   (br (decide ((Int.tmod n 2) = 1))
    (lim (out.length + [w].length) <|
    list__j1 N (list__l1 N n_) n w (out ++ [w]))
    (list__j1 N (list__l1 N n_) n w out))
   (some (out))
def list__S (N : Nat) (n : Int) : Option Qg :=
 (list__l1 N N n 0 []).bind fun out_1 =>
 some out_1
noncomputable def list__sp (N : Nat) : Oks := []
abbrev list__o : List StSh := [⟨[.sl (.int .i64)], []⟩]
noncomputable abbrev list__B : Body := mkB Tryz.f92 list__o 0
abbrev list__l1_at : List PI := [.c [1, 1, 0, 1, 0, 0, 0, 0], .c [1, 1, 0, 1, 0, 0, 0, 1], .c [1, 1, 0, 1, 0, 0, 1], .l [1, 1, 0, 1, 0, 0], .b 0, .c [1, 1, 1]]
abbrev list__l1_st : Sta := ⟨[0, 3, 4], ⟨[.i .i64, .ols 0, .i .i64], [.lst (.int .i64)]⟩⟩
abbrev list__l1_h (rec : Int → Int → Qg → Option Qg) : Leaf Qg := ⟨list__l1_at, list__l1_st, fun p => rec p.1.1 p.1.2.2.1 p.2.1⟩
abbrev list__l1_e0 : Leaf Qg := ⟨[.c [1, 1, 1, 0], .c [1, 1, 1, 1]], ⟨[3], ⟨[.ols 0], [.lst (.int .i64)]⟩⟩, fun p => some (p.2.1)⟩
noncomputable def list__j1_k (N : Nat) (rec : Int → Int → Qg → Option Qg) {top : Bool} : JnQ (Z := List Int) list__B top none [list__l1_h rec, list__l1_e0] := mkJ (list__sp N) [] [] ⟨[.c [1, 1, 0, 1, 0, 0, 1, 0, 0, 1], .b 1, .c [1, 1, 0, 1, 0, 0, 1, 1], .l [1, 1, 0, 1, 0, 0], .b 0, .c [1, 1, 1]], ⟨[0, 3, 4], ⟨[.i .i64, .ols 0, .i .i64], [.lst (.int .i64)]⟩⟩, fun p => list__j1 N rec p.1.1 p.1.2.2.1 p.2.1⟩ (fun p => by kernel_rfl)
noncomputable def list__l1_L (N : Nat) {top : Bool} : LpQ list__B top := mkL (Z := List Int) (list__sp N) [] list__l1_at list__l1_st (fun m p => list__l1 N m p.1.1 p.1.2.2.1 p.2.1) [list__l1_e0] (fun m => [list__j1_k N (list__l1 N m)]) (fun k e => k (.inl (((), ()), (e, ())))) N (fun m p => by kernel_rfl)
noncomputable def sp_list_ (N : Nat) : Spec := mkS 92 ⟨[.i .i64], []⟩ list__o (fun p => list__S N p.1.1) (fun k r => k ((r, ()), ()))
theorem sp_list__ok (N : Nat) : SpecOK Tryz.prog (sp_list_ N) := mkF (R := List Int) (m0 := 0) (list__sp N) [list__l1_L N] (fun r => some r.1.1) [] Tryz.func92 (fun p => by kernel_rfl) (by kernel_rfl) (fun _ => by kernel_rfl)

def before_l1 (N : Nat) : Nat → Qg → Qg → Int → Option ((List Int × List Int × Int) ⊕ (Unit))
 | 0, _, _, _ => none
 | n_ + 1, a, b, i =>
  br (decide (i < (a.length : Int)))
   (idx a i fun x_1 =>
   idx b i fun x_2 =>
   br (!decide (x_1 = x_2))
    (some (.inl (a, b, i)))
    (chk (i + 1) <|
    before_l1 N n_ a b (i + 1)))
   (some (.inr ()))
def before_S (N : Nat) (a b : List Int) : Option Bool :=
 (before_l1 N N a b 0).bind fun e => match e with
 | .inl (a_3, b_4, i_5) =>
  idx a_3 i_5 fun x_6 =>
  idx b_4 i_5 fun x_7 =>
  some (decide (x_6 < x_7))
 | .inr _ =>
  some false
noncomputable def before_sp (N : Nat) : Oks := []
abbrev before_o : List StSh := [⟨[.b], []⟩]
noncomputable abbrev before_B : Body := mkB Tryz.f93 before_o 0
noncomputable def before_l1_L (N : Nat) {top : Bool} : LpQ before_B top := mkL (Z := (List Int × List Int × Int) ⊕ (Unit)) (before_sp N) [] [.c [1, 0, 1, 0, 0, 0, 0], .c [1, 0, 1, 0, 0, 0, 1], .c [1, 0, 1, 0, 0, 1], .l [1, 0, 1, 0, 0], .b 0, .c [1, 1]] ⟨[0, 1, 5], ⟨[.sl (.int .i64), .sl (.int .i64), .i .i64], []⟩⟩ (fun m p => before_l1 N m p.1.1 p.1.2.1 p.1.2.2.1) [⟨[.c [1, 0, 1, 0, 0, 1, 0, 0, 1, 0, 0], .c [1, 0, 1, 0, 0, 1, 0, 0, 1, 0, 1], .b 1, .c [1, 0, 1, 0, 0, 1, 1], .l [1, 0, 1, 0, 0], .b 0, .c [1, 1]], ⟨[0, 1, 5], ⟨[.sl (.int .i64), .sl (.int .i64), .i .i64], []⟩⟩, fun p => some (.inl (p.1.1, p.1.2.1, p.1.2.2.1))⟩, ⟨[.c [1, 1, 0], .c [1, 1, 1]], ⟨[], ⟨[], []⟩⟩, fun p => some (.inr ())⟩] (fun _ => []) (fun k e => match e with | .inl x => k (.inl ((x.1, x.2.1, x.2.2, ()), ())) | .inr x => k (.inr (.inl ((), ())))) N (fun m p => by kernel_rfl) (hg := (by rintro _ _ (_ | _) <;> rfl))
noncomputable def sp_before (N : Nat) : Spec := mkS 93 ⟨[.sl (.int .i64), .sl (.int .i64)], []⟩ before_o (fun p => before_S N p.1.1 p.1.2.1) (fun k r => k ((r, ()), ()))
theorem sp_before_ok (N : Nat) : SpecOK Tryz.prog (sp_before N) := mkF (R := Bool) (m0 := 0) (before_sp N) [before_l1_L N] (fun r => some r.1.1) [] Tryz.func93 (fun p => by kernel_rfl) (by kernel_rfl) (fun _ => by kernel_rfl)

def rleast_j1 (N : Nat) (rec : Int → Qg → Int → Qh → Qi → Int → Option Qg) (weight : Int) (best : List Int) (n : Int) (t : List Qe) (t2 : List Qf) (t3 : Int) : Option Qg :=
 chk (n + 1) <|
 rec weight best (n + 1) t t2 t3
def rleast_l1 (N : Nat) : Nat → Int → Qg → Int → Qh → Qi → Int → Option Qg
 | 0, _, _, _, _, _, _ => none
 | n_ + 1, weight, best, n, t, t2, t3 =>
  (lists_S N t t2 t3).bind fun x_2 =>
  br (decide (n < x_2))
   ((list__S N n).bind fun x_3 =>
   (said_S N t t2 t3 x_3).bind fun x_4 =>
   br (decide (0 < (x_4.length : Int)))
    (rleast_j1 N (rleast_l1 N n_) weight best n t t2 t3)
    ((rweight_S N t t2 t3 x_3).bind fun x_5 =>
    br (decide (x_5 < weight))
     (rleast_j1 N (rleast_l1 N n_) weight best n t t2 t3)
     (br (decide ((best.length : Int) = 0))
      (rleast_j1 N (rleast_l1 N n_) weight x_3 n t t2 t3)
      (br (decide ((x_3.length : Int) < (best.length : Int)))
       (rleast_j1 N (rleast_l1 N n_) weight x_3 n t t2 t3)
       (br (decide ((x_3.length : Int) = (best.length : Int)))
        ((before_S N x_3 best).bind fun x_6 =>
        br x_6
         (rleast_j1 N (rleast_l1 N n_) weight x_3 n t t2 t3)
         (rleast_j1 N (rleast_l1 N n_) weight best n t t2 t3))
        (rleast_j1 N (rleast_l1 N n_) weight best n t t2 t3))))))
   (some (best))
def rleast_S (N : Nat) (t : List Qe) (t2 : List Qf) (t3 weight : Int) : Option (List Int × Int) :=
 (rcheck_S N t t2 t3).bind fun x_1 =>
 br (!decide (x_1 = 0))
  (some ([], x_1))
  (br (decide (weight < 0))
   (some ([], 3))
   ((rleast_l1 N N weight [] 1 t t2 t3).bind fun best_7 =>
   br (decide ((best_7.length : Int) = 0))
    (some ([], 6))
    (some (best_7, 0))))
noncomputable def rleast_sp (N : Nat) : Oks := [⟨_, sp_rcheck_ok N⟩, ⟨_, sp_said_ok N⟩, ⟨_, sp_rweight_ok N⟩, ⟨_, sp_lists_ok N⟩, ⟨_, sp_list__ok N⟩, ⟨_, sp_before_ok N⟩]
abbrev rleast_o : List StSh := [⟨[.sl (.int .i64), .i .i64], []⟩]
noncomputable abbrev rleast_B : Body := mkB Tryz.f44 rleast_o 0
abbrev rleast_l1_at : List PI := [.c [1, 1, 1, 1, 0, 1, 0, 0, 0, 0], .c [1, 1, 1, 1, 0, 1, 0, 0, 0, 1], .c [1, 1, 1, 1, 0, 1, 0, 0, 1], .l [1, 1, 1, 1, 0, 1, 0, 0], .b 0, .c [1, 1, 1, 1, 1]]
abbrev rleast_l1_st : Sta := ⟨[1, 2, 7, 8], ⟨[.i .i64, .own 0 0, .sl (.int .i64), .i .i64], [.segs [.sl Qd, .sl Qc, .i .i64]]⟩⟩
abbrev rleast_l1_h (rec : Int → Qg → Int → Qh → Qi → Int → Option Qg) : Leaf Qg := ⟨rleast_l1_at, rleast_l1_st, fun p => rec p.1.1 p.1.2.2.1 p.1.2.2.2.1 p.2.1.1 p.2.1.2.1 p.2.1.2.2.1⟩
abbrev rleast_l1_e0 : Leaf Qg := ⟨[.c [1, 1, 1, 1, 1, 0, 0], .c [1, 1, 1, 1, 1, 0, 1], .c [1, 1, 1, 1, 1, 1]], ⟨[7], ⟨[.sl (.int .i64)], []⟩⟩, fun p => some (p.1.1)⟩
noncomputable def rleast_j1_k (N : Nat) (rec : Int → Qg → Int → Qh → Qi → Int → Option Qg) {top : Bool} : JnQ (Z := List Int) rleast_B top none [rleast_l1_h rec, rleast_l1_e0] := mkJ (rleast_sp N) [] [] ⟨[.c [1, 1, 1, 1, 0, 1, 0, 0, 1, 1], .l [1, 1, 1, 1, 0, 1, 0, 0], .b 0, .c [1, 1, 1, 1, 1]], ⟨[1, 2, 7, 8], ⟨[.i .i64, .own 0 0, .sl (.int .i64), .i .i64], [.segs [.sl Qd, .sl Qc, .i .i64]]⟩⟩, fun p => rleast_j1 N rec p.1.1 p.1.2.2.1 p.1.2.2.2.1 p.2.1.1 p.2.1.2.1 p.2.1.2.2.1⟩ (fun p => by kernel_rfl)
noncomputable def rleast_l1_L (N : Nat) {top : Bool} : LpQ rleast_B top := mkL (Z := List Int) (rleast_sp N) [] rleast_l1_at rleast_l1_st (fun m p => rleast_l1 N m p.1.1 p.1.2.2.1 p.1.2.2.2.1 p.2.1.1 p.2.1.2.1 p.2.1.2.2.1) [rleast_l1_e0] (fun m => [rleast_j1_k N (rleast_l1 N m)]) (fun k e => k (.inl ((e, ()), ()))) N (fun m p => by kernel_rfl)
noncomputable def sp_rleast (N : Nat) : Spec := mkS 44 ⟨[.agg [.sl Qd, .sl Qc, .i .i64], .i .i64], []⟩ rleast_o (fun p => rleast_S N p.1.1.1 p.1.1.2.1 p.1.1.2.2.1 p.1.2.1) (fun k r => k ((r.1, r.2, ()), ()))
theorem sp_rleast_ok (N : Nat) : SpecOK Tryz.prog (sp_rleast N) := mkF (R := List Int × Int) (m0 := 0) (rleast_sp N) [rleast_l1_L N] (fun r => some (r.1.1, r.1.2.1)) [] Tryz.func44 (fun p => by kernel_rfl) (by kernel_rfl) (fun _ => by kernel_rfl)

def wordso_l1 (N : Nat) : Nat → Int → Int → Qg → Option Qg
 | 0, _, _, _ => none
 | n_ + 1, to, w, out =>
  br (decide (w < to))
   (lim (out.length + [w].length) <|
   chk (w + 1) <|
   wordso_l1 N n_ to (w + 1) (out ++ [w]))
   (some (out))
def wordso_S (N : Nat) (from_ to : Int) : Option Qg :=
 (wordso_l1 N N to from_ []).bind fun out_1 =>
 some out_1
noncomputable def wordso_sp (N : Nat) : Oks := []
abbrev wordso_o : List StSh := [⟨[.ols 0], [.lst (.int .i64)]⟩]
noncomputable abbrev wordso_B : Body := mkB Tryz.f79 wordso_o 0
noncomputable def wordso_l1_L (N : Nat) {top : Bool} : LpQ wordso_B top := mkL (Z := List Int) (wordso_sp N) [] [.c [1, 1, 0, 1, 0, 0, 0, 0], .c [1, 1, 0, 1, 0, 0, 0, 1], .c [1, 1, 0, 1, 0, 0, 1], .l [1, 1, 0, 1, 0, 0], .b 0, .c [1, 1, 1]] ⟨[1, 5, 6], ⟨[.i .i64, .ols 0, .i .i64], [.lst (.int .i64)]⟩⟩ (fun m p => wordso_l1 N m p.1.1 p.1.2.2.1 p.2.1) [⟨[.c [1, 1, 1, 0], .c [1, 1, 1, 1]], ⟨[5], ⟨[.ols 0], [.lst (.int .i64)]⟩⟩, fun p => some (p.2.1)⟩] (fun _ => []) (fun k e => k (.inl (((), ()), (e, ())))) N (fun m p => by kernel_rfl)
noncomputable def sp_wordso (N : Nat) : Spec := mkS 79 ⟨[.i .i64, .i .i64], []⟩ wordso_o (fun p => wordso_S N p.1.1 p.1.2.1) (fun k r => k (((), ()), (r, ())))
theorem sp_wordso_ok (N : Nat) : SpecOK Tryz.prog (sp_wordso N) := mkF (R := List Int) (m0 := 0) (wordso_sp N) [wordso_l1_L N] (fun r => some r.2.1) [] Tryz.func79 (fun p => by kernel_rfl) (by kernel_rfl) (fun _ => by kernel_rfl)

def rspare_j1 (N : Nat) (rec : Int → Qh → Qi → Int → Qg → Option Qg) (w : Int) (t : List Qe) (t2 : List Qf) (t3 : Int) (out : List Int) : Option Qg :=
 chk (w + 1) <|
 rec (w + 1) t t2 t3 out
def rspare_l1 (N : Nat) : Nat → Int → Qh → Qi → Int → Qg → Option Qg
 | 0, _, _, _, _, _ => none
 | n_ + 1, w, t, t2, t3, out =>
  br (decide (w < (t.length : Int)))
   (br (decide (1 < (t.length : Int)))
    ((wordso_S N 0 w).bind fun x_2 =>
    chk (w + 1) <|
    (wordso_S N (w + 1) (t.length : Int)).bind fun x_3 =>
    lim (x_2.length + x_3.length) <|
    (said_S N t t2 t3 (x_2 ++ x_3)).bind fun x_4 =>
    br (decide ((x_4.length : Int) = 0))
     (lim (out.length + [w].length) <|
     rspare_j1 N (rspare_l1 N n_) w t t2 t3 (out ++ [w]))
     (rspare_j1 N (rspare_l1 N n_) w t t2 t3 out))
    (some (out)))
   (some (out))
def rspare_S (N : Nat) (t : List Qe) (t2 : List Qf) (t3 : Int) : Option (List Int × Int) :=
 (rcheck_S N t t2 t3).bind fun x_1 =>
 br (!decide (x_1 = 0))
  (some ([], x_1))
  ((rspare_l1 N N 0 t t2 t3 []).bind fun out_5 =>
  some (out_5, 0))
noncomputable def rspare_sp (N : Nat) : Oks := [⟨_, sp_wordso_ok N⟩, ⟨_, sp_rcheck_ok N⟩, ⟨_, sp_said_ok N⟩]
abbrev rspare_o : List StSh := [⟨[.sl (.int .i64), .i .i64], []⟩]
noncomputable abbrev rspare_B : Body := mkB Tryz.f46 rspare_o 0
abbrev rspare_l1_at : List PI := [.c [1, 1, 1, 0, 1, 0, 0, 0, 0], .c [1, 1, 1, 0, 1, 0, 0, 0, 1], .c [1, 1, 1, 0, 1, 0, 0, 1], .l [1, 1, 1, 0, 1, 0, 0], .b 0, .c [1, 1, 1, 1]]
abbrev rspare_l1_st : Sta := ⟨[1, 5, 6], ⟨[.own 0 0, .ols 1, .i .i64], [.segs [.sl Qd, .sl Qc, .i .i64], .lst (.int .i64)]⟩⟩
abbrev rspare_l1_h (rec : Int → Qh → Qi → Int → Qg → Option Qg) : Leaf Qg := ⟨rspare_l1_at, rspare_l1_st, fun p => rec p.1.2.2.1 p.2.1.1 p.2.1.2.1 p.2.1.2.2.1 p.2.2.1⟩
abbrev rspare_l1_e0 : Leaf Qg := ⟨[.c [1, 1, 1, 1, 0], .c [1, 1, 1, 1, 1]], ⟨[5], ⟨[.ols 0], [.lst (.int .i64)]⟩⟩, fun p => some (p.2.1)⟩
noncomputable def rspare_j1_k (N : Nat) (rec : Int → Qh → Qi → Int → Qg → Option Qg) {top : Bool} : JnQ (Z := List Int) rspare_B top none [rspare_l1_h rec, rspare_l1_e0] := mkJ (rspare_sp N) [] [] ⟨[.c [1, 1, 1, 0, 1, 0, 0, 1, 1], .l [1, 1, 1, 0, 1, 0, 0], .b 0, .c [1, 1, 1, 1]], ⟨[1, 5, 6], ⟨[.own 0 0, .ols 1, .i .i64], [.segs [.sl Qd, .sl Qc, .i .i64], .lst (.int .i64)]⟩⟩, fun p => rspare_j1 N rec p.1.2.2.1 p.2.1.1 p.2.1.2.1 p.2.1.2.2.1 p.2.2.1⟩ (fun p => by kernel_rfl)
noncomputable def rspare_l1_L (N : Nat) {top : Bool} : LpQ rspare_B top := mkL (Z := List Int) (rspare_sp N) [] rspare_l1_at rspare_l1_st (fun m p => rspare_l1 N m p.1.2.2.1 p.2.1.1 p.2.1.2.1 p.2.1.2.2.1 p.2.2.1) [rspare_l1_e0] (fun m => [rspare_j1_k N (rspare_l1 N m)]) (fun k e => k (.inl (((), ()), (e, ())))) N (fun m p => by kernel_rfl)
noncomputable def sp_rspare (N : Nat) : Spec := mkS 46 ⟨[.agg [.sl Qd, .sl Qc, .i .i64]], []⟩ rspare_o (fun p => rspare_S N p.1.1.1 p.1.1.2.1 p.1.1.2.2.1) (fun k r => k ((r.1, r.2, ()), ()))
theorem sp_rspare_ok (N : Nat) : SpecOK Tryz.prog (sp_rspare N) := mkF (R := List Int × Int) (m0 := 0) (rspare_sp N) [rspare_l1_L N] (fun r => some (r.1.1, r.1.2.1)) [] Tryz.func46 (fun p => by kernel_rfl) (by kernel_rfl) (fun _ => by kernel_rfl)

def tleast_S (N : Nat) (t : List Qe) (t2 : List Qf) (t3 weight : Int) : Option Bool :=
 (great_S N t t2 t3 10).bind fun x_1 =>
 br x_1
  ((awake_S N).bind fun x_2 =>
  some x_2)
  ((copyx_S N t t2 t3).bind fun (x_3, y_4, y_5) =>
  (theirs_S N t t2 t3).bind fun (x_6, y_7, y_8) =>
  (least_S N x_3 y_4 y_5 weight).bind fun (x_9, y_10) =>
  (rleast_S N x_6 y_7 y_8 weight).bind fun (x_11, y_12) =>
  br (!decide (y_10 = y_12))
   (some false)
   ((likei_S N x_9 x_11).bind fun x_13 =>
   br (!x_13)
    (some false)
    ((spare_S N x_3 y_4 y_5).bind fun (x_14, y_15) =>
    (rspare_S N x_6 y_7 y_8).bind fun (x_16, y_17) =>
    br (decide (y_15 = y_17))
     ((likei_S N x_14 x_16).bind fun x_18 =>
     br x_18
      ((same_S N x_3 y_4 y_5 t t2 t3).bind fun x_19 =>
      br x_19
       ((awake_S N).bind fun x_20 =>
       some x_20)
       (some false))
      (some false))
     (some false))))
noncomputable def sp_tleast (N : Nat) : Spec := mkS 9 ⟨[.agg [.sl Qd, .sl Qc, .i .i64], .i .i64], []⟩ [⟨[.b], []⟩] (fun p => tleast_S N p.1.1.1 p.1.1.2.1 p.1.1.2.2.1 p.1.2.1) (fun k r => k ((r, ()), ()))
theorem sp_tleast_ok (N : Nat) : SpecOK Tryz.prog (sp_tleast N) := mkF (R := Bool) (m0 := 0) [⟨_, sp_spare_ok N⟩, ⟨_, sp_least_ok N⟩, ⟨_, sp_likei_ok N⟩, ⟨_, sp_awake_ok N⟩, ⟨_, sp_copyx_ok N⟩, ⟨_, sp_same_ok N⟩, ⟨_, sp_theirs_ok N⟩, ⟨_, sp_great_ok N⟩, ⟨_, sp_rleast_ok N⟩, ⟨_, sp_rspare_ok N⟩] [] (fun r => some r.1.1) [] Tryz.func9 (fun p => by kernel_rfl) (by kernel_rfl) (fun _ => by kernel_rfl)

def rshows_l1 (N : Nat) : Nat → Qg → Int → Qh → Qi → Int → Option ((Unit) ⊕ (List Int × Qh × Qi × Int))
 | 0, _, _, _, _, _ => none
 | n_ + 1, marks, i, t, t2, t3 =>
  br (decide (i < (marks.length : Int)))
   (idx marks i fun x_2 =>
   (off_S N x_2 0 99).bind fun x_3 =>
   br x_3
    (some (.inl ()))
    (chk (i + 1) <|
    rshows_l1 N n_ marks (i + 1) t t2 t3))
   (some (.inr (marks, t, t2, t3)))
def rshows_j1 (N : Nat) (rec : Qg → Bool → Int → Int → Qh → Qi → Int → Option (List Int × Bool × Int × Qh × Qi × Int)) (marks : List Int) (holds : Bool) (from_ to : Int) (t : List Qe) (t2 : List Qf) (t3 : Int) : Option (List Int × Bool × Int × Qh × Qi × Int) :=
 chk (to + 1) <|
 rec marks holds from_ (to + 1) t t2 t3
def rshows_l3 (N : Nat) : Nat → Qg → Bool → Int → Int → Qh → Qi → Int → Option (List Int × Bool × Int × Qh × Qi × Int)
 | 0, _, _, _, _, _, _, _ => none
 | n_ + 1, marks, holds, from_, to, t, t2, t3 =>
  br (decide (to ≤ (t.length : Int)))
   ((rfault_S N t t2 t3 from_ to).bind fun x_9 =>
   br (decide (x_9 < 0))
    (idx marks to fun x_10 =>
    idx marks from_ fun x_11 =>
    chk (x_11 + 1) <|
    br (decide ((x_11 + 1) < x_10))
     (rshows_j1 N (rshows_l3 N n_) marks false from_ to t t2 t3)
     (rshows_j1 N (rshows_l3 N n_) marks holds from_ to t t2 t3))
    (rshows_j1 N (rshows_l3 N n_) marks holds from_ to t t2 t3))
   (some ((marks, holds, from_, t, t2, t3)))
def rshows_l2 (N : Nat) : Nat → Qg → Bool → Int → Qh → Qi → Int → Option (List Int × Bool × Qh × Qi × Int)
 | 0, _, _, _, _, _, _ => none
 | n_ + 1, marks, holds, from_, t, t2, t3 =>
  br (decide (from_ < (t.length : Int)))
   (chk (from_ + 1) <|
   (rshows_l3 N N marks holds from_ (from_ + 1) t t2 t3).bind fun (marks_12, holds_13, from__14, t_15, t2_16, t3_17) =>
   chk (from__14 + 1) <|
   rshows_l2 N n_ marks_12 holds_13 (from__14 + 1) t_15 t2_16 t3_17)
   (some ((marks, holds, t, t2, t3)))
def rshows_S (N : Nat) (t : List Qe) (t2 : List Qf) (t3 : Int) (marks : List Int) : Option Qn :=
 (rcheck_S N t t2 t3).bind fun x_1 =>
 br (!decide (x_1 = 0))
  (some (0, x_1))
  (chk ((t.length : Int) + 1) <|
  br (!decide ((marks.length : Int) = ((t.length : Int) + 1)))
   (some (0, 2))
   ((rshows_l1 N N marks 0 t t2 t3).bind fun e => match e with
   | .inl _ =>
    some (0, 3)
   | .inr (marks_4, t_5, t2_6, t3_7) =>
    idx marks_4 0 fun x_8 =>
    (rshows_l2 N N marks_4 (decide (x_8 = 0)) 0 t_5 t2_6 t3_7).bind fun (marks_18, holds_19, t_20, t2_21, t3_22) =>
    br (!holds_19)
     (some (0, 8))
     (idx marks_18 (t_20.length : Int) fun x_23 =>
     some (x_23, 0))))
noncomputable def rshows_sp (N : Nat) : Oks := [⟨_, sp_off_ok N⟩, ⟨_, sp_rcheck_ok N⟩, ⟨_, sp_rfault_ok N⟩]
abbrev rshows_o : List StSh := [⟨[.i .i64, .i .i64], []⟩]
noncomputable abbrev rshows_B : Body := mkB Tryz.f30 rshows_o 0
noncomputable def rshows_l1_L (N : Nat) {top : Bool} : LpQ rshows_B top := mkL (Z := (Unit) ⊕ (List Int × Qh × Qi × Int)) (rshows_sp N) [] [.c [1, 1, 1, 0, 1, 0, 0, 0, 0], .c [1, 1, 1, 0, 1, 0, 0, 0, 1], .c [1, 1, 1, 0, 1, 0, 0, 1], .l [1, 1, 1, 0, 1, 0, 0], .b 0, .c [1, 1, 1, 1]] ⟨[1, 2, 7], ⟨[.sl (.int .i64), .own 0 0, .i .i64], [.segs [.sl Qd, .sl Qc, .i .i64]]⟩⟩ (fun m p => rshows_l1 N m p.1.1 p.1.2.2.1 p.2.1.1 p.2.1.2.1 p.2.1.2.2.1) [⟨[.c [1, 1, 1, 0, 1, 0, 0, 1, 0, 0, 1, 0, 0], .c [1, 1, 1, 0, 1, 0, 0, 1, 0, 0, 1, 0, 1], .b 1, .c [1, 1, 1, 0, 1, 0, 0, 1, 1], .l [1, 1, 1, 0, 1, 0, 0], .b 0, .c [1, 1, 1, 1]], ⟨[], ⟨[], []⟩⟩, fun p => some (.inl ())⟩, ⟨[.c [1, 1, 1, 1, 0], .c [1, 1, 1, 1, 1]], ⟨[1, 2], ⟨[.sl (.int .i64), .own 0 0], [.segs [.sl Qd, .sl Qc, .i .i64]]⟩⟩, fun p => some (.inr (p.1.1, p.2.1.1, p.2.1.2.1, p.2.1.2.2.1))⟩] (fun _ => []) (fun k e => match e with | .inl x => k (.inl ((), ())) | .inr x => k (.inr (.inl ((x.1, (), ()), ((x.2.1, x.2.2.1, x.2.2.2, ()), ()))))) N (fun m p => by kernel_rfl) (hg := (by rintro _ _ (_ | _) <;> rfl))
abbrev rshows_l3_at : List PI := [.c [1, 1, 1, 1, 1, 0, 1, 0, 0, 1, 0, 0, 1, 0, 0, 0, 0], .c [1, 1, 1, 1, 1, 0, 1, 0, 0, 1, 0, 0, 1, 0, 0, 0, 1], .c [1, 1, 1, 1, 1, 0, 1, 0, 0, 1, 0, 0, 1, 0, 0, 1], .l [1, 1, 1, 1, 1, 0, 1, 0, 0, 1, 0, 0, 1, 0, 0], .b 4, .b 3, .c [1, 1, 1, 1, 1, 0, 1, 0, 0, 1, 1], .l [1, 1, 1, 1, 1, 0, 1, 0, 0], .b 2, .c [1, 1, 1, 1, 1, 1]]
abbrev rshows_l3_st : Sta := ⟨[1, 2, 8, 9, 10], ⟨[.sl (.int .i64), .own 0 0, .b, .i .i64, .i .i64], [.segs [.sl Qd, .sl Qc, .i .i64]]⟩⟩
abbrev rshows_l3_h (rec : Qg → Bool → Int → Int → Qh → Qi → Int → Option (List Int × Bool × Int × Qh × Qi × Int)) : Leaf (List Int × Bool × Int × Qh × Qi × Int) := ⟨rshows_l3_at, rshows_l3_st, fun p => rec p.1.1 p.1.2.2.1 p.1.2.2.2.1 p.1.2.2.2.2.1 p.2.1.1 p.2.1.2.1 p.2.1.2.2.1⟩
abbrev rshows_l3_e0 : Leaf (List Int × Bool × Int × Qh × Qi × Int) := ⟨[.c [1, 1, 1, 1, 1, 0, 1, 0, 0, 1, 1], .l [1, 1, 1, 1, 1, 0, 1, 0, 0], .b 2, .c [1, 1, 1, 1, 1, 1]], ⟨[1, 2, 8, 9], ⟨[.sl (.int .i64), .own 0 0, .b, .i .i64], [.segs [.sl Qd, .sl Qc, .i .i64]]⟩⟩, fun p => some ((p.1.1, p.1.2.2.1, p.1.2.2.2.1, p.2.1.1, p.2.1.2.1, p.2.1.2.2.1))⟩
noncomputable def rshows_j1_k (N : Nat) (rec : Qg → Bool → Int → Int → Qh → Qi → Int → Option (List Int × Bool × Int × Qh × Qi × Int)) {top : Bool} : JnQ (Z := List Int × Bool × Int × Qh × Qi × Int) rshows_B top none [rshows_l3_h rec, rshows_l3_e0] := mkJ (rshows_sp N) [rshows_l1_L N] [] ⟨[.c [1, 1, 1, 1, 1, 0, 1, 0, 0, 1, 0, 0, 1, 0, 0, 1, 1], .l [1, 1, 1, 1, 1, 0, 1, 0, 0, 1, 0, 0, 1, 0, 0], .b 4, .b 3, .c [1, 1, 1, 1, 1, 0, 1, 0, 0, 1, 1], .l [1, 1, 1, 1, 1, 0, 1, 0, 0], .b 2, .c [1, 1, 1, 1, 1, 1]], ⟨[1, 2, 8, 9, 10], ⟨[.sl (.int .i64), .own 0 0, .b, .i .i64, .i .i64], [.segs [.sl Qd, .sl Qc, .i .i64]]⟩⟩, fun p => rshows_j1 N rec p.1.1 p.1.2.2.1 p.1.2.2.2.1 p.1.2.2.2.2.1 p.2.1.1 p.2.1.2.1 p.2.1.2.2.1⟩ (fun p => by kernel_rfl)
noncomputable def rshows_l3_L (N : Nat) {top : Bool} : LpQ rshows_B top := mkL (Z := List Int × Bool × Int × Qh × Qi × Int) (rshows_sp N) [rshows_l1_L N] rshows_l3_at rshows_l3_st (fun m p => rshows_l3 N m p.1.1 p.1.2.2.1 p.1.2.2.2.1 p.1.2.2.2.2.1 p.2.1.1 p.2.1.2.1 p.2.1.2.2.1) [rshows_l3_e0] (fun m => [rshows_j1_k N (rshows_l3 N m)]) (fun k e => k (.inl ((e.1, (), e.2.1, e.2.2.1, ()), ((e.2.2.2.1, e.2.2.2.2.1, e.2.2.2.2.2, ()), ())))) N (fun m p => by kernel_rfl)
noncomputable def rshows_l2_L (N : Nat) {top : Bool} : LpQ rshows_B top := mkL (Z := List Int × Bool × Qh × Qi × Int) (rshows_sp N) [rshows_l1_L N, rshows_l3_L N] [.c [1, 1, 1, 1, 1, 0, 1, 0, 0, 0, 0], .c [1, 1, 1, 1, 1, 0, 1, 0, 0, 0, 1], .c [1, 1, 1, 1, 1, 0, 1, 0, 0, 1], .l [1, 1, 1, 1, 1, 0, 1, 0, 0], .b 2, .c [1, 1, 1, 1, 1, 1]] ⟨[1, 2, 8, 9], ⟨[.sl (.int .i64), .own 0 0, .b, .i .i64], [.segs [.sl Qd, .sl Qc, .i .i64]]⟩⟩ (fun m p => rshows_l2 N m p.1.1 p.1.2.2.1 p.1.2.2.2.1 p.2.1.1 p.2.1.2.1 p.2.1.2.2.1) [⟨[.c [1, 1, 1, 1, 1, 1, 0, 0], .c [1, 1, 1, 1, 1, 1, 0, 1], .c [1, 1, 1, 1, 1, 1, 1]], ⟨[1, 2, 8], ⟨[.sl (.int .i64), .own 0 0, .b], [.segs [.sl Qd, .sl Qc, .i .i64]]⟩⟩, fun p => some ((p.1.1, p.1.2.2.1, p.2.1.1, p.2.1.2.1, p.2.1.2.2.1))⟩] (fun _ => []) (fun k e => k (.inl ((e.1, (), e.2.1, ()), ((e.2.2.1, e.2.2.2.1, e.2.2.2.2, ()), ())))) N (fun m p => by kernel_rfl)
noncomputable def sp_rshows (N : Nat) : Spec := mkS 30 ⟨[.agg [.sl Qd, .sl Qc, .i .i64], .sl (.int .i64)], []⟩ rshows_o (fun p => rshows_S N p.1.1.1 p.1.1.2.1 p.1.1.2.2.1 p.1.2.1) (fun k r => k ((r.1, r.2, ()), ()))
theorem sp_rshows_ok (N : Nat) : SpecOK Tryz.prog (sp_rshows N) := mkF (R := Int × Int) (m0 := 0) (rshows_sp N) [rshows_l1_L N, rshows_l3_L N, rshows_l2_L N] (fun r => some (r.1.1, r.1.2.1)) [] Tryz.func30 (fun p => by kernel_rfl) (by kernel_rfl) (fun _ => by kernel_rfl)

def rlone_j1 (N : Nat) (rec : Qg → Int → Qg → Bool → Int → Int → Int → Int → Qh → Qi → Int → Option Qp) (best : List Int) (n : Int) (l : List Int) (alone : Bool) (from_ to many i : Int) (t : List Qe) (t2 : List Qf) (t3 : Int) : Option Qp :=
 chk (i + 1) <|
 rec best n l alone from_ to many (i + 1) t t2 t3
def rlone_l4 (N : Nat) : Nat → Qg → Int → Qg → Bool → Int → Int → Int → Int → Qh → Qi → Int → Option Qp
 | 0, _, _, _, _, _, _, _, _, _, _, _ => none
 | n_ + 1, best, n, l, alone, from_, to, many, i, t, t2, t3 =>
  br (decide (i < (l.length : Int)))
   (idx l i fun x_3 =>
   br (decide (from_ ≤ x_3))
    (idx l i fun x_4 =>
    br (decide (x_4 < to))
     (chk (many + 1) <|
     rlone_j1 N (rlone_l4 N n_) best n l alone from_ to (many + 1) i t t2 t3)
     (rlone_j1 N (rlone_l4 N n_) best n l alone from_ to many i t t2 t3))
    (rlone_j1 N (rlone_l4 N n_) best n l alone from_ to many i t t2 t3))
   (some ((best, n, l, alone, from_, to, many, t, t2, t3)))
def rlone_j2 (N : Nat) (rec : Qg → Int → Qg → Bool → Int → Int → Qh → Qi → Int → Option Qs) (best : List Int) (n : Int) (l : List Int) (alone : Bool) (from_ to : Int) (t : List Qe) (t2 : List Qf) (t3 : Int) : Option Qs :=
 chk (to + 1) <|
 rec best n l alone from_ (to + 1) t t2 t3
def rlone_l3 (N : Nat) : Nat → Qg → Int → Qg → Bool → Int → Int → Qh → Qi → Int → Option Qs
 | 0, _, _, _, _, _, _, _, _, _ => none
 | n_ + 1, best, n, l, alone, from_, to, t, t2, t3 =>
  br (decide (to ≤ (t.length : Int)))
   ((rlone_l4 N N best n l alone from_ to 0 0 t t2 t3).bind fun (best_5, n_6, l_7, alone_8, from__9, to_10, many_11, t_12, t2_13, t3_14) =>
   br (decide (1 < many_11))
    (br alone_8
     ((rfault_S N t_12 t2_13 t3_14 from__9 to_10).bind fun x_15 =>
     br (decide (x_15 < 0))
      (rlone_j2 N (rlone_l3 N n_) best_5 n_6 l_7 false from__9 to_10 t_12 t2_13 t3_14)
      (rlone_j2 N (rlone_l3 N n_) best_5 n_6 l_7 alone_8 from__9 to_10 t_12 t2_13 t3_14))
     (rlone_j2 N (rlone_l3 N n_) best_5 n_6 l_7 alone_8 from__9 to_10 t_12 t2_13 t3_14))
    (rlone_j2 N (rlone_l3 N n_) best_5 n_6 l_7 alone_8 from__9 to_10 t_12 t2_13 t3_14))
   (some ((best, n, l, alone, from_, t, t2, t3)))
def rlone_l2 (N : Nat) : Nat → Qg → Int → Qg → Bool → Int → Qh → Qi → Int → Option (List Int × Int × List Int × Bool × Qh × Qi × Int)
 | 0, _, _, _, _, _, _, _, _ => none
 | n_ + 1, best, n, l, alone, from_, t, t2, t3 =>
  br (decide (from_ < (t.length : Int)))
   (chk (from_ + 1) <|
   (rlone_l3 N N best n l alone from_ (from_ + 1) t t2 t3).bind fun (best_16, n_17, l_18, alone_19, from__20, t_21, t2_22, t3_23) =>
   chk (from__20 + 1) <|
   rlone_l2 N n_ best_16 n_17 l_18 alone_19 (from__20 + 1) t_21 t2_22 t3_23)
   (some ((best, n, l, alone, t, t2, t3)))
def rlone_j3 (N : Nat) (rec : Qg → Int → Qh → Qi → Int → Option Qg) (best : List Int) (n : Int) (t : List Qe) (t2 : List Qf) (t3 : Int) : Option Qg :=
 chk (n + 1) <|
 rec best (n + 1) t t2 t3
def rlone_l1 (N : Nat) : Nat → Qg → Int → Qh → Qi → Int → Option Qg
 | 0, _, _, _, _, _ => none
 | n_ + 1, best, n, t, t2, t3 =>
  (lists_S N t t2 t3).bind fun x_1 =>
  br (decide (n < x_1))
   ((list__S N n).bind fun x_2 =>
   (rlone_l2 N N best n x_2 true 0 t t2 t3).bind fun (best_24, n_25, l_26, alone_27, t_28, t2_29, t3_30) =>
   br alone_27
    (br (decide ((best_24.length : Int) < (l_26.length : Int)))
     (rlone_j3 N (rlone_l1 N n_) l_26 n_25 t_28 t2_29 t3_30)
     (br (decide ((l_26.length : Int) = (best_24.length : Int)))
      ((before_S N l_26 best_24).bind fun x_31 =>
      br x_31
       (rlone_j3 N (rlone_l1 N n_) l_26 n_25 t_28 t2_29 t3_30)
       (rlone_j3 N (rlone_l1 N n_) best_24 n_25 t_28 t2_29 t3_30))
      (rlone_j3 N (rlone_l1 N n_) best_24 n_25 t_28 t2_29 t3_30)))
    (rlone_j3 N (rlone_l1 N n_) best_24 n_25 t_28 t2_29 t3_30))
   (some (best))
def rlone_S (N : Nat) (t : List Qe) (t2 : List Qf) (t3 : Int) : Option Qg :=
 (rlone_l1 N N [] 0 t t2 t3).bind fun best_32 =>
 some best_32
noncomputable def rlone_sp (N : Nat) : Oks := [⟨_, sp_rfault_ok N⟩, ⟨_, sp_lists_ok N⟩, ⟨_, sp_list__ok N⟩, ⟨_, sp_before_ok N⟩]
abbrev rlone_o : List StSh := [⟨[.sl (.int .i64)], []⟩]
noncomputable abbrev rlone_B : Body := mkB Tryz.f32 rlone_o 0
abbrev rlone_l4_at : List PI := [.c [1, 1, 0, 1, 0, 0, 1, 0, 0, 1, 1, 0, 1, 0, 0, 1, 0, 0, 1, 0, 0, 1, 0, 0, 1, 0, 1, 0, 0, 0, 0], .c [1, 1, 0, 1, 0, 0, 1, 0, 0, 1, 1, 0, 1, 0, 0, 1, 0, 0, 1, 0, 0, 1, 0, 0, 1, 0, 1, 0, 0, 0, 1], .c [1, 1, 0, 1, 0, 0, 1, 0, 0, 1, 1, 0, 1, 0, 0, 1, 0, 0, 1, 0, 0, 1, 0, 0, 1, 0, 1, 0, 0, 1], .l [1, 1, 0, 1, 0, 0, 1, 0, 0, 1, 1, 0, 1, 0, 0, 1, 0, 0, 1, 0, 0, 1, 0, 0, 1, 0, 1, 0, 0], .b 6, .c [1, 1, 0, 1, 0, 0, 1, 0, 0, 1, 1, 0, 1, 0, 0, 1, 0, 0, 1, 0, 0, 1, 0, 0, 1, 1], .b 5, .c [1, 1, 0, 1, 0, 0, 1, 0, 0, 1, 1, 0, 1, 0, 0, 1, 0, 0, 1, 0, 0, 1, 1], .l [1, 1, 0, 1, 0, 0, 1, 0, 0, 1, 1, 0, 1, 0, 0, 1, 0, 0, 1, 0, 0], .b 4, .b 3, .c [1, 1, 0, 1, 0, 0, 1, 0, 0, 1, 1, 0, 1, 0, 0, 1, 1], .l [1, 1, 0, 1, 0, 0, 1, 0, 0, 1, 1, 0, 1, 0, 0], .b 2, .c [1, 1, 0, 1, 0, 0, 1, 0, 0, 1, 1, 1], .b 1, .c [1, 1, 0, 1, 0, 0, 1, 1], .l [1, 1, 0, 1, 0, 0], .b 0, .c [1, 1, 1]]
abbrev rlone_l4_st : Sta := ⟨[1, 3, 4, 5, 6, 7, 8, 9, 10], ⟨[.own 0 0, .sl (.int .i64), .i .i64, .sl (.int .i64), .b, .i .i64, .i .i64, .i .i64, .i .i64], [.segs [.sl Qd, .sl Qc, .i .i64]]⟩⟩
abbrev rlone_l4_h (rec : Qg → Int → Qg → Bool → Int → Int → Int → Int → Qh → Qi → Int → Option Qp) : Leaf Qp := ⟨rlone_l4_at, rlone_l4_st, fun p => rec p.1.2.1 p.1.2.2.1 p.1.2.2.2.1 p.1.2.2.2.2.1 p.1.2.2.2.2.2.1 p.1.2.2.2.2.2.2.1 p.1.2.2.2.2.2.2.2.1 p.1.2.2.2.2.2.2.2.2.1 p.2.1.1 p.2.1.2.1 p.2.1.2.2.1⟩
abbrev rlone_l4_e0 : Leaf Qp := ⟨[.c [1, 1, 0, 1, 0, 0, 1, 0, 0, 1, 1, 0, 1, 0, 0, 1, 0, 0, 1, 0, 0, 1, 0, 0, 1, 1, 0], .c [1, 1, 0, 1, 0, 0, 1, 0, 0, 1, 1, 0, 1, 0, 0, 1, 0, 0, 1, 0, 0, 1, 0, 0, 1, 1, 1], .b 5, .c [1, 1, 0, 1, 0, 0, 1, 0, 0, 1, 1, 0, 1, 0, 0, 1, 0, 0, 1, 0, 0, 1, 1], .l [1, 1, 0, 1, 0, 0, 1, 0, 0, 1, 1, 0, 1, 0, 0, 1, 0, 0, 1, 0, 0], .b 4, .b 3, .c [1, 1, 0, 1, 0, 0, 1, 0, 0, 1, 1, 0, 1, 0, 0, 1, 1], .l [1, 1, 0, 1, 0, 0, 1, 0, 0, 1, 1, 0, 1, 0, 0], .b 2, .c [1, 1, 0, 1, 0, 0, 1, 0, 0, 1, 1, 1], .b 1, .c [1, 1, 0, 1, 0, 0, 1, 1], .l [1, 1, 0, 1, 0, 0], .b 0, .c [1, 1, 1]], ⟨[1, 3, 4, 5, 6, 7, 8, 9], ⟨[.own 0 0, .sl (.int .i64), .i .i64, .sl (.int .i64), .b, .i .i64, .i .i64, .i .i64], [.segs [.sl Qd, .sl Qc, .i .i64]]⟩⟩, fun p => some ((p.1.2.1, p.1.2.2.1, p.1.2.2.2.1, p.1.2.2.2.2.1, p.1.2.2.2.2.2.1, p.1.2.2.2.2.2.2.1, p.1.2.2.2.2.2.2.2.1, p.2.1.1, p.2.1.2.1, p.2.1.2.2.1))⟩
noncomputable def rlone_j1_k (N : Nat) (rec : Qg → Int → Qg → Bool → Int → Int → Int → Int → Qh → Qi → Int → Option Qp) {top : Bool} : JnQ (Z := List Int × Int × List Int × Bool × Int × Int × Int × Qh × Qi × Int) rlone_B top none [rlone_l4_h rec, rlone_l4_e0] := mkJ (rlone_sp N) [] [] ⟨[.c [1, 1, 0, 1, 0, 0, 1, 0, 0, 1, 1, 0, 1, 0, 0, 1, 0, 0, 1, 0, 0, 1, 0, 0, 1, 0, 1, 0, 0, 1, 1], .l [1, 1, 0, 1, 0, 0, 1, 0, 0, 1, 1, 0, 1, 0, 0, 1, 0, 0, 1, 0, 0, 1, 0, 0, 1, 0, 1, 0, 0], .b 6, .c [1, 1, 0, 1, 0, 0, 1, 0, 0, 1, 1, 0, 1, 0, 0, 1, 0, 0, 1, 0, 0, 1, 0, 0, 1, 1], .b 5, .c [1, 1, 0, 1, 0, 0, 1, 0, 0, 1, 1, 0, 1, 0, 0, 1, 0, 0, 1, 0, 0, 1, 1], .l [1, 1, 0, 1, 0, 0, 1, 0, 0, 1, 1, 0, 1, 0, 0, 1, 0, 0, 1, 0, 0], .b 4, .b 3, .c [1, 1, 0, 1, 0, 0, 1, 0, 0, 1, 1, 0, 1, 0, 0, 1, 1], .l [1, 1, 0, 1, 0, 0, 1, 0, 0, 1, 1, 0, 1, 0, 0], .b 2, .c [1, 1, 0, 1, 0, 0, 1, 0, 0, 1, 1, 1], .b 1, .c [1, 1, 0, 1, 0, 0, 1, 1], .l [1, 1, 0, 1, 0, 0], .b 0, .c [1, 1, 1]], ⟨[1, 3, 4, 5, 6, 7, 8, 9, 10], ⟨[.own 0 0, .sl (.int .i64), .i .i64, .sl (.int .i64), .b, .i .i64, .i .i64, .i .i64, .i .i64], [.segs [.sl Qd, .sl Qc, .i .i64]]⟩⟩, fun p => rlone_j1 N rec p.1.2.1 p.1.2.2.1 p.1.2.2.2.1 p.1.2.2.2.2.1 p.1.2.2.2.2.2.1 p.1.2.2.2.2.2.2.1 p.1.2.2.2.2.2.2.2.1 p.1.2.2.2.2.2.2.2.2.1 p.2.1.1 p.2.1.2.1 p.2.1.2.2.1⟩ (fun p => by kernel_rfl)
noncomputable def rlone_l4_L (N : Nat) {top : Bool} : LpQ rlone_B top := mkL (Z := List Int × Int × List Int × Bool × Int × Int × Int × Qh × Qi × Int) (rlone_sp N) [] rlone_l4_at rlone_l4_st (fun m p => rlone_l4 N m p.1.2.1 p.1.2.2.1 p.1.2.2.2.1 p.1.2.2.2.2.1 p.1.2.2.2.2.2.1 p.1.2.2.2.2.2.2.1 p.1.2.2.2.2.2.2.2.1 p.1.2.2.2.2.2.2.2.2.1 p.2.1.1 p.2.1.2.1 p.2.1.2.2.1) [rlone_l4_e0] (fun m => [rlone_j1_k N (rlone_l4 N m)]) (fun k e => k (.inl (((), e.1, e.2.1, e.2.2.1, e.2.2.2.1, e.2.2.2.2.1, e.2.2.2.2.2.1, e.2.2.2.2.2.2.1, ()), ((e.2.2.2.2.2.2.2.1, e.2.2.2.2.2.2.2.2.1, e.2.2.2.2.2.2.2.2.2, ()), ())))) N (fun m p => by kernel_rfl)
abbrev rlone_l3_at : List PI := [.c [1, 1, 0, 1, 0, 0, 1, 0, 0, 1, 1, 0, 1, 0, 0, 1, 0, 0, 1, 0, 0, 0, 0], .c [1, 1, 0, 1, 0, 0, 1, 0, 0, 1, 1, 0, 1, 0, 0, 1, 0, 0, 1, 0, 0, 0, 1], .c [1, 1, 0, 1, 0, 0, 1, 0, 0, 1, 1, 0, 1, 0, 0, 1, 0, 0, 1, 0, 0, 1], .l [1, 1, 0, 1, 0, 0, 1, 0, 0, 1, 1, 0, 1, 0, 0, 1, 0, 0, 1, 0, 0], .b 4, .b 3, .c [1, 1, 0, 1, 0, 0, 1, 0, 0, 1, 1, 0, 1, 0, 0, 1, 1], .l [1, 1, 0, 1, 0, 0, 1, 0, 0, 1, 1, 0, 1, 0, 0], .b 2, .c [1, 1, 0, 1, 0, 0, 1, 0, 0, 1, 1, 1], .b 1, .c [1, 1, 0, 1, 0, 0, 1, 1], .l [1, 1, 0, 1, 0, 0], .b 0, .c [1, 1, 1]]
abbrev rlone_l3_st : Sta := ⟨[1, 3, 4, 5, 6, 7, 8], ⟨[.own 0 0, .sl (.int .i64), .i .i64, .sl (.int .i64), .b, .i .i64, .i .i64], [.segs [.sl Qd, .sl Qc, .i .i64]]⟩⟩
abbrev rlone_l3_h (rec : Qg → Int → Qg → Bool → Int → Int → Qh → Qi → Int → Option Qs) : Leaf Qs := ⟨rlone_l3_at, rlone_l3_st, fun p => rec p.1.2.1 p.1.2.2.1 p.1.2.2.2.1 p.1.2.2.2.2.1 p.1.2.2.2.2.2.1 p.1.2.2.2.2.2.2.1 p.2.1.1 p.2.1.2.1 p.2.1.2.2.1⟩
abbrev rlone_l3_e0 : Leaf Qs := ⟨[.c [1, 1, 0, 1, 0, 0, 1, 0, 0, 1, 1, 0, 1, 0, 0, 1, 1], .l [1, 1, 0, 1, 0, 0, 1, 0, 0, 1, 1, 0, 1, 0, 0], .b 2, .c [1, 1, 0, 1, 0, 0, 1, 0, 0, 1, 1, 1], .b 1, .c [1, 1, 0, 1, 0, 0, 1, 1], .l [1, 1, 0, 1, 0, 0], .b 0, .c [1, 1, 1]], ⟨[1, 3, 4, 5, 6, 7], ⟨[.own 0 0, .sl (.int .i64), .i .i64, .sl (.int .i64), .b, .i .i64], [.segs [.sl Qd, .sl Qc, .i .i64]]⟩⟩, fun p => some ((p.1.2.1, p.1.2.2.1, p.1.2.2.2.1, p.1.2.2.2.2.1, p.1.2.2.2.2.2.1, p.2.1.1, p.2.1.2.1, p.2.1.2.2.1))⟩
noncomputable def rlone_j2_k (N : Nat) (rec : Qg → Int → Qg → Bool → Int → Int → Qh → Qi → Int → Option Qs) {top : Bool} : JnQ (Z := List Int × Int × List Int × Bool × Int × Qh × Qi × Int) rlone_B top none [rlone_l3_h rec, rlone_l3_e0] := mkJ (rlone_sp N) [rlone_l4_L N] [] ⟨[.c [1, 1, 0, 1, 0, 0, 1, 0, 0, 1, 1, 0, 1, 0, 0, 1, 0, 0, 1, 0, 0, 1, 1], .l [1, 1, 0, 1, 0, 0, 1, 0, 0, 1, 1, 0, 1, 0, 0, 1, 0, 0, 1, 0, 0], .b 4, .b 3, .c [1, 1, 0, 1, 0, 0, 1, 0, 0, 1, 1, 0, 1, 0, 0, 1, 1], .l [1, 1, 0, 1, 0, 0, 1, 0, 0, 1, 1, 0, 1, 0, 0], .b 2, .c [1, 1, 0, 1, 0, 0, 1, 0, 0, 1, 1, 1], .b 1, .c [1, 1, 0, 1, 0, 0, 1, 1], .l [1, 1, 0, 1, 0, 0], .b 0, .c [1, 1, 1]], ⟨[1, 3, 4, 5, 6, 7, 8], ⟨[.own 0 0, .sl (.int .i64), .i .i64, .sl (.int .i64), .b, .i .i64, .i .i64], [.segs [.sl Qd, .sl Qc, .i .i64]]⟩⟩, fun p => rlone_j2 N rec p.1.2.1 p.1.2.2.1 p.1.2.2.2.1 p.1.2.2.2.2.1 p.1.2.2.2.2.2.1 p.1.2.2.2.2.2.2.1 p.2.1.1 p.2.1.2.1 p.2.1.2.2.1⟩ (fun p => by kernel_rfl)
noncomputable def rlone_l3_L (N : Nat) {top : Bool} : LpQ rlone_B top := mkL (Z := List Int × Int × List Int × Bool × Int × Qh × Qi × Int) (rlone_sp N) [rlone_l4_L N] rlone_l3_at rlone_l3_st (fun m p => rlone_l3 N m p.1.2.1 p.1.2.2.1 p.1.2.2.2.1 p.1.2.2.2.2.1 p.1.2.2.2.2.2.1 p.1.2.2.2.2.2.2.1 p.2.1.1 p.2.1.2.1 p.2.1.2.2.1) [rlone_l3_e0] (fun m => [rlone_j2_k N (rlone_l3 N m)]) (fun k e => k (.inl (((), e.1, e.2.1, e.2.2.1, e.2.2.2.1, e.2.2.2.2.1, ()), ((e.2.2.2.2.2.1, e.2.2.2.2.2.2.1, e.2.2.2.2.2.2.2, ()), ())))) N (fun m p => by kernel_rfl)
noncomputable def rlone_l2_L (N : Nat) {top : Bool} : LpQ rlone_B top := mkL (Z := List Int × Int × List Int × Bool × Qh × Qi × Int) (rlone_sp N) [rlone_l4_L N, rlone_l3_L N] [.c [1, 1, 0, 1, 0, 0, 1, 0, 0, 1, 1, 0, 1, 0, 0, 0, 0], .c [1, 1, 0, 1, 0, 0, 1, 0, 0, 1, 1, 0, 1, 0, 0, 0, 1], .c [1, 1, 0, 1, 0, 0, 1, 0, 0, 1, 1, 0, 1, 0, 0, 1], .l [1, 1, 0, 1, 0, 0, 1, 0, 0, 1, 1, 0, 1, 0, 0], .b 2, .c [1, 1, 0, 1, 0, 0, 1, 0, 0, 1, 1, 1], .b 1, .c [1, 1, 0, 1, 0, 0, 1, 1], .l [1, 1, 0, 1, 0, 0], .b 0, .c [1, 1, 1]] ⟨[1, 3, 4, 5, 6, 7], ⟨[.own 0 0, .sl (.int .i64), .i .i64, .sl (.int .i64), .b, .i .i64], [.segs [.sl Qd, .sl Qc, .i .i64]]⟩⟩ (fun m p => rlone_l2 N m p.1.2.1 p.1.2.2.1 p.1.2.2.2.1 p.1.2.2.2.2.1 p.1.2.2.2.2.2.1 p.2.1.1 p.2.1.2.1 p.2.1.2.2.1) [⟨[.c [1, 1, 0, 1, 0, 0, 1, 0, 0, 1, 1, 1, 0], .c [1, 1, 0, 1, 0, 0, 1, 0, 0, 1, 1, 1, 1], .b 1, .c [1, 1, 0, 1, 0, 0, 1, 1], .l [1, 1, 0, 1, 0, 0], .b 0, .c [1, 1, 1]], ⟨[1, 3, 4, 5, 6], ⟨[.own 0 0, .sl (.int .i64), .i .i64, .sl (.int .i64), .b], [.segs [.sl Qd, .sl Qc, .i .i64]]⟩⟩, fun p => some ((p.1.2.1, p.1.2.2.1, p.1.2.2.2.1, p.1.2.2.2.2.1, p.2.1.1, p.2.1.2.1, p.2.1.2.2.1))⟩] (fun _ => []) (fun k e => k (.inl (((), e.1, e.2.1, e.2.2.1, e.2.2.2.1, ()), ((e.2.2.2.2.1, e.2.2.2.2.2.1, e.2.2.2.2.2.2, ()), ())))) N (fun m p => by kernel_rfl)
abbrev rlone_l1_at : List PI := [.c [1, 1, 0, 1, 0, 0, 0, 0], .c [1, 1, 0, 1, 0, 0, 0, 1], .c [1, 1, 0, 1, 0, 0, 1], .l [1, 1, 0, 1, 0, 0], .b 0, .c [1, 1, 1]]
abbrev rlone_l1_st : Sta := ⟨[1, 3, 4], ⟨[.own 0 0, .sl (.int .i64), .i .i64], [.segs [.sl Qd, .sl Qc, .i .i64]]⟩⟩
abbrev rlone_l1_h (rec : Qg → Int → Qh → Qi → Int → Option Qg) : Leaf Qg := ⟨rlone_l1_at, rlone_l1_st, fun p => rec p.1.2.1 p.1.2.2.1 p.2.1.1 p.2.1.2.1 p.2.1.2.2.1⟩
abbrev rlone_l1_e0 : Leaf Qg := ⟨[.c [1, 1, 1, 0], .c [1, 1, 1, 1]], ⟨[3], ⟨[.sl (.int .i64)], []⟩⟩, fun p => some (p.1.1)⟩
noncomputable def rlone_j3_k (N : Nat) (rec : Qg → Int → Qh → Qi → Int → Option Qg) {top : Bool} : JnQ (Z := List Int) rlone_B top none [rlone_l1_h rec, rlone_l1_e0] := mkJ (rlone_sp N) [rlone_l4_L N, rlone_l3_L N, rlone_l2_L N] [] ⟨[.c [1, 1, 0, 1, 0, 0, 1, 1], .l [1, 1, 0, 1, 0, 0], .b 0, .c [1, 1, 1]], ⟨[1, 3, 4], ⟨[.own 0 0, .sl (.int .i64), .i .i64], [.segs [.sl Qd, .sl Qc, .i .i64]]⟩⟩, fun p => rlone_j3 N rec p.1.2.1 p.1.2.2.1 p.2.1.1 p.2.1.2.1 p.2.1.2.2.1⟩ (fun p => by kernel_rfl)
noncomputable def rlone_l1_L (N : Nat) {top : Bool} : LpQ rlone_B top := mkL (Z := List Int) (rlone_sp N) [rlone_l4_L N, rlone_l3_L N, rlone_l2_L N] rlone_l1_at rlone_l1_st (fun m p => rlone_l1 N m p.1.2.1 p.1.2.2.1 p.2.1.1 p.2.1.2.1 p.2.1.2.2.1) [rlone_l1_e0] (fun m => [rlone_j3_k N (rlone_l1 N m)]) (fun k e => k (.inl ((e, ()), ()))) N (fun m p => by kernel_rfl)
noncomputable def sp_rlone (N : Nat) : Spec := mkS 32 ⟨[.agg [.sl Qd, .sl Qc, .i .i64]], []⟩ rlone_o (fun p => rlone_S N p.1.1.1 p.1.1.2.1 p.1.1.2.2.1) (fun k r => k ((r, ()), ()))
theorem sp_rlone_ok (N : Nat) : SpecOK Tryz.prog (sp_rlone N) := mkF (R := List Int) (m0 := 0) (rlone_sp N) [rlone_l4_L N, rlone_l3_L N, rlone_l2_L N, rlone_l1_L N] (fun r => some r.1.1) [] Tryz.func32 (fun p => by kernel_rfl) (by kernel_rfl) (fun _ => by kernel_rfl)

end Go.Proofs.YtfamlpbdhhikdaaGreat

namespace Go.Proofs.YtfamlpbdhhikdaaGreat
set_option linter.all false
open Go

end Go.Proofs.YtfamlpbdhhikdaaGreat

namespace Go.Proofs.YtfamlpbdhhikdaaGreat
set_option linter.all false
open Go

end Go.Proofs.YtfamlpbdhhikdaaGreat

namespace Go.Proofs.YtfamlpbdhhikdaaGreat
set_option linter.all false
open Go

def lone11_S (N : Nat) (o : Int) (u : List Bool) (u2 : Int) : Option Bool :=
 rng o 12 <|
 rng u2 12 <|
 get u ((o.toNat * 12) + u2.toNat) fun x_1 =>
 some (!x_1)
noncomputable def sp_lone11 (N : Nat) : Spec := mkS 90 ⟨[.i .i64, .fz [.arr .bool 144], .fe (.int .i64)], []⟩ [⟨[.b], []⟩] (fun p => lone11_S N p.1.1 p.1.2.1.1 p.1.2.2.1) (fun k r => k ((r, ()), ()))
theorem sp_lone11_ok (N : Nat) : SpecOK Tryz.prog (sp_lone11 N) := mkF (R := Bool) (m0 := 0) [] [] (fun r => some r.1.1) [] Tryz.func90 (fun p => by kernel_rfl) (by kernel_rfl) (fun _ => by kernel_rfl)

def every1i4_S (N : Nat) (x : Int) (g : List Bool) (g2 : Int) : Option (Bool × List Bool × Int) :=
 (lone11_S N x g g2).bind fun x_1 =>
 some ((!x_1), g, g2)
noncomputable def sp_every1i4 (N : Nat) : Spec := mkS 121 ⟨[.i .i64, .own 0 0], [.segs [.fn 90 [] [.fz [.arr .bool 144], .fe (.int .i64)]]]⟩ [⟨[.b], [.segs [.fn 90 [] [.fz [.arr .bool 144], .fe (.int .i64)]]]⟩] (fun p => every1i4_S N p.1.1 p.2.1.1.2.1.1 p.2.1.1.2.2.1) (fun k r => k ((r.1, ()), ((((), ((r.2.1, ()), r.2.2, ())), ()), ())))
theorem sp_every1i4_ok (N : Nat) : SpecOK Tryz.prog (sp_every1i4 N) := mkF (R := Bool × List Bool × Int) (m0 := 1) [⟨_, sp_lone11_ok N⟩] [] (fun r => some (r.1.1, r.2.1.1.2.1.1, r.2.1.1.2.2.1)) [] Tryz.func121 (fun p => by kernel_rfl) (by kernel_rfl) (fun _ => by kernel_rfl)

def ixfi4_l1 (N : Nat) : Nat → Qg → Int → Int → Qq → Int → Option ((Int × List Bool × Int) ⊕ (List Bool × Int))
 | 0, _, _, _, _, _ => none
 | n_ + 1, s, u, u2, f, f2 =>
  br (decide (u2 < u))
   (idx s u2 fun x_1 =>
   (every1i4_S N x_1 f f2).bind fun (x_2, y_3, y_4) =>
   br x_2
    (some (.inl (u2, y_3, y_4)))
    (chk (u2 + 1) <|
    ixfi4_l1 N n_ s u (u2 + 1) y_3 y_4))
   (some (.inr (f, f2)))
def ixfi4_S (N : Nat) (s : List Int) (f : List Bool) (f2 : Int) : Option (Int × List Bool × Int) :=
 (ixfi4_l1 N N s (s.length : Int) 0 f f2).bind fun e => match e with
 | .inl (i_5, g_6, g2_7) =>
  some (i_5, g_6, g2_7)
 | .inr (g_8, g2_9) =>
  some (-1, g_8, g2_9)
noncomputable def ixfi4_sp (N : Nat) : Oks := [⟨_, sp_every1i4_ok N⟩]
abbrev ixfi4_o : List StSh := [⟨[.i .i64], [.segs [.fn 90 [] [.fz [.arr .bool 144], .fe (.int .i64)]]]⟩]
noncomputable abbrev ixfi4_B : Body := mkB Tryz.f130 ixfi4_o 1
noncomputable def ixfi4_l1_L (N : Nat) {top : Bool} : LpQ ixfi4_B top := mkL (Z := (Int × List Bool × Int) ⊕ (List Bool × Int)) (ixfi4_sp N) [] [.c [1, 0, 1, 0, 0, 0], .c [1, 0, 1, 0, 0, 1], .l [1, 0, 1, 0, 0], .b 0, .c [1, 1]] ⟨[0, 1, 7, 8], ⟨[.sl (.int .i64), .fn 121 [] [.own 0 0], .i .i64, .i .i64], [.segs [.fn 90 [] [.fz [.arr .bool 144], .fe (.int .i64)]]]⟩⟩ (fun m p => ixfi4_l1 N m p.1.1 p.1.2.2.1 p.1.2.2.2.1 p.2.1.1.2.1.1 p.2.1.1.2.2.1) [⟨[.c [1, 0, 1, 0, 0, 1, 1, 0, 0, 1, 1, 0, 0], .c [1, 0, 1, 0, 0, 1, 1, 0, 0, 1, 1, 0, 1], .b 1, .c [1, 0, 1, 0, 0, 1, 1, 1], .l [1, 0, 1, 0, 0], .b 0, .c [1, 1]], ⟨[5], ⟨[.i .i64], [.segs [.fn 90 [] [.fz [.arr .bool 144], .fe (.int .i64)]]]⟩⟩, fun p => some (.inl (p.1.1, p.2.1.1.2.1.1, p.2.1.1.2.2.1))⟩, ⟨[.c [1, 1, 0], .c [1, 1, 1]], ⟨[], ⟨[], [.segs [.fn 90 [] [.fz [.arr .bool 144], .fe (.int .i64)]]]⟩⟩, fun p => some (.inr (p.2.1.1.2.1.1, p.2.1.1.2.2.1))⟩] (fun _ => []) (fun k e => match e with | .inl x => k (.inl ((x.1, ()), ((((), ((x.2.1, ()), x.2.2, ())), ()), ()))) | .inr x => k (.inr (.inl ((), ((((), ((x.1, ()), x.2, ())), ()), ()))))) N (fun m p => by kernel_rfl) (hg := (by rintro _ _ (_ | _) <;> rfl))
noncomputable def sp_ixfi4 (N : Nat) : Spec := mkS 130 ⟨[.sl (.int .i64), .fn 121 [] [.own 0 0]], [.segs [.fn 90 [] [.fz [.arr .bool 144], .fe (.int .i64)]]]⟩ ixfi4_o (fun p => ixfi4_S N p.1.1 p.2.1.1.2.1.1 p.2.1.1.2.2.1) (fun k r => k ((r.1, ()), ((((), ((r.2.1, ()), r.2.2, ())), ()), ())))
theorem sp_ixfi4_ok (N : Nat) : SpecOK Tryz.prog (sp_ixfi4 N) := mkF (R := Int × List Bool × Int) (m0 := 1) (ixfi4_sp N) [ixfi4_l1_L N] (fun r => some (r.1.1, r.2.1.1.2.1.1, r.2.1.1.2.2.1)) [] Tryz.func130 (fun p => by kernel_rfl) (by kernel_rfl) (fun _ => by kernel_rfl)

def cofi4_S (N : Nat) (s : List Int) (f : List Bool) (f2 : Int) : Option (Bool × List Bool × Int) :=
 (ixfi4_S N s f f2).bind fun (x_1, y_2, y_3) =>
 some ((decide (0 ≤ x_1)), y_2, y_3)
noncomputable def sp_cofi4 (N : Nat) : Spec := mkS 120 ⟨[.sl (.int .i64), .fn 121 [] [.own 0 0]], [.segs [.fn 90 [] [.fz [.arr .bool 144], .fe (.int .i64)]]]⟩ [⟨[.b], [.segs [.fn 90 [] [.fz [.arr .bool 144], .fe (.int .i64)]]]⟩] (fun p => cofi4_S N p.1.1 p.2.1.1.2.1.1 p.2.1.1.2.2.1) (fun k r => k ((r.1, ()), ((((), ((r.2.1, ()), r.2.2, ())), ()), ())))
theorem sp_cofi4_ok (N : Nat) : SpecOK Tryz.prog (sp_cofi4 N) := mkF (R := Bool × List Bool × Int) (m0 := 1) [⟨_, sp_ixfi4_ok N⟩] [] (fun r => some (r.1.1, r.2.1.1.2.1.1, r.2.1.1.2.2.1)) [] Tryz.func120 (fun p => by kernel_rfl) (by kernel_rfl) (fun _ => by kernel_rfl)

def everyi4_S (N : Nat) (l : List Int) (holds : List Bool) (holds2 : Int) : Option Bool :=
 (cofi4_S N l holds holds2).bind fun (x_1, y_2, y_3) =>
 some (!x_1)
noncomputable def sp_everyi4 (N : Nat) : Spec := mkS 86 ⟨[.sl (.int .i64), .fn 90 [] [.fz [.arr .bool 144], .fe (.int .i64)]], []⟩ [⟨[.b], []⟩] (fun p => everyi4_S N p.1.1 p.1.2.1.2.1.1 p.1.2.1.2.2.1) (fun k r => k ((r, ()), ()))
theorem sp_everyi4_ok (N : Nat) : SpecOK Tryz.prog (sp_everyi4 N) := mkF (R := Bool) (m0 := 0) [⟨_, sp_cofi4_ok N⟩] [] (fun r => some r.1.1) [] Tryz.func86 (fun p => by kernel_rfl) (by kernel_rfl) (fun _ => by kernel_rfl)

abbrev lmore_o : List StSh := [⟨[], [.segs [.sl (.int .i64)], .segs [.fn 89 [] [.own 0 0, .fe Qo, .fz [.arr .bool 144], .own 1 0]]]⟩]
noncomputable abbrev lmore_self (self : Qg → Int → (Qa) → Qq → Qg → (Qa) → Qq → Option Qj) : Spec := mkS 89 ⟨[.sl (.int .i64), .i .i64, .own 0 0, .fe Qo, .fz [.arr .bool 144], .own 1 0], [.segs [.sl (.int .i64)], .segs [.fn 89 [] [.own 0 0, .fe Qo, .fz [.arr .bool 144], .own 1 0]]]⟩ lmore_o (fun p => self p.1.1 p.1.2.1 p.1.2.2.2.1 p.1.2.2.2.2.1.1 p.2.1.1 p.2.2.1.1.2.2.1 p.2.2.1.1.2.2.2.1.1) (fun k r => k ((), ((r.1, ()), (((), ((), r.2.1, (r.2.2, ()), (), ())), ()), ())))
def lmore_j2 (N : Nat) (self : Qg → Int → (Qa) → Qq → Qg → (Qa) → Qq → Option Qj) (rec : Qg → (Qa) → Qq → Qg → (Qa) → Qq → Int → Option Qj) (l : List Int) (u : Qa) (u2 : List Bool) (g : List Int) (g2 : Qa) (g3 : List Bool) (w : Int) : Option Qj :=
 chk (w + 1) <|
 rec l u u2 g g2 g3 (w + 1)
def lmore_l1 (N : Nat) (self : Qg → Int → (Qa) → Qq → Qg → (Qa) → Qq → Option Qj) : Nat → Qg → (Qa) → Qq → Qg → (Qa) → Qq → Int → Option Qj
 | 0, _, _, _, _, _, _, _ => none
 | n_ + 1, l, u, u2, g, g2, g3, w =>
  (end__S N u).bind fun x_2 =>
  br (decide (w < x_2))
   ((everyi4_S N l u2 w).bind fun x_3 =>
   br x_3
    ((cloneo_S N l).bind fun x_4 =>
    lim (x_4.length + [w].length) <|
    chk (w + 1) <|
    (self (x_4 ++ [w]) (w + 1) g2 g3 g g2 g3).bind fun (x_5, y_6, y_7) =>
    lmore_j2 N self (lmore_l1 N self n_) l u u2 x_5 y_6 y_7 w)
    (lmore_j2 N self (lmore_l1 N self n_) l u u2 g g2 g3 w))
   (some ((g, g2, g3)))
def lmore_j1 (N : Nat) (self : Qg → Int → (Qa) → Qq → Qg → (Qa) → Qq → Option Qj) (l : List Int) (from_ : Int) (u : Qa) (u2 : List Bool) (g : List Int) (g2 : Qa) (g3 : List Bool) : Option Qj :=
 (lmore_l1 N self N l u u2 g g2 g3 from_).bind fun (g_8, g2_9, g3_10) =>
 some (g_8, g2_9, g3_10)
def lmore_S (N : Nat) (self : Qg → Int → (Qa) → Qq → Qg → (Qa) → Qq → Option Qj) (l : List Int) (from_ : Int) (u : Qa) (u2 : List Bool) (g : List Int) (g2 : Qa) (g3 : List Bool) : Option Qj :=
 br (decide ((g.length : Int) < (l.length : Int)))
  ((cloneo_S N l).bind fun x_1 =>
  lmore_j1 N self l from_ u u2 x_1 g2 g3)
  (lmore_j1 N self l from_ u u2 g g2 g3)
noncomputable def lmore_sp (N : Nat) (self : Qg → Int → (Qa) → Qq → Qg → (Qa) → Qq → Option Qj) (hself : SpecOK Tryz.prog (lmore_self self)) : Oks := [⟨_, sp_cloneo_ok N⟩, ⟨_, sp_end__ok N⟩, ⟨_, sp_everyi4_ok N⟩, ⟨_, hself⟩]
noncomputable abbrev lmore_B : Body := mkB Tryz.f89 lmore_o 2
abbrev lmore_rt : altD lmore_o → Option Qj := fun r => some (r.2.1.1, r.2.2.1.1.2.2.1, r.2.2.1.1.2.2.2.1.1)
abbrev lmore_l1_at : List PI := [.c [1, 1, 0, 0, 0, 0], .c [1, 1, 0, 0, 0, 1], .c [1, 1, 0, 0, 1], .l [1, 1, 0, 0], .b 0]
abbrev lmore_l1_st : Sta := ⟨[0, 3, 4, 5, 8], ⟨[.sl (.int .i64), .fe Qo, .fz [.arr .bool 144], .own 1 0, .own 2 0], [.segs [.sl (.int .i64)], .segs [.fn 89 [] [.own 0 0, .fe Qo, .fz [.arr .bool 144], .own 1 0]], .segs [.i .i64]]⟩⟩
abbrev lmore_l1_h (rec : Qg → (Qa) → Qq → Qg → (Qa) → Qq → Int → Option Qj) : Leaf Qj := ⟨lmore_l1_at, lmore_l1_st, fun p => rec p.1.1 p.1.2.1 p.1.2.2.1.1 p.2.1.1 p.2.2.1.1.2.2.1 p.2.2.1.1.2.2.2.1.1 p.2.2.2.1.1⟩
abbrev lmore_l1_e0 : Leaf Qj := ⟨[], ⟨[], ⟨[], [.segs [.sl (.int .i64)], .segs [.fn 89 [] [.own 0 0, .fe Qo, .fz [.arr .bool 144], .own 1 0]]]⟩⟩, fun p => some ((p.2.1.1, p.2.2.1.1.2.2.1, p.2.2.1.1.2.2.2.1.1))⟩
noncomputable def lmore_j2_k (N : Nat) (self : Qg → Int → (Qa) → Qq → Qg → (Qa) → Qq → Option Qj) (hself : SpecOK Tryz.prog (lmore_self self)) (rec : Qg → (Qa) → Qq → Qg → (Qa) → Qq → Int → Option Qj) {top : Bool} : JnQ (Z := List Int × Qa × List Bool) lmore_B top none [lmore_l1_h rec, lmore_l1_e0] := mkJ (lmore_sp N self hself) [] [] ⟨[.c [1, 1, 0, 0, 1, 1, 0, 0], .c [1, 1, 0, 0, 1, 1, 0, 1], .c [1, 1, 0, 0, 1, 1, 1], .l [1, 1, 0, 0], .b 0], ⟨[0, 3, 4, 5, 8], ⟨[.sl (.int .i64), .fe Qo, .fz [.arr .bool 144], .own 1 0, .own 2 0], [.segs [.sl (.int .i64)], .segs [.fn 89 [] [.own 0 0, .fe Qo, .fz [.arr .bool 144], .own 1 0]], .segs [.i .i64]]⟩⟩, fun p => lmore_j2 N self rec p.1.1 p.1.2.1 p.1.2.2.1.1 p.2.1.1 p.2.2.1.1.2.2.1 p.2.2.1.1.2.2.2.1.1 p.2.2.2.1.1⟩ (fun p => by kernel_rfl)
noncomputable def lmore_l1_L (N : Nat) (self : Qg → Int → (Qa) → Qq → Qg → (Qa) → Qq → Option Qj) (hself : SpecOK Tryz.prog (lmore_self self)) {top : Bool} : LpQ lmore_B top := mkL (Z := List Int × Qa × List Bool) (lmore_sp N self hself) [] lmore_l1_at lmore_l1_st (fun m p => lmore_l1 N self m p.1.1 p.1.2.1 p.1.2.2.1.1 p.2.1.1 p.2.2.1.1.2.2.1 p.2.2.1.1.2.2.2.1.1 p.2.2.2.1.1) [lmore_l1_e0] (fun m => [lmore_j2_k N self hself (lmore_l1 N self m)]) (fun k e => k (.inl ((), ((e.1, ()), (((), ((), e.2.1, (e.2.2, ()), (), ())), ()), ())))) N (fun m p => by kernel_rfl)
noncomputable def lmore_j1_k (N : Nat) (self : Qg → Int → (Qa) → Qq → Qg → (Qa) → Qq → Option Qj) (hself : SpecOK Tryz.prog (lmore_self self)) : JnQ (Z := List Int × Qa × List Bool) lmore_B true (some lmore_rt) [] := mkJ (lmore_sp N self hself) [lmore_l1_L N self hself] [] ⟨[.c [1, 0], .c [1, 1]], ⟨[0, 1, 3, 4, 5], ⟨[.sl (.int .i64), .i .i64, .fe Qo, .fz [.arr .bool 144], .own 1 0], [.segs [.sl (.int .i64)], .segs [.fn 89 [] [.own 0 0, .fe Qo, .fz [.arr .bool 144], .own 1 0]]]⟩⟩, fun p => lmore_j1 N self p.1.1 p.1.2.1 p.1.2.2.1 p.1.2.2.2.1.1 p.2.1.1 p.2.2.1.1.2.2.1 p.2.2.1.1.2.2.2.1.1⟩ (fun p => by kernel_rfl)
theorem lmore_self_ok (N : Nat) (self : Qg → Int → (Qa) → Qq → Qg → (Qa) → Qq → Option Qj) (hself : SpecOK Tryz.prog (lmore_self self)) : SpecOK Tryz.prog (lmore_self (lmore_S N self)) := mkF (R := List Int × Qa × List Bool) (m0 := 2) (lmore_sp N self hself) [lmore_l1_L N self hself] (lmore_rt) [lmore_j1_k N self hself] Tryz.func89 (fun p => by kernel_rfl) (by kernel_rfl) (fun _ => by kernel_rfl)
def lmore_R (N : Nat) : Nat → Qg → Int → (Qa) → Qq → Qg → (Qa) → Qq → Option Qj
 | 0 => fun _ _ _ _ _ _ _ => none
 | n + 1 => lmore_S N (lmore_R N n)
theorem lmore_R_ok (N : Nat) : ∀ n, SpecOK Tryz.prog (lmore_self (lmore_R N n))
 | 0 => SpecOK.none (fun _ _ _ => rfl) (fun args w => Sem.pv_run _ _ _ (by kernel_rfl) w)
 | n + 1 => lmore_self_ok N (lmore_R N n) (lmore_R_ok N n)
noncomputable abbrev sp_lmore (N : Nat) : Spec := lmore_self (lmore_R N N)
theorem sp_lmore_ok (N : Nat) : SpecOK Tryz.prog (sp_lmore N) := lmore_R_ok N N

def lmore0_j2 (N : Nat) (rec : (Qa) → Qq → Qg → (Qa) → Qq → Int → Option Qj) (u : Qa) (u2 : List Bool) (g : List Int) (g2 : Qa) (g3 : List Bool) (w : Int) : Option Qj :=
 chk (w + 1) <|
 rec u u2 g g2 g3 (w + 1)
def lmore0_l1 (N : Nat) : Nat → (Qa) → Qq → Qg → (Qa) → Qq → Int → Option Qj
 | 0, _, _, _, _, _, _ => none
 | n_ + 1, u, u2, g, g2, g3, w =>
  (end__S N u).bind fun x_1 =>
  br (decide (w < x_1))
   ((everyi4_S N [] u2 w).bind fun x_2 =>
   br x_2
    ((clonen_S N).bind fun _ =>
    chk (w + 1) <|
    (lmore_R N N [w] (w + 1) g2 g3 g g2 g3).bind fun (x_3, y_4, y_5) =>
    lmore0_j2 N (lmore0_l1 N n_) u u2 x_3 y_4 y_5 w)
    (lmore0_j2 N (lmore0_l1 N n_) u u2 g g2 g3 w))
   (some ((g, g2, g3)))
def lmore0_j1 (N : Nat) (from_ : Int) (u : Qa) (u2 : List Bool) (g : List Int) (g2 : Qa) (g3 : List Bool) : Option Qj :=
 (lmore0_l1 N N u u2 g g2 g3 from_).bind fun (g_6, g2_7, g3_8) =>
 some (g_6, g2_7, g3_8)
def lmore0_S (N : Nat) (from_ : Int) (u : Qa) (u2 : List Bool) (g : List Int) (g2 : Qa) (g3 : List Bool) : Option Qj :=
 br (decide ((g.length : Int) < 0))
  ((clonen_S N).bind fun _ =>
  lmore0_j1 N from_ u u2 [] g2 g3)
  (lmore0_j1 N from_ u u2 g g2 g3)
noncomputable def lmore0_sp (N : Nat) : Oks := [⟨_, sp_clonen_ok N⟩, ⟨_, sp_lmore_ok N⟩, ⟨_, sp_end__ok N⟩, ⟨_, sp_everyi4_ok N⟩]
abbrev lmore0_o : List StSh := [⟨[], [.segs [.sl (.int .i64)], .segs [.fn 89 [] [.own 0 0, .fe Qo, .fz [.arr .bool 144], .own 1 0]]]⟩]
noncomputable abbrev lmore0_B : Body := mkB Tryz.f89 lmore0_o 2
abbrev lmore0_rt : altD lmore0_o → Option Qj := fun r => some (r.2.1.1, r.2.2.1.1.2.2.1, r.2.2.1.1.2.2.2.1.1)
abbrev lmore0_l1_at : List PI := [.c [1, 1, 0, 0, 0, 0], .c [1, 1, 0, 0, 0, 1], .c [1, 1, 0, 0, 1], .l [1, 1, 0, 0], .b 0]
abbrev lmore0_l1_st : Sta := ⟨[0, 3, 4, 5, 8], ⟨[.nils, .fe Qo, .fz [.arr .bool 144], .own 1 0, .own 2 0], [.segs [.sl (.int .i64)], .segs [.fn 89 [] [.own 0 0, .fe Qo, .fz [.arr .bool 144], .own 1 0]], .segs [.i .i64]]⟩⟩
abbrev lmore0_l1_h (rec : (Qa) → Qq → Qg → (Qa) → Qq → Int → Option Qj) : Leaf Qj := ⟨lmore0_l1_at, lmore0_l1_st, fun p => rec p.1.2.1 p.1.2.2.1.1 p.2.1.1 p.2.2.1.1.2.2.1 p.2.2.1.1.2.2.2.1.1 p.2.2.2.1.1⟩
abbrev lmore0_l1_e0 : Leaf Qj := ⟨[], ⟨[], ⟨[], [.segs [.sl (.int .i64)], .segs [.fn 89 [] [.own 0 0, .fe Qo, .fz [.arr .bool 144], .own 1 0]]]⟩⟩, fun p => some ((p.2.1.1, p.2.2.1.1.2.2.1, p.2.2.1.1.2.2.2.1.1))⟩
noncomputable def lmore0_j2_k (N : Nat) (rec : (Qa) → Qq → Qg → (Qa) → Qq → Int → Option Qj) {top : Bool} : JnQ (Z := List Int × Qa × List Bool) lmore0_B top none [lmore0_l1_h rec, lmore0_l1_e0] := mkJ (lmore0_sp N) [] [] ⟨[.c [1, 1, 0, 0, 1, 1, 0, 0], .c [1, 1, 0, 0, 1, 1, 0, 1], .c [1, 1, 0, 0, 1, 1, 1], .l [1, 1, 0, 0], .b 0], ⟨[0, 3, 4, 5, 8], ⟨[.nils, .fe Qo, .fz [.arr .bool 144], .own 1 0, .own 2 0], [.segs [.sl (.int .i64)], .segs [.fn 89 [] [.own 0 0, .fe Qo, .fz [.arr .bool 144], .own 1 0]], .segs [.i .i64]]⟩⟩, fun p => lmore0_j2 N rec p.1.2.1 p.1.2.2.1.1 p.2.1.1 p.2.2.1.1.2.2.1 p.2.2.1.1.2.2.2.1.1 p.2.2.2.1.1⟩ (fun p => by kernel_rfl)
noncomputable def lmore0_l1_L (N : Nat) {top : Bool} : LpQ lmore0_B top := mkL (Z := List Int × Qa × List Bool) (lmore0_sp N) [] lmore0_l1_at lmore0_l1_st (fun m p => lmore0_l1 N m p.1.2.1 p.1.2.2.1.1 p.2.1.1 p.2.2.1.1.2.2.1 p.2.2.1.1.2.2.2.1.1 p.2.2.2.1.1) [lmore0_l1_e0] (fun m => [lmore0_j2_k N (lmore0_l1 N m)]) (fun k e => k (.inl ((), ((e.1, ()), (((), ((), e.2.1, (e.2.2, ()), (), ())), ()), ())))) N (fun m p => by kernel_rfl)
noncomputable def lmore0_j1_k (N : Nat) : JnQ (Z := List Int × Qa × List Bool) lmore0_B true (some lmore0_rt) [] := mkJ (lmore0_sp N) [lmore0_l1_L N] [] ⟨[.c [1, 0], .c [1, 1]], ⟨[0, 1, 3, 4, 5], ⟨[.nils, .i .i64, .fe Qo, .fz [.arr .bool 144], .own 1 0], [.segs [.sl (.int .i64)], .segs [.fn 89 [] [.own 0 0, .fe Qo, .fz [.arr .bool 144], .own 1 0]]]⟩⟩, fun p => lmore0_j1 N p.1.2.1 p.1.2.2.1 p.1.2.2.2.1.1 p.2.1.1 p.2.2.1.1.2.2.1 p.2.2.1.1.2.2.2.1.1⟩ (fun p => by kernel_rfl)
noncomputable def sp_lmore0 (N : Nat) : Spec := mkS 89 ⟨[.nils, .i .i64, .own 0 0, .fe Qo, .fz [.arr .bool 144], .own 1 0], [.segs [.sl (.int .i64)], .segs [.fn 89 [] [.own 0 0, .fe Qo, .fz [.arr .bool 144], .own 1 0]]]⟩ lmore0_o (fun p => lmore0_S N p.1.2.1 p.1.2.2.2.1 p.1.2.2.2.2.1.1 p.2.1.1 p.2.2.1.1.2.2.1 p.2.2.1.1.2.2.2.1.1) (fun k r => k ((), ((r.1, ()), (((), ((), r.2.1, (r.2.2, ()), (), ())), ()), ())))
theorem sp_lmore0_ok (N : Nat) : SpecOK Tryz.prog (sp_lmore0 N) := mkF (R := List Int × Qa × List Bool) (m0 := 2) (lmore0_sp N) [lmore0_l1_L N] (lmore0_rt) [lmore0_j1_k N] Tryz.func89 (fun p => by kernel_rfl) (by kernel_rfl) (fun _ => by kernel_rfl)

def lone_l4 (N : Nat) : Nat → Int → Int → Int → Int → (Qa) → Qq → Int → Option (Int × Int × Int × Qa × List Bool × Int)
 | 0, _, _, _, _, _, _, _ => none
 | n_ + 1, u, to, a, b, g, joined, g2 =>
  br (decide (b < to))
   (rng a 12 <|
   rng b 12 <|
   get joined ((a.toNat * 12) + b.toNat) fun _ =>
   chk (b + 1) <|
   lone_l4 N n_ u to a (b + 1) g (joined.set ((a.toNat * 12) + b.toNat) true) g2)
   (some ((u, to, a, g, joined, g2)))
def lone_l3 (N : Nat) : Nat → Int → Int → Int → (Qa) → Qq → Int → Option (Int × Qa × List Bool × Int)
 | 0, _, _, _, _, _, _ => none
 | n_ + 1, u, to, a, g, joined, g2 =>
  br (decide (a < to))
   (chk (a + 1) <|
   (lone_l4 N N u to a (a + 1) g joined g2).bind fun (u_7, to_8, a_9, g_10, joined_11, g2_12) =>
   chk (a_9 + 1) <|
   lone_l3 N n_ u_7 to_8 (a_9 + 1) g_10 joined_11 g2_12)
   (some ((u, g, joined, g2)))
def lone_l2_b (N : Nat) (rec : (Qa) → Qq → Int → Option (Int × Int × Int × Qa × List Bool)) (u u2 u3 u4 : Int) (u5 : Qa) (u' to' : Int) (g' : Qa) (joined' : List Bool) (from_' : Int) : Option (Int × Int × Int × Qa × List Bool) :=
 (lone_l3 N N u' to' from_' g' joined' from_').bind fun (u_13, g_14, g2_15, g3_16) =>
 rec g_14 g2_15 g3_16
def lone_l2 (N : Nat) : List (Int × Unit) → Int → Int → Int → Int → (Qa) → (Qa) → Qq → Int → Option (Int × Int × Int × Qa × List Bool)
 | [], u, u2, u3, u4, u5, d, joined, from_ =>
  some ((u, u2, u3, d, joined))
 | e :: es, u, u2, u3, u4, u5, d, joined, from_ =>
  lone_l2_b N (fun d_ joined_ from__ => lone_l2 N es u u2 u3 u4 u5 d_ joined_ from__) u u2 u3 u4 u5 u e.1 d joined from_
def lone_l1 (N : Nat) : Nat → Int → Int → Int → (Qa) → Qq → Option (Qa × List Bool)
 | 0, _, _, _, _, _ => none
 | n_ + 1, u, u2, u3, d, joined =>
  br (decide (u3 < u2))
   ((breaths_S N d u3).bind fun (x_4, y_5) =>
   ((breathsR x_4 y_5).bind fun es => lone_l2 N es u u2 u3 x_4 y_5 d joined u3).bind fun (u_17, u2_18, u3_19, d_20, joined_21) =>
   chk (u3_19 + 1) <|
   lone_l1 N n_ u_17 u2_18 (u3_19 + 1) d_20 joined_21)
   (some ((d, joined)))
def lone_S (N : Nat) (t : List Qe) (t2 : List Qf) (t3 : Int) : Option (List Int × Int) :=
 ((opened_S N t t2 t3).bind fun e => match e with
 | .inl (x_1, y_2) =>
  (br (!decide (y_2 = 0))
   (some ([], y_2))
   ((end__S N x_1).bind fun x_3 =>
   (lone_l1 N N 0 x_3 0 x_1 (List.replicate 144 (false : Bool))).bind fun (d_22, joined_23) =>
   (lmore0_S N 0 d_22 joined_23 [] d_22 joined_23).bind fun (x_24, y_25, y_26) =>
   some (x_24, 0)))
 | .inr x_27 =>
  (br (!decide (x_27 = 0))
   (some ([], x_27))
   (none)))
noncomputable def lone_sp (N : Nat) : Oks := [⟨_, sp_lmore0_ok N⟩, ⟨_, sp_opened_ok N⟩, ⟨_, sp_end__ok N⟩, ⟨_, sp_breaths_ok N⟩]
abbrev lone_o : List StSh := [⟨[.sl (.int .i64), .i .i64], []⟩]
noncomputable abbrev lone_B : Body := mkB Tryz.f31 lone_o 0
noncomputable def lone_sps (N : Nat) : List Spec := (lone_sp N).map (·.1)
theorem lone_all (N : Nat) : AllP (SpecOK Tryz.prog) (lone_sps N) := allP_map (lone_sp N)
noncomputable def lone_c : Code := lone_B.c
noncomputable abbrev lone_l2_Bk : Body := mkB Tryz.f31 lone_o 3
noncomputable def lone_l4_L (N : Nat) {top : Bool} : LpQ lone_l2_Bk top := mkL (Z := Int × Int × Int × Qa × List Bool × Int) (lone_sp N) [] [.c [1, 1, 1, 1, 0, 1, 0, 0, 1, 1, 0, 0, 1, 1, 0, 1, 0, 1, 0, 0, 1, 0, 0, 1, 0, 0, 0, 0], .c [1, 1, 1, 1, 0, 1, 0, 0, 1, 1, 0, 0, 1, 1, 0, 1, 0, 1, 0, 0, 1, 0, 0, 1, 0, 0, 0, 1], .c [1, 1, 1, 1, 0, 1, 0, 0, 1, 1, 0, 0, 1, 1, 0, 1, 0, 1, 0, 0, 1, 0, 0, 1, 0, 0, 1], .l [1, 1, 1, 1, 0, 1, 0, 0, 1, 1, 0, 0, 1, 1, 0, 1, 0, 1, 0, 0, 1, 0, 0, 1, 0, 0], .b 6, .b 5, .c [1, 1, 1, 1, 0, 1, 0, 0, 1, 1, 0, 0, 1, 1, 0, 1, 0, 1, 0, 0, 1, 1], .l [1, 1, 1, 1, 0, 1, 0, 0, 1, 1, 0, 0, 1, 1, 0, 1, 0, 1, 0, 0], .b 4, .b 3] ⟨[2, 3, 6, 8, 9, 10], ⟨[.nils, .i .i64, .own 1 0, .i .i64, .i .i64, .i .i64], [.segs [.fe Qb], .segs [.arr .bool 144], .segs [.i .i64]]⟩⟩ (fun m p => lone_l4 N m p.1.2.1 p.1.2.2.2.1 p.1.2.2.2.2.1 p.1.2.2.2.2.2.1 p.2.1.1 p.2.2.1.1 p.2.2.2.1.1) [⟨[.c [1, 1, 1, 1, 0, 1, 0, 0, 1, 1, 0, 0, 1, 1, 0, 1, 0, 1, 0, 0, 1, 1], .l [1, 1, 1, 1, 0, 1, 0, 0, 1, 1, 0, 0, 1, 1, 0, 1, 0, 1, 0, 0], .b 4, .b 3], ⟨[2, 3, 6, 8, 9], ⟨[.nils, .i .i64, .own 1 0, .i .i64, .i .i64], [.segs [.fe Qb], .segs [.arr .bool 144], .segs [.i .i64]]⟩⟩, fun p => some ((p.1.2.1, p.1.2.2.2.1, p.1.2.2.2.2.1, p.2.1.1, p.2.2.1.1, p.2.2.2.1.1))⟩] (fun _ => []) (fun k e => k (.inl (((), e.1, (), e.2.1, e.2.2.1, ()), ((e.2.2.2.1, ()), (e.2.2.2.2.1, ()), (e.2.2.2.2.2, ()), ())))) N (fun m p => by kernel_rfl)
noncomputable def lone_l3_L (N : Nat) {top : Bool} : LpQ lone_l2_Bk top := mkL (Z := Int × Qa × List Bool × Int) (lone_sp N) [lone_l4_L N] [.c [1, 1, 1, 1, 0, 1, 0, 0, 1, 1, 0, 0, 1, 1, 0, 1, 0, 1, 0, 0, 0, 0], .c [1, 1, 1, 1, 0, 1, 0, 0, 1, 1, 0, 0, 1, 1, 0, 1, 0, 1, 0, 0, 0, 1], .c [1, 1, 1, 1, 0, 1, 0, 0, 1, 1, 0, 0, 1, 1, 0, 1, 0, 1, 0, 0, 1], .l [1, 1, 1, 1, 0, 1, 0, 0, 1, 1, 0, 0, 1, 1, 0, 1, 0, 1, 0, 0], .b 4, .b 3] ⟨[2, 3, 6, 8, 9], ⟨[.nils, .i .i64, .own 1 0, .i .i64, .i .i64], [.segs [.fe Qb], .segs [.arr .bool 144], .segs [.i .i64]]⟩⟩ (fun m p => lone_l3 N m p.1.2.1 p.1.2.2.2.1 p.1.2.2.2.2.1 p.2.1.1 p.2.2.1.1 p.2.2.2.1.1) [⟨[], ⟨[2, 3], ⟨[.nils, .i .i64], [.segs [.fe Qb], .segs [.arr .bool 144], .segs [.i .i64]]⟩⟩, fun p => some ((p.1.2.1, p.2.1.1, p.2.2.1.1, p.2.2.2.1.1))⟩] (fun _ => []) (fun k e => k (.inl (((), e.1, ()), ((e.2.1, ()), (e.2.2.1, ()), (e.2.2.2, ()), ())))) N (fun m p => by kernel_rfl)
abbrev lone_l2_st : Sta := ⟨[2, 3, 4, 6, 7, 22, 23, 28], ⟨[.nils, .i .i64, .own 0 0, .own 1 0, .own 2 0, .i .i64, .i .i64, .fn 122 [] [.fe (.int .i64), .fe Qo]], [.segs [.fe Qb], .segs [.arr .bool 144], .segs [.i .i64]]⟩⟩
abbrev lone_l2_stA : Sta := ⟨[2, 3, 6, 7, 8], ⟨[.nils, .i .i64, .own 1 0, .own 2 0, .i .i64], [.segs [.fe Qb], .segs [.arr .bool 144], .segs [.i .i64]]⟩⟩
abbrev lone_l2_e0 : Leaf (Int × Int × Int × Qa × List Bool) := ⟨[.c [1, 1, 1, 1, 0, 1, 0, 0, 1, 1, 1], .l [1, 1, 1, 1, 0, 1, 0, 0], .b 0, .c [1, 1, 1, 1, 1]], ⟨[2, 3, 4, 6, 22, 23], ⟨[.nils, .i .i64, .own 0 0, .own 1 0, .i .i64, .i .i64], [.segs [.fe Qb], .segs [.arr .bool 144]]⟩⟩, fun p => some ((p.1.2.1, p.1.2.2.2.2.1, p.1.2.2.2.2.2.1, p.2.1.1, p.2.2.1.1))⟩
noncomputable def lone_l2_L (N : Nat) : LoopS := { at_ := [.c [1, 1, 1, 1, 0, 1, 0, 0, 1, 1, 0, 0, 1, 1, 0], .b 2, .b 1, .c [1, 1, 1, 1, 0, 1, 0, 0, 1, 1, 1], .l [1, 1, 1, 1, 0, 1, 0, 0], .b 0, .c [1, 1, 1, 1, 1]], sta := lone_l2_st, exits := [([.c [1, 1, 1, 1, 0, 1, 0, 0, 1, 1, 1], .l [1, 1, 1, 1, 0, 1, 0, 0], .b 0, .c [1, 1, 1, 1, 1]], ⟨[2, 3, 4, 6, 22, 23], ⟨[.nils, .i .i64, .own 0 0, .own 1 0, .i .i64, .i .i64], [.segs [.fe Qb], .segs [.arr .bool 144]]⟩⟩)], run := fun p k => ((breathsR p.1.2.2.2.2.2.2.2.1.2.1 p.1.2.2.2.2.2.2.2.1.2.2.1).bind fun es => lone_l2 N es p.1.2.1 p.1.2.2.2.2.2.1 p.1.2.2.2.2.2.2.1 p.1.2.2.2.2.2.2.2.1.2.1 p.1.2.2.2.2.2.2.2.1.2.2.1 p.2.1.1 p.2.2.1.1 p.2.2.2.1.1).bind fun e => k (.inl (((), e.1, (), (), e.2.1, e.2.2.1, ()), ((e.2.2.2.1, ()), (e.2.2.2.2, ()), ()))) }
theorem lone_l2_end (N : Nat) (u : Int) (u2 : Int) (u3 : Int) (u4 : Int) (u5 : Qa) (d : Qa) (joined : List Bool) (from_ : Int) : ev (Z := Int × Int × Int × Qa × List Bool) Tryz.prog (lone_sps N) lone_B [] [lone_l2_e0] none 400 false (nrm lone_B.c 99 [.b 2, .b 1, .c [1, 1, 1, 1, 0, 1, 0, 0, 1, 1, 1], .l [1, 1, 1, 1, 0, 1, 0, 0], .b 0, .c [1, 1, 1, 1, 1]]) (stL lone_l2_st (((), u, (), (), (), u2, u3, ((), (u4, u5, ())), ()), ((d, ()), (joined, ()), (from_, ()), ()))) (stH lone_l2_st (((), u, (), (), (), u2, u3, ((), (u4, u5, ())), ()), ((d, ()), (joined, ()), (from_, ()), ()))) = lone_l2 N [] u u2 u3 u4 u5 d joined from_ := by kernel_rfl
theorem lone_l2_asg (N : Nat) (e : Int × Unit) (es : List (Int × Unit)) (u : Int) (u2 : Int) (u3 : Int) (u4 : Int) (u5 : Qa) (d : Qa) (joined : List Bool) (from_ : Int) : ev (Z := Int × Int × Int × Qa × List Bool) Tryz.prog (lone_sps N) lone_l2_Bk [] [⟨[.r, .c [1, 1, 1, 1, 0, 1, 0, 0, 1, 1, 0, 0, 1, 1, 0, 1]], lone_l2_stA, fun p => lone_l2_b N (fun d_ joined_ from__ => lone_l2 N es u u2 u3 u4 u5 d_ joined_ from__) u u2 u3 u4 u5 p.1.2.1 p.1.2.2.2.2.1 p.2.1.1 p.2.2.1.1 p.2.2.2.1.1⟩] none 400 false (nrm lone_B.c 99 [.c [1, 1, 1, 1, 0, 1, 0, 0, 1, 1, 0, 0, 1, 1, 0, 0], .r, .c [1, 1, 1, 1, 0, 1, 0, 0, 1, 1, 0, 0, 1, 1, 0, 1]]) (pars [29] (encs id is_breaths.elem e) (stL lone_l2_st (((), u, (), (), (), u2, u3, ((), (u4, u5, ())), ()), ((d, ()), (joined, ()), (from_, ()), ())))) (stH lone_l2_st (((), u, (), (), (), u2, u3, ((), (u4, u5, ())), ()), ((d, ()), (joined, ()), (from_, ()), ()))) = lone_l2 N (e :: es) u u2 u3 u4 u5 d joined from_ := by kernel_rfl
theorem lone_l2_bod (N : Nat) (rec : (Qa) → Qq → Int → Option (Int × Int × Int × Qa × List Bool)) (u : Int) (u2 : Int) (u3 : Int) (u4 : Int) (u5 : Qa) (u' : Int) (to' : Int) (g' : Qa) (joined' : List Bool) (from_' : Int) : ev (Z := Int × Int × Int × Qa × List Bool) Tryz.prog (lone_sps N) lone_l2_Bk [(lone_l4_L N (top := false)).1, (lone_l3_L N (top := false)).1] [⟨[], ⟨[], ⟨[], [.segs [.fe Qb], .segs [.arr .bool 144], .segs [.i .i64]]⟩⟩, fun p => rec p.2.1.1 p.2.2.1.1 p.2.2.2.1.1⟩] none 400 false (nrm lone_B.c 99 [.c [1, 1, 1, 1, 0, 1, 0, 0, 1, 1, 0, 0, 1, 1, 0, 1]]) (stL lone_l2_stA (((), u', (), (), to', ()), ((g', ()), (joined', ()), (from_', ()), ()))) (stH lone_l2_stA (((), u', (), (), to', ()), ((g', ()), (joined', ()), (from_', ()), ()))) = lone_l2_b N rec u u2 u3 u4 u5 u' to' g' joined' from_' := by kernel_rfl
theorem lone_l2_ok (N : Nat) : LoopOK Tryz.prog lone_B.c lone_B.n lone_B.m0 true (lone_l2_L N) := by
 refine range_ok (B := lone_B) (is := is_breaths) (g := .tmp 28) (ps := #[29]) (assign := sub lone_c [1, 1, 1, 1, 0, 1, 0, 0, 1, 1, 0, 0, 1, 1, 0, 0]) (body := sub lone_c [1, 1, 1, 1, 0, 1, 0, 0, 1, 1, 0, 0, 1, 1, 0, 1]) (Z := Int × Int × Int × Qa × List Bool) (x := lone_l2_L N) (fun p => (p.1.2.2.2.2.2.2.2.1.2.1, p.1.2.2.2.2.2.2.2.1.2.2.1, ())) (fun es p => lone_l2 N es p.1.2.1 p.1.2.2.2.2.2.1 p.1.2.2.2.2.2.2.1 p.1.2.2.2.2.2.2.2.1.2.1 p.1.2.2.2.2.2.2.2.1.2.2.1 p.2.1.1 p.2.2.1.1 p.2.2.2.1.1) (staA := lone_l2_stA) (fun es q p => lone_l2_b N (fun d_ joined_ from__ => lone_l2 N es q.2.1 q.2.2.2.2.2.1 q.2.2.2.2.2.2.1 q.2.2.2.2.2.2.2.1.2.1 q.2.2.2.2.2.2.2.1.2.2.1 d_ joined_ from__) q.2.1 q.2.2.2.2.2.1 q.2.2.2.2.2.2.1 q.2.2.2.2.2.2.2.1.2.1 q.2.2.2.2.2.2.2.1.2.2.1 p.1.2.1 p.1.2.2.2.2.1 p.2.1.1 p.2.2.1.1 p.2.2.2.1.1) [] (fun e => .inl (((), e.1, (), (), e.2.1, e.2.2.1, ()), ((e.2.2.2.1, ()), (e.2.2.2.2, ()), ()))) (fun _ _ _ => rfl) rfl (by kernel_rfl) (fun _ => by kernel_rfl) (by kernel_rfl) is_breaths_ok (Nat.le_of_ble_eq_true (by kernel_rfl)) (by kernel_rfl) ?_ ?_ ?_ ?_
 ·exact fun z E Xc hE hX hx p hp a w hS => ev_sound (z := z) (B := lone_B) (loops := []) (leaves := [lone_l2_e0]) (top := true) (lone_all N) mixed trivial hE hX ⟨(fun p hp => by obtain rfl := Option.some.inj hp; exact hx), trivial⟩ RetOK.no 400 false _ _ _ ((lone_l2_end N p.1.2.1 p.1.2.2.2.2.2.1 p.1.2.2.2.2.2.2.1 p.1.2.2.2.2.2.2.2.1.2.1 p.1.2.2.2.2.2.2.2.1.2.2.1 p.2.1.1 p.2.2.1.1 p.2.2.2.1.1).trans hp) a w hS
 ·intro z E Xc hE hX hx e he q b hb a w hS
  simp only [List.not_mem_nil] at he
 ·exact fun z E Xc hE hX e es p hl hp a w hS => ev_sound (z := z) (B := lone_l2_Bk) (loops := []) (leaves := [_]) (top := false) (lone_all N) mixed trivial hE hX ⟨hl, trivial⟩ RetOK.no 400 false _ _ _ ((lone_l2_asg N e es p.1.2.1 p.1.2.2.2.2.2.1 p.1.2.2.2.2.2.2.1 p.1.2.2.2.2.2.2.2.1.2.1 p.1.2.2.2.2.2.2.2.1.2.2.1 p.2.1.1 p.2.2.1.1 p.2.2.2.1.1).trans hp) a w hS
 ·exact fun z E Xc hE hX es q he hs p hp a w hS => ev_sound (z := z) (B := lone_l2_Bk) (loops := [(lone_l4_L N (top := false)).1, (lone_l3_L N (top := false)).1]) (leaves := [_]) (top := false) (lone_all N) mixed ⟨(lone_l4_L N (top := false)).2, (lone_l3_L N (top := false)).2, trivial⟩ hE hX ⟨he, trivial⟩ RetOK.no 400 false _ _ _ ((lone_l2_bod N (fun d_ joined_ from__ => lone_l2 N es q.2.1 q.2.2.2.2.2.1 q.2.2.2.2.2.2.1 q.2.2.2.2.2.2.2.1.2.1 q.2.2.2.2.2.2.2.1.2.2.1 d_ joined_ from__) q.2.1 q.2.2.2.2.2.1 q.2.2.2.2.2.2.1 q.2.2.2.2.2.2.2.1.2.1 q.2.2.2.2.2.2.2.1.2.2.1 p.1.2.1 p.1.2.2.2.2.1 p.2.1.1 p.2.2.1.1 p.2.2.2.1.1).trans hp) a w hS
noncomputable def lone_l1_L (N : Nat) : LpQ lone_B true := mkL (Z := Qa × List Bool) (lone_sp N) [⟨lone_l2_L N, lone_l2_ok N⟩] [.c [1, 1, 1, 1, 0, 1, 0, 0, 0], .c [1, 1, 1, 1, 0, 1, 0, 0, 1], .l [1, 1, 1, 1, 0, 1, 0, 0], .b 0, .c [1, 1, 1, 1, 1]] ⟨[2, 3, 4, 6, 22, 23], ⟨[.nils, .i .i64, .own 0 0, .own 1 0, .i .i64, .i .i64], [.segs [.fe Qb], .segs [.arr .bool 144]]⟩⟩ (fun m p => lone_l1 N m p.1.2.1 p.1.2.2.2.2.1 p.1.2.2.2.2.2.1 p.2.1.1 p.2.2.1.1) [⟨[.c [1, 1, 1, 1, 1, 0], .c [1, 1, 1, 1, 1, 1]], ⟨[4, 6], ⟨[.own 0 0, .own 1 0], [.segs [.fe Qb], .segs [.arr .bool 144]]⟩⟩, fun p => some ((p.2.1.1, p.2.2.1.1))⟩] (fun _ => []) (fun k e => k (.inl (((), (), ()), ((e.1, ()), (e.2, ()), ())))) N (fun m p => by kernel_rfl)
noncomputable def sp_lone (N : Nat) : Spec := mkS 31 ⟨[.agg [.sl Qd, .sl Qc, .i .i64]], []⟩ lone_o (fun p => lone_S N p.1.1.1 p.1.1.2.1 p.1.1.2.2.1) (fun k r => k ((r.1, r.2, ()), ()))
theorem sp_lone_ok (N : Nat) : SpecOK Tryz.prog (sp_lone N) := mkF (R := List Int × Int) (m0 := 0) (lone_sp N) [⟨lone_l2_L N, lone_l2_ok N⟩, lone_l1_L N] (fun r => some (r.1.1, r.1.2.1)) [] Tryz.func31 (fun p => by kernel_rfl) (by kernel_rfl) (fun _ => by kernel_rfl)

def tmarks_j1 (N : Nat) (marks given : List Int) (t : List Qe) (t2 : List Qf) (t3 : Int) (own : List Qe) (own2 : List Qf) (own3 : Int) : Option Bool :=
 (same_S N own own2 own3 t t2 t3).bind fun x_29 =>
 br x_29
  ((likei_S N given marks).bind fun x_30 =>
  br x_30
   ((awake_S N).bind fun x_31 =>
   some x_31)
   (some false))
  (some false)
def tmarks_S (N : Nat) (t : List Qe) (t2 : List Qf) (t3 : Int) (marks : List Int) : Option Bool :=
 (great_S N t t2 t3 8).bind fun x_1 =>
 br x_1
  ((awake_S N).bind fun x_2 =>
  some x_2)
  (br (decide (30 < (marks.length : Int)))
   ((awake_S N).bind fun x_3 =>
   some x_3)
   ((copyx_S N t t2 t3).bind fun (x_4, y_5, y_6) =>
   (theirs_S N t t2 t3).bind fun (x_7, y_8, y_9) =>
   (copyi_S N marks).bind fun x_10 =>
   (shows_S N x_4 y_5 y_6 x_10).bind fun (x_11, y_12) =>
   (rshows_S N x_7 y_8 y_9 marks).bind fun (x_13, y_14) =>
   br (!decide (x_11 = x_13))
    (some false)
    (br (!decide (y_12 = y_14))
     (some false)
     ((marks_S N x_4 y_5 y_6).bind fun (x_15, y_16) =>
     (lone_S N x_4 y_5 y_6).bind fun (x_17, y_18) =>
     (rcheck_S N x_7 y_8 y_9).bind fun x_19 =>
     br (!decide (x_19 = 0))
      (br (decide (y_16 = x_19))
       (br (decide (y_18 = x_19))
        (chk ((x_15.length : Int) + (x_17.length : Int)) <|
        br (decide (((x_15.length : Int) + (x_17.length : Int)) = 0))
         ((same_S N x_4 y_5 y_6 t t2 t3).bind fun x_20 =>
         br x_20
          ((awake_S N).bind fun x_21 =>
          some x_21)
          (some false))
         (some false))
        (some false))
       (some false))
      (br (!decide (y_18 = 0))
       (some false)
       ((rlone_S N x_7 y_8 y_9).bind fun x_22 =>
       (likei_S N x_17 x_22).bind fun x_23 =>
       br (!x_23)
        (some false)
        ((rright_S N x_7 y_8 y_9).bind fun x_24 =>
        (rfewest_S N x_24).bind fun (x_25, y_26) =>
        br (!decide (y_16 = y_26))
         (some false)
         (br (!decide (y_16 = 0))
          (br (decide (0 < (x_15.length : Int)))
           (some false)
           (br (decide (y_16 = 0))
            ((rshows_S N x_7 y_8 y_9 x_15).bind fun (x_27, y_28) =>
            br (!decide (y_28 = 0))
             (some false)
             (br (!decide (x_27 = x_25))
              (some false)
              (tmarks_j1 N marks x_10 t t2 t3 x_4 y_5 y_6)))
            (tmarks_j1 N marks x_10 t t2 t3 x_4 y_5 y_6)))
          (br (decide (y_16 = 0))
           ((rshows_S N x_7 y_8 y_9 x_15).bind fun (x_32, y_33) =>
           br (!decide (y_33 = 0))
            (some false)
            (br (!decide (x_32 = x_25))
             (some false)
             (tmarks_j1 N marks x_10 t t2 t3 x_4 y_5 y_6)))
           (tmarks_j1 N marks x_10 t t2 t3 x_4 y_5 y_6))))))))))
noncomputable def tmarks_sp (N : Nat) : Oks := [⟨_, sp_shows_ok N⟩, ⟨_, sp_marks_ok N⟩, ⟨_, sp_likei_ok N⟩, ⟨_, sp_awake_ok N⟩, ⟨_, sp_copyi_ok N⟩, ⟨_, sp_copyx_ok N⟩, ⟨_, sp_same_ok N⟩, ⟨_, sp_theirs_ok N⟩, ⟨_, sp_great_ok N⟩, ⟨_, sp_rcheck_ok N⟩, ⟨_, sp_rright_ok N⟩, ⟨_, sp_rfewest_ok N⟩, ⟨_, sp_rshows_ok N⟩, ⟨_, sp_rlone_ok N⟩, ⟨_, sp_lone_ok N⟩]
abbrev tmarks_o : List StSh := [⟨[.b], []⟩]
noncomputable abbrev tmarks_B : Body := mkB Tryz.f6 tmarks_o 0
abbrev tmarks_rt : altD tmarks_o → Option Bool := fun r => some r.1.1
noncomputable def tmarks_j1_k (N : Nat) : JnQ (Z := Bool) tmarks_B true (some tmarks_rt) [] := mkJ (tmarks_sp N) [] [] ⟨[.c [1, 1, 1, 1, 1, 1, 1, 1, 1, 1, 1, 1, 1, 0], .c [1, 1, 1, 1, 1, 1, 1, 1, 1, 1, 1, 1, 1, 1]], ⟨[1, 2, 5, 7], ⟨[.sl (.int .i64), .own 0 0, .own 1 0, .sl (.int .i64)], [.segs [.sl Qd, .sl Qc, .i .i64], .segs [.sl Qd, .sl Qc, .i .i64]]⟩⟩, fun p => tmarks_j1 N p.1.1 p.1.2.2.2.1 p.2.1.1 p.2.1.2.1 p.2.1.2.2.1 p.2.2.1.1 p.2.2.1.2.1 p.2.2.1.2.2.1⟩ (fun p => by kernel_rfl)
noncomputable def sp_tmarks (N : Nat) : Spec := mkS 6 ⟨[.agg [.sl Qd, .sl Qc, .i .i64], .sl (.int .i64)], []⟩ tmarks_o (fun p => tmarks_S N p.1.1.1 p.1.1.2.1 p.1.1.2.2.1 p.1.2.1) (fun k r => k ((r, ()), ()))
theorem sp_tmarks_ok (N : Nat) : SpecOK Tryz.prog (sp_tmarks N) := mkF (R := Bool) (m0 := 0) (tmarks_sp N) [] (tmarks_rt) [tmarks_j1_k N] Tryz.func6 (fun p => by kernel_rfl) (by kernel_rfl) (fun _ => by kernel_rfl)

end Go.Proofs.YtfamlpbdhhikdaaGreat

namespace Go.Proofs.YtfamlpbdhhikdaaGreat
set_option linter.all false
open Go
theorem awake_v : awake_S 1100 = some true := by kernel_rfl
end Go.Proofs.YtfamlpbdhhikdaaGreat

namespace Go.Proofs.YtfamlpbdhhikdaaGreat
set_option linter.all false
open Go

theorem every_gen {α : Type} {f : α → Option Bool} {p : α → Bool} {s : List α} {N : Nat} (hf : ∀ x ∈ s, f x = some (p x)) (hs : s.length ≤ 1000000) (hN : s.length < N) :
  (((ixS (fun x => (f x).bind fun c => some (!c)) N s).bind fun x => some (decide (0 ≤ x))).bind fun x => some (!x)) = some (s.all p) := by
 rw [ixS_any (p := fun x => !p x) (fun x hx => by rw [hf x hx]; rfl) hs hN]
 simp only [Option.bind_some, any_not]
section
variable (N : Nat)
theorem ixfw_gen : ∀ (n : Nat) (s : List Wd) (u u2 : Int), ixfw_l1 N n s u u2 = ixL (fun x => every1w_S N x.1 x.2.1 x.2.2) n s u u2
 | 0, _, _, _ => rfl
 | n + 1, s, u, u2 => by unfold ixfw_l1 ixL; simp only [ixfw_gen n]
theorem ixft3_gen : ∀ (n : Nat) (s : List Tn) (u u2 : Int), ixft3_l1 N n s u u2 = ixL (fun x => every1t3_S N x.1 x.2.1 x.2.2) n s u u2
 | 0, _, _, _ => rfl
 | n + 1, s, u, u2 => by unfold ixft3_l1 ixL; simp only [ixft3_gen n]
theorem ixft4_gen : ∀ (n : Nat) (s : List Tn) (u u2 : Int), ixft4_l1 N n s u u2 = ixL (fun x => every1t4_S N x.1 x.2.1 x.2.2) n s u u2
 | 0, _, _, _ => rfl
 | n + 1, s, u, u2 => by unfold ixft4_l1 ixL; simp only [ixft4_gen n]
theorem ixfi1_gen : ∀ (n : Nat) (s : List Int) (u u2 : Int), ixfi1_l1 N n s u u2 = ixL (every1i1_S N) n s u u2
 | 0, _, _, _ => rfl
 | n + 1, s, u, u2 => by unfold ixfi1_l1 ixL; simp only [ixfi1_gen n]
end
def okw (w : Wd) : Bool := decide (1 ≤ w.1 ∧ w.1 ≤ 9) && decide (0 ≤ w.2.1 ∧ w.2.1 ≤ 20)
def inT (n : Nat) (x : Int) : Bool := decide (0 ≤ x ∧ x ≤ (n : Int) - 1)
def ok2 (n : Nat) (x : Tn) : Bool := inT n x.1 && (inT n x.2.1 && inT n x.2.2)
def ok3 (x : Tn) : Bool := decide (x.2.1 ≤ x.2.2)
def ok4 (x : Tn) : Bool := !decide (x.2.1 ≤ x.1 ∧ x.1 ≤ x.2.2)
def in12 (x : Int) : Bool := decide (1 ≤ x ∧ x ≤ 12)
section
variable {N : Nat} {ws : List Wd} {ts : List Tn} {br_ : Int}
theorem everyw_v (h : ws.length ≤ 1000000) (hN : ws.length < N) : everyw_S N ws = some (ws.all okw) := by
 unfold everyw_S cofw_S ixfw_S
 rw [← every_gen (f := fun x : Wd => check1_S N x.1 x.2.1 x.2.2) (p := okw) (s := ws) (N := N) (fun x _ => ?_) h hN]
 ·unfold ixS
  rw [ixfw_gen]
  rfl
 ·unfold check1_S okw
  rw [in_v, in_v]
  by_cases h : 1 ≤ x.1 ∧ x.1 ≤ 9 <;> simp [br, h]
theorem everyt3_v (h : ts.length ≤ 1000000) (hN : ts.length < N) : everyt3_S N ts = some (ts.all ok3) := by
 unfold everyt3_S coft3_S ixft3_S
 rw [← every_gen (f := fun x : Tn => check3_S N x.1 x.2.1 x.2.2) (p := ok3) (s := ts) (N := N) (fun x _ => ?_) h hN]
 ·unfold ixS
  rw [ixft3_gen]
  rfl
 ·rfl
theorem everyt4_v (h : ts.length ≤ 1000000) (hN : ts.length < N) : everyt4_S N ts = some (ts.all ok4) := by
 unfold everyt4_S coft4_S ixft4_S
 rw [← every_gen (f := fun x : Tn => check4_S N x.1 x.2.1 x.2.2) (p := ok4) (s := ts) (N := N) (fun x _ => ?_) h hN]
 ·unfold ixS
  rw [ixft4_gen]
  rfl
 ·unfold check4_S ok4
  rw [in_v]; rfl
theorem everyi1_v {l : List Int} (h : l.length ≤ 1000000) (hN : l.length < N) : everyi1_S N l = some (l.all in12) := by
 unfold everyi1_S cofi1_S ixfi1_S
 rw [← every_gen (f := reading1_S N) (p := in12) (s := l) (N := N) (fun x _ => ?_) h hN]
 ·unfold ixS
  rw [ixfi1_gen]
  rfl
 ·unfold reading1_S in12
  rw [in_v]; rfl
theorem word_v (h : ws.length ≤ 1000000) (n : Int) : word_S N ws ts br_ n = some (inT ws.length n) := by
 unfold word_S
 rw [chk_eq (by omega), in_v]; rfl
theorem check2_v (h : ws.length ≤ 1000000) (x : Tn) : check2_S N x.1 x.2.1 x.2.2 (ws, ts, br_) = some (ok2 ws.length x) := by
 unfold check2_S ok2
 simp only [word_v h, Option.bind_some]
 cases inT ws.length x.1 <;> cases inT ws.length x.2.1 <;> cases inT ws.length x.2.2 <;> rfl
theorem ixft2_gen (h : ws.length ≤ 1000000) : ∀ (n : Nat) (s : List Tn) (u u2 : Int), ixft2_l1 N n s u u2 (ws, ts, br_) = (ixL (fun x => some (!ok2 ws.length x)) n s u u2).map fun r => match r with | .inl i => .inl (i, (ws, ts, br_)) | .inr _ => .inr (ws, ts, br_)
 | 0, _, _, _ => rfl
 | n + 1, s, u, u2 => by
  unfold ixft2_l1 ixL every1t2_S
  simp only [check2_v h, Option.bind_some, ixft2_gen h n]
  unfold br
  split
  ·unfold idx
   split
   ·cases s[u2.toNat]? with
    | none => rfl
    | some a =>
     dsimp only
     cases ok2 ws.length a
     ·rfl
     ·simp only [Bool.not_true, Bool.false_eq_true, if_false]
      unfold chk
      split <;> rfl
   ·rfl
  ·rfl
theorem everyt2_v (hw : ws.length ≤ 1000000) (h : ts.length ≤ 1000000) (hN : ts.length < N) : everyt2_S N ts (ws, ts, br_) = some (ts.all (ok2 ws.length)) := by
 unfold everyt2_S coft2_S ixft2_S
 rw [← every_gen (f := fun x : Tn => some (ok2 ws.length x)) (p := ok2 ws.length) (s := ts) (N := N) (fun x _ => rfl) h hN]
 unfold ixS
 rw [ixft2_gen hw]
 simp only [Option.bind_some]
 cases ixL (fun x => some (!ok2 ws.length x)) N ts ts.length 0 with
 | none => rfl
 | some r => cases r <;> rfl
end
def checkT (ws : List Wd) (ts : List Tn) (br_ : Int) : Int :=
 if ¬ (1 ≤ (ws.length : Int) ∧ (ws.length : Int) ≤ 12) then 2 else if 6 < (ts.length : Int) then 2 else if ¬ (1 ≤ br_ ∧ br_ ≤ 40) then 3 else if ws.all okw = false then 3 else
 if ts.all (ok2 ws.length) = false then 1 else if ts.all ok3 = false then 4 else if ts.all ok4 = false then 7 else 0
section
variable {N : Nat} {ws : List Wd} {ts : List Tn} {br_ : Int}
theorem check_v (hN : 20 ≤ N) (hw : ws.length ≤ 1000000) (ht : ts.length ≤ 1000000) : check_S N ws ts br_ = some (checkT ws ts br_) := by
 unfold check_S checkT
 rw [in_v]
 simp only [Option.bind_some]
 by_cases c1 : 1 ≤ (ws.length : Int) ∧ (ws.length : Int) ≤ 12
 rotate_left
 ·rw [br_nnd c1, if_pos c1]
 rw [br_nd c1, if_neg (by simpa using c1)]
 by_cases c2 : 6 < (ts.length : Int)
 ·rw [br_dec c2, if_pos c2]
 rw [br_ndec c2, if_neg c2, in_v]
 simp only [Option.bind_some]
 by_cases c3 : 1 ≤ br_ ∧ br_ ≤ 40
 rotate_left
 ·rw [br_nnd c3, if_pos c3]
 rw [br_nd c3, if_neg (by simpa using c3), everyw_v hw (by omega), everyt2_v hw ht (by omega), everyt3_v ht (by omega), everyt4_v ht (by omega)]
 simp only [Option.bind_some]
 cases ws.all okw <;> cases ts.all (ok2 ws.length) <;> cases ts.all ok3 <;> cases ts.all ok4 <;> rfl
theorem off_v (n lo hi : Int) : off_S N n lo hi = some (!decide (lo ≤ n ∧ n ≤ hi)) := by
 unfold off_S
 by_cases c : n < lo
 ·rw [br_dec c]; congr 1; simp; omega
 ·rw [br_ndec c]; congr 1
  by_cases d : n ≤ hi
  ·rw [decide_eq_false (show ¬ hi < n by omega), decide_eq_true (show lo ≤ n ∧ n ≤ hi from ⟨by omega, d⟩)]; rfl
  ·rw [decide_eq_true (show hi < n by omega), decide_eq_false (fun h : lo ≤ n ∧ n ≤ hi => d h.2)]; rfl
def alls {α β : Type} (p : α → Bool) (s : List α) (k : Nat) (b : β) : Option (Unit ⊕ β) := some (if (s.drop k).all p then .inr b else .inl ())
theorem alls_yes {α β : Type} {p : α → Bool} {s : List α} {k : Nat} {b : β} (d : α) (h : k < s.length) (hp : p (s.getD k d) = true) : alls p s k b = alls p s (k + 1) b := by
 unfold alls; rw [drop_cons h d, List.all_cons, hp, Bool.true_and]
theorem alls_no {α β : Type} {p : α → Bool} {s : List α} {k : Nat} {b : β} (d : α) (h : k < s.length) (hp : p (s.getD k d) = false) : alls p s k b = some (.inl ()) := by
 unfold alls; rw [drop_cons h d, List.all_cons, hp, Bool.false_and]; rfl
theorem alls_end {α β : Type} {p : α → Bool} {s : List α} {k : Nat} {b : β} (h : s.length ≤ k) : alls p s k b = some (.inr b) := by
 unfold alls; rw [List.drop_of_length_le h]; rfl
theorem rcheck_l1_p (hw : ws.length ≤ 1000000) : ∀ (n k : Nat), ws.length < n + k → k ≤ ws.length → rcheck_l1 N n ws.length k ws ts br_ = alls okw ws k ((ws.length : Int), ws, ts, br_)
 | 0, k, h, _ => by omega
 | n + 1, k, h, hk => by
  unfold rcheck_l1
  by_cases c : k < ws.length
  ·have ih := rcheck_l1_p hw n (k + 1) (by omega) (by omega)
   rw [show ((k + 1 : Nat) : Int) = (k : Int) + 1 by omega] at ih
   have g := gets c (0, 0, false)
   have y := alls_yes (p := okw) (β := Int × List Wd × List Tn × Int) (b := ((ws.length : Int), ws, ts, br_)) (0, 0, false) c
   have no := alls_no (p := okw) (β := Int × List Wd × List Tn × Int) (b := ((ws.length : Int), ws, ts, br_)) (0, 0, false) c
   generalize ws.getD k (0, 0, false) = x at *
   rw [br_dec (by omega), idx_eq (by omega) g, off_v]
   simp only [Option.bind_some]
   by_cases c1 : 1 ≤ x.1 ∧ x.1 ≤ 9
   ·rw [br_nd c1, idx_eq (by omega) g, off_v]
    simp only [Option.bind_some]
    by_cases c2 : 0 ≤ x.2.1 ∧ x.2.1 ≤ 20
    ·rw [br_nd c2, chk_eq (by omega), ih, y (by simp [okw, c1, c2])]
    ·rw [br_nnd c2, no (by simp [okw]; omega)]
   ·rw [br_nnd c1, no (by simp [okw]; omega)]
  ·rw [br_ndec (by omega), alls_end (by omega)]
theorem rcheck_l2_p (ht : ts.length ≤ 1000000) {m : Nat} (hm : m ≤ 1000000) : ∀ (n k : Nat), ts.length < n + k → k ≤ ts.length → rcheck_l2 N n m k ws ts br_ = alls (ok2 m) ts k (ws, ts, br_)
 | 0, k, h, _ => by omega
 | n + 1, k, h, hk => by
  unfold rcheck_l2
  by_cases c : k < ts.length
  ·have ih := rcheck_l2_p ht hm n (k + 1) (by omega) (by omega)
   rw [show ((k + 1 : Nat) : Int) = (k : Int) + 1 by omega] at ih
   have g := gets c (0, 0, 0)
   have y := alls_yes (p := ok2 m) (b := (ws, ts, br_)) (0, 0, 0) c
   have no := alls_no (p := ok2 m) (b := (ws, ts, br_)) (0, 0, 0) c
   generalize ts.getD k (0, 0, 0) = x at *
   rw [br_dec (by omega), idx_eq (by omega) g, chk_eq (by omega), off_v]
   simp only [Option.bind_some]
   by_cases c1 : 0 ≤ x.1 ∧ x.1 ≤ (m : Int) - 1
   ·rw [br_nd c1, idx_eq (by omega) g, chk_eq (by omega), off_v]
    simp only [Option.bind_some]
    by_cases c2 : 0 ≤ x.2.1 ∧ x.2.1 ≤ (m : Int) - 1
    ·rw [br_nd c2, idx_eq (by omega) g, chk_eq (by omega), off_v]
     simp only [Option.bind_some]
     by_cases c3 : 0 ≤ x.2.2 ∧ x.2.2 ≤ (m : Int) - 1
     ·rw [br_nd c3, chk_eq (by omega), ih, y (by simp only [ok2, inT, c1, c2, c3, decide_true, and_self, Bool.and_self])]
     ·rw [br_nnd c3, no (by simp only [ok2, inT, c3, decide_false, Bool.and_false])]
    ·rw [br_nnd c2, no (by simp only [ok2, inT, c2, decide_false, Bool.and_false, Bool.false_and])]
   ·rw [br_nnd c1, no (by simp only [ok2, inT, c1, decide_false, Bool.and_false, Bool.false_and])]
  ·rw [br_ndec (by omega), alls_end (by omega)]
theorem rcheck_l3_p (ht : ts.length ≤ 1000000) : ∀ (n k : Nat), ts.length < n + k → k ≤ ts.length → rcheck_l3 N n k ws ts br_ = alls ok3 ts k (ws, ts, br_)
 | 0, k, h, _ => by omega
 | n + 1, k, h, hk => by
  unfold rcheck_l3
  by_cases c : k < ts.length
  ·have ih := rcheck_l3_p ht n (k + 1) (by omega) (by omega)
   rw [show ((k + 1 : Nat) : Int) = (k : Int) + 1 by omega] at ih
   have g := gets c (0, 0, 0)
   have y := alls_yes (p := ok3) (b := (ws, ts, br_)) (0, 0, 0) c
   have no := alls_no (p := ok3) (b := (ws, ts, br_)) (0, 0, 0) c
   generalize ts.getD k (0, 0, 0) = x at *
   rw [br_dec (by omega), idx_eq (by omega) g, idx_eq (by omega) g]
   by_cases c1 : x.2.2 < x.2.1
   ·rw [br_dec c1, no (by simp [ok3]; omega)]
   ·rw [br_ndec c1, chk_eq (by omega), ih, y (by simp [ok3]; omega)]
  ·rw [br_ndec (by omega), alls_end (by omega)]
theorem rcheck_l4_p (ht : ts.length ≤ 1000000) : ∀ (n k : Nat), ts.length < n + k → k ≤ ts.length → rcheck_l4 N n k ws ts br_ = alls ok4 ts k ()
 | 0, k, h, _ => by omega
 | n + 1, k, h, hk => by
  unfold rcheck_l4
  by_cases c : k < ts.length
  ·have ih := rcheck_l4_p ht n (k + 1) (by omega) (by omega)
   rw [show ((k + 1 : Nat) : Int) = (k : Int) + 1 by omega] at ih
   have g := gets c (0, 0, 0)
   have y := alls_yes (p := ok4) (b := ()) (0, 0, 0) c
   have no := alls_no (p := ok4) (b := ()) (0, 0, 0) c
   generalize ts.getD k (0, 0, 0) = x at *
   rw [br_dec (by omega), idx_eq (by omega) g, idx_eq (by omega) g, idx_eq (by omega) g, off_v]
   simp only [Option.bind_some, Bool.not_not]
   by_cases c1 : x.2.1 ≤ x.1 ∧ x.1 ≤ x.2.2
   ·rw [br_dec c1, no (by simp only [ok4, c1, and_self, decide_true, Bool.not_true])]
   ·rw [br_ndec c1, chk_eq (by omega), ih, y (by simp only [ok4, c1, decide_false, Bool.not_false])]
  ·rw [br_ndec (by omega), alls_end (by omega)]
theorem rcheck_v (hN : 20 ≤ N) (hw : ws.length ≤ 1000000) (ht : ts.length ≤ 1000000) : rcheck_S N ws ts br_ = some (checkT ws ts br_) := by
 unfold rcheck_S checkT
 rw [off_v]
 simp only [Option.bind_some]
 by_cases c1 : 1 ≤ (ws.length : Int) ∧ (ws.length : Int) ≤ 12
 rotate_left
 ·rw [br_nnd c1, if_pos c1]
 rw [br_nd c1, if_neg (by simpa using c1)]
 by_cases c2 : 6 < (ts.length : Int)
 ·rw [br_dec c2, if_pos c2]
 rw [br_ndec c2, if_neg c2, off_v]
 simp only [Option.bind_some]
 by_cases c3 : 1 ≤ br_ ∧ br_ ≤ 40
 rotate_left
 ·rw [br_nnd c3, if_pos c3]
 have e1 := rcheck_l1_p (N := N) (ts := ts) (br_ := br_) hw N 0 (by omega) (by omega)
 have e2 := rcheck_l2_p (N := N) (ws := ws) (br_ := br_) ht (m := ws.length) hw N 0 (by omega) (by omega)
 have e3 := rcheck_l3_p (N := N) (ws := ws) (br_ := br_) ht N 0 (by omega) (by omega)
 have e4 := rcheck_l4_p (N := N) (ws := ws) (br_ := br_) ht N 0 (by omega) (by omega)
 simp only [Int.natCast_zero] at e1 e2 e3 e4
 rw [br_nd c3, if_neg (by simpa using c3), e1]
 unfold alls at e2 e3 e4 ⊢
 simp only [List.drop_zero] at e2 e3 e4 ⊢
 cases d1 : ws.all okw
 ·simp
 simp only [if_true, Option.bind_some, e2]
 cases d2 : ts.all (ok2 ws.length)
 ·simp
 simp only [if_true, Option.bind_some, e3]
 cases d3 : ts.all ok3
 ·simp
 simp only [if_true, Option.bind_some, e4]
 cases d4 : ts.all ok4 <;> simp
theorem copyw_v (h : ws.length ≤ 1000000) : copyw_S N ws = some ws := by
 unfold copyw_S
 rw [grd_eq (lmI_iff.2 (by omega))]
 simp
theorem copyt_v (h : ts.length ≤ 1000000) : copyt_S N ts = some ts := by
 unfold copyt_S
 rw [grd_eq (lmI_iff.2 (by omega))]
 simp
theorem copyi_v {l : List Int} (h : l.length ≤ 1000000) : copyi_S N l = some l := by
 unfold copyi_S
 rw [grd_eq (lmI_iff.2 (by omega))]
 simp
theorem copyx_v (hw : ws.length ≤ 1000000) (ht : ts.length ≤ 1000000) : copyx_S N ws ts br_ = some (ws, ts, br_) := by
 unfold copyx_S
 rw [copyw_v hw, copyt_v ht]; rfl
theorem take_succ' {α : Type} {l : List α} {k : Nat} (c : k < l.length) (d : α) : l.take (k + 1) = l.take k ++ [l.getD k d] := by
 rw [List.take_add_one]; simp [List.getD, c]
theorem theirs_l1_p {g : Int} {t : List Wd} {t2 : List Tn} {t3 o : Int} (hw : ws.length ≤ 1000) : ∀ (n k : Nat), ws.length < n + k → k ≤ ws.length → theirs_l1 N n ws ws.length k t t2 t3 g o (ws.take k) = some (t, t2, t3, g, o, ws)
 | 0, k, h, _ => by omega
 | n + 1, k, h, hk => by
  unfold theirs_l1
  by_cases c : k < ws.length
  ·have ih := theirs_l1_p (g := g) (t := t) (t2 := t2) (t3 := t3) (o := o) hw n (k + 1) (by omega) (by omega)
   rw [show ((k + 1 : Nat) : Int) = (k : Int) + 1 by omega, take_succ' c (0, 0, false)] at ih
   rw [br_dec (by omega), idx_eq (by omega) (gets c (0, 0, false)), lim_eq (by simp; omega), chk_eq (by omega)]
   exact ih
  ·rw [br_ndec (by omega), List.take_of_length_le (by omega)]
theorem theirs_l2_p {g o : Int} {t : List Wd} (ht : ts.length ≤ 1000) : ∀ (n k : Nat), ts.length < n + k → k ≤ ts.length → theirs_l2 N n ts ts.length k g o t (ts.take k) = some (g, o, t, ts)
 | 0, k, h, _ => by omega
 | n + 1, k, h, hk => by
  unfold theirs_l2
  by_cases c : k < ts.length
  ·have ih := theirs_l2_p (g := g) (o := o) (t := t) ht n (k + 1) (by omega) (by omega)
   rw [show ((k + 1 : Nat) : Int) = (k : Int) + 1 by omega, take_succ' c (0, 0, 0)] at ih
   rw [br_dec (by omega), idx_eq (by omega) (gets c (0, 0, 0)), lim_eq (by simp; omega), chk_eq (by omega)]
   exact ih
  ·rw [br_ndec (by omega), List.take_of_length_le (by omega)]
theorem theirs_v (hw : ws.length ≤ 1000) (ht : ts.length ≤ 1000) (h1 : ws.length < N) (h2 : ts.length < N) : theirs_S N ws ts br_ = some (ws, ts, br_) := by
 have e1 := theirs_l1_p (N := N) (g := 0) (t := ws) (t2 := ts) (t3 := br_) (o := br_) hw N 0 (by omega) (by omega)
 have e2 := theirs_l2_p (N := N) (g := 0) (o := br_) (t := ws) ht N 0 (by omega) (by omega)
 simp only [Int.natCast_zero, List.take_zero] at e1 e2
 unfold theirs_S
 rw [e1]
 simp only [Option.bind_some]
 rw [e2]; rfl
theorem likei_v {l : List Int} (h : l.length ≤ 1000) (hN : l.length < N) : likei_S N l l = some true := by
 have e : ∀ (n k : Nat), l.length < n + k → k ≤ l.length → equali_l1 N n l l l.length k = some (.inr ()) := by
  intro n
  induction n with
  | zero => intro k h _; omega
  | succ n ih =>
   intro k h2 hk
   unfold equali_l1
   by_cases c : k < l.length
   ·have := ih (k + 1) (by omega) (by omega)
    rw [show ((k + 1 : Nat) : Int) = (k : Int) + 1 by omega] at this
    rw [br_dec (by omega), idx_eq (by omega) (gets c 0), idx_eq (by omega) (gets c 0), br_nd rfl, chk_eq (by omega), this]
   ·rw [br_ndec (by omega)]
 have e0 := e N 0 (by omega) (by omega)
 simp only [Int.natCast_zero] at e0
 unfold likei_S equali_S
 rw [br_nd rfl, e0]; rfl
theorem likew_v {l : List Wd} (h : l.length ≤ 1000) (hN : l.length < N) : likew_S N l l = some true := by
 have e : ∀ (n k : Nat), l.length < n + k → k ≤ l.length → equalw_l1 N n l l l.length k = some (.inr ()) := by
  intro n
  induction n with
  | zero => intro k h _; omega
  | succ n ih =>
   intro k h2 hk
   unfold equalw_l1
   by_cases c : k < l.length
   ·have := ih (k + 1) (by omega) (by omega)
    rw [show ((k + 1 : Nat) : Int) = (k : Int) + 1 by omega] at this
    rw [br_dec (by omega), idx_eq (by omega) (gets c (0, 0, false)), idx_eq (by omega) (gets c (0, 0, false)), chk_eq (by omega), this]
    simp [br]
   ·rw [br_ndec (by omega)]
 have e0 := e N 0 (by omega) (by omega)
 simp only [Int.natCast_zero] at e0
 unfold likew_S equalw_S
 rw [br_nd rfl, e0]; rfl
theorem liket_v {l : List Tn} (h : l.length ≤ 1000) (hN : l.length < N) : liket_S N l l = some true := by
 have e : ∀ (n k : Nat), l.length < n + k → k ≤ l.length → equalt_l1 N n l l l.length k = some (.inr ()) := by
  intro n
  induction n with
  | zero => intro k h _; omega
  | succ n ih =>
   intro k h2 hk
   unfold equalt_l1
   by_cases c : k < l.length
   ·have := ih (k + 1) (by omega) (by omega)
    rw [show ((k + 1 : Nat) : Int) = (k : Int) + 1 by omega] at this
    rw [br_dec (by omega), idx_eq (by omega) (gets c (0, 0, 0)), idx_eq (by omega) (gets c (0, 0, 0)), chk_eq (by omega), this]
    simp [br]
   ·rw [br_ndec (by omega)]
 have e0 := e N 0 (by omega) (by omega)
 simp only [Int.natCast_zero] at e0
 unfold liket_S equalt_S
 rw [br_nd rfl, e0]; rfl
theorem same_v (hw : ws.length ≤ 1000) (ht : ts.length ≤ 1000) (h1 : ws.length < N) (h2 : ts.length < N) : same_S N ws ts br_ ws ts br_ = some true := by
 unfold same_S
 rw [likew_v hw h1]
 simp only [Option.bind_some, br_true]
 rw [liket_v ht h2]
 simp [br]
theorem great_v (m : Int) : great_S N ws ts br_ m = some true ∨ great_S N ws ts br_ m = some false ∧ ws.length ≤ 20 ∧ ts.length ≤ 20 ∧ ((ws.length : Int) ≤ m ∨ 12 < (ws.length : Int)) := by
 unfold great_S
 by_cases c : 20 < (ws.length : Int)
 ·rw [br_dec c]; exact .inl rfl
 ·rw [br_ndec c]
  by_cases d : 20 < (ts.length : Int)
  ·rw [br_dec d]; exact .inl rfl
  ·rw [br_ndec d]
   by_cases e : m < (ws.length : Int)
   ·rw [br_dec e]
    by_cases f : (ws.length : Int) ≤ 12
    ·rw [decide_eq_true f]; exact .inl rfl
    ·rw [decide_eq_false f]; exact .inr ⟨rfl, by omega, by omega, by omega⟩
   ·rw [br_ndec e]; exact .inr ⟨rfl, by omega, by omega, by omega⟩
end
end Go.Proofs.YtfamlpbdhhikdaaGreat

namespace Go.Proofs.YtfamlpbdhhikdaaGreat
set_option linter.all false
open Go

structure TFine (ws : List Wd) (ts : List Tn) (br_ : Int) : Prop where
 n0 : 1 ≤ ws.length
 n : ws.length ≤ 12
 t : ts.length ≤ 6
 b0 : 1 ≤ br_
 b1 : br_ ≤ 40
 w : ∀ w ∈ ws, (1 ≤ w.1 ∧ w.1 ≤ 9) ∧ 0 ≤ w.2.1 ∧ w.2.1 ≤ 20
 x : ∀ x ∈ ts, (0 ≤ x.1 ∧ x.1 < ws.length) ∧ (0 ≤ x.2.1 ∧ x.2.1 < ws.length) ∧ (0 ≤ x.2.2 ∧ x.2.2 < ws.length) ∧ x.2.1 ≤ x.2.2 ∧ ¬ (x.2.1 ≤ x.1 ∧ x.1 ≤ x.2.2)
section
variable {N : Nat} {ws : List Wd} {ts : List Tn} {br_ : Int}
theorem tfine_of (h : checkT ws ts br_ = 0) : TFine ws ts br_ := by
 unfold checkT at h
 split at h
 ·omega
 rename_i c1
 split at h
 ·omega
 split at h
 ·omega
 rename_i c3
 split at h
 ·omega
 rename_i c4
 split at h
 ·omega
 rename_i c5
 split at h
 ·omega
 rename_i c6
 split at h
 ·omega
 rename_i c7
 simp only [Bool.not_eq_false, List.all_eq_true] at c4 c5 c6 c7
 refine ⟨by omega, by omega, by omega, by omega, by omega, fun w hw => ?_, fun x hx => ?_⟩
 ·have := c4 w hw
  simpa [okw] using this
 ·have h1 := c5 x hx; have h2 := c6 x hx; have h3 := c7 x hx
  simp only [ok2, inT, ok3, ok4, Bool.and_eq_true, decide_eq_true_eq, Bool.not_eq_true', decide_eq_false_iff_not] at h1 h2 h3
  exact ⟨by omega, by omega, by omega, h2, h3⟩
theorem TFine.okW (h : TFine ws ts br_) : okW ws = true := okW_iff.2 ⟨by have := h.n; omega, fun w hw => by have := (h.w w hw).1; omega⟩
theorem opened_v (hN : 20 ≤ N) (hw : ws.length ≤ 1000000) (ht : ts.length ≤ 1000000) : opened_S N ws ts br_ = some (if checkT ws ts br_ = 0 then .inl ((ws, ts, br_), 0) else .inr (checkT ws ts br_)) := by
 unfold opened_S
 rw [check_v hN hw ht]
 simp only [Option.bind_some]
 by_cases c : checkT ws ts br_ = 0
 ·rw [br_nd c, if_pos c]
 ·rw [br_nnd c, if_neg c]
theorem has_l1_p {l : List Int} {v : Int} (hl : l.length ≤ 1000000) : ∀ (n k : Nat), l.length < n + k → k ≤ l.length → has_l1 N n l v k = some (if (l.drop k).contains v then .inl () else .inr ())
 | 0, k, h, _ => by omega
 | n + 1, k, h, hk => by
  unfold has_l1
  by_cases c : k < l.length
  ·have ih := has_l1_p (v := v) hl n (k + 1) (by omega) (by omega)
   rw [show ((k + 1 : Nat) : Int) = (k : Int) + 1 by omega] at ih
   rw [br_dec (by omega), idx_eq (by omega) (gets c 0), drop_cons c 0, List.contains_cons]
   generalize l.getD k 0 = x at *
   by_cases d : x = v
   ·subst d; rw [br_dec rfl]; simp
   ·rw [br_ndec d, chk_eq (by omega), ih, show (v == x) = false by simp; exact fun e => d e.symm, Bool.false_or]
  ·rw [br_ndec (by omega), List.drop_of_length_le (by omega)]; rfl
theorem has_v {l : List Int} {v : Int} (hl : l.length ≤ 1000000) (hN : l.length < N) : has_S N l v = some (l.contains v) := by
 unfold has_S
 have := has_l1_p (N := N) (v := v) hl N 0 (by omega) (by omega)
 simp only [Int.natCast_zero, List.drop_zero] at this
 rw [this]
 cases l.contains v <;> rfl
def wordsL (a b : Int) : List Int := (List.range (b - a).toNat).map fun (i : Nat) => a + (i : Int)
theorem wordsL_len (a b : Int) : (wordsL a b).length = (b - a).toNat := by simp [wordsL]
theorem mem_wordsL {a b x : Int} : x ∈ wordsL a b ↔ a ≤ x ∧ x < b := by
 simp only [wordsL, List.mem_map, List.mem_range]
 constructor
 ·rintro ⟨i, hi, rfl⟩; omega
 ·rintro ⟨h1, h2⟩; exact ⟨(x - a).toNat, by omega, by omega⟩
theorem words_l1_p {a b : Int} (ha : -1000 ≤ a ∧ b ≤ 1000) : ∀ (n : Nat) (w : Int), (b - w).toNat < n → a ≤ w → (a ≤ b → w ≤ b) → words_l1 N n b w (wordsL a w) = some (wordsL a (max w b))
 | 0, w, h, _, _ => by omega
 | n + 1, w, h, h1, h2 => by
  unfold words_l1
  by_cases c : w < b
  ·have ih := words_l1_p ha n (w + 1) (by omega) (by omega) (by omega)
   have e : wordsL a (w + 1) = wordsL a w ++ [w] := by
    unfold wordsL
    rw [show (w + 1 - a).toNat = (w - a).toNat + 1 by omega, List.range_succ, List.map_append]
    simp; omega
   rw [e] at ih
   rw [br_dec c, lim_eq (by simp [wordsL_len]; omega), chk_eq (by omega), ih]
   congr 2; omega
  ·rw [br_ndec c]; congr 2; omega
theorem words_v {a b : Int} (ha : -1000 ≤ a ∧ b ≤ 1000) (hab : a ≤ b) (hN : (b - a).toNat < N) : words_S N a b = some (wordsL a b) := by
 unfold words_S
 have := words_l1_p (N := N) ha N a hN (by omega) (by omega)
 have e : wordsL a a = [] := by simp [wordsL]
 rw [e] at this
 rw [this]
 simp only [Option.bind_some]
 rw [show max a b = b by omega]
def coreB (l : List Int) (x : Tn) : Bool := (wordsL x.2.1 (x.2.2 + 1)).all fun w => l.contains w
def sayP (l : List Int) (x : Tn) : Bool := coreB l x && !l.contains x.1
theorem otherwise_l1_p {l : List Int} (hl : l.length ≤ 1000000) (hN : l.length < N) {x : Tn} (hx : -1000 ≤ x.2.1 ∧ x.2.2 ≤ 1000) : ∀ (n : Nat) (w : Int), (x.2.2 + 1 - w).toNat < n → x.2.1 ≤ w →
  otherwise_l1 N n l w x.1 x.2.1 x.2.2 = some (if (wordsL w (x.2.2 + 1)).all (fun w => l.contains w) then .inr (l, x.1, x.2.1, x.2.2) else .inl ())
 | 0, w, h, _ => by omega
 | n + 1, w, h, h1 => by
  unfold otherwise_l1
  by_cases c : w ≤ x.2.2
  ·have ih := otherwise_l1_p hl hN hx n (w + 1) (by omega) (by omega)
   have e : wordsL w (x.2.2 + 1) = w :: wordsL (w + 1) (x.2.2 + 1) := by
    unfold wordsL
    rw [show (x.2.2 + 1 - w).toNat = (x.2.2 + 1 - (w + 1)).toNat + 1 by omega, List.range_succ_eq_map, List.map_cons, List.map_map]
    congr 1
    ·simp
    ·refine List.map_congr_left fun i _ => ?_
     simp only [Function.comp]; omega
   rw [e, List.all_cons, br_dec c, has_v hl hN]
   simp only [Option.bind_some]
   cases l.contains w
   ·rfl
   ·rw [Bool.not_true, br_false, chk_eq (by omega), ih, Bool.true_and]
  ·rw [br_ndec c]
   have : wordsL w (x.2.2 + 1) = [] := by unfold wordsL; rw [show (x.2.2 + 1 - w).toNat = 0 by omega]; rfl
   rw [this]; rfl
theorem otherwise_v {l : List Int} (hl : l.length ≤ 1000000) (hN : l.length < N) {x : Tn} (hx : -1000 ≤ x.2.1 ∧ x.2.2 ≤ 1000) (hN2 : (x.2.2 + 1 - x.2.1).toNat < N) : otherwise_S N x.1 x.2.1 x.2.2 l = some (sayP l x) := by
 unfold otherwise_S sayP coreB
 rw [otherwise_l1_p hl hN hx N x.2.1 hN2 (by omega)]
 cases (wordsL x.2.1 (x.2.2 + 1)).all (fun w => l.contains w)
 ·rfl
 ·simp only [if_true, Option.bind_some]
  rw [has_v hl hN]; rfl
def selK (p : Tn → Bool) (ts : List Tn) (k : Nat) : List Int := ((List.range k).filter fun i => p (ts.getD i (0, 0, 0))).map fun (i : Nat) => (i : Int)
theorem selK_len (p : Tn → Bool) (ts : List Tn) (k : Nat) : (selK p ts k).length ≤ k := by
 have := List.length_filter_le (fun i => p (ts.getD i (0, 0, 0))) (List.range k)
 simp only [selK, List.length_map]
 simpa using this
theorem selK_succ (p : Tn → Bool) (ts : List Tn) (k : Nat) : selK p ts (k + 1) = selK p ts k ++ (if p (ts.getD k (0, 0, 0)) = true then [(k : Int)] else []) := by
 simp only [selK, List.range_succ, List.filter_append, List.map_append]
 congr 1
 rw [List.filter_cons]
 by_cases h : p (ts.getD k (0, 0, 0)) = true
 ·rw [if_pos h, if_pos h]; rfl
 ·rw [if_neg h, if_neg h]; rfl
theorem selK_congr {p q : Tn → Bool} {ts : List Tn} (h : ∀ x ∈ ts, p x = q x) : ∀ k, k ≤ ts.length → selK p ts k = selK q ts k
 | 0, _ => rfl
 | k + 1, hk => by rw [selK_succ, selK_succ, selK_congr h k (by omega), h _ (getD_mem (by omega))]
theorem said_l1_p {l : List Int} {p : Tn → Bool} (ht : ts.length ≤ 1000) (ho : ∀ x ∈ ts, otherwise_S N x.1 x.2.1 x.2.2 l = some (p x)) : ∀ (n k : Nat), ts.length < n + k → k ≤ ts.length → said_l1 N n l k ws ts br_ (selK p ts k) = some (selK p ts ts.length)
 | 0, k, h, _ => by omega
 | n + 1, k, h, hk => by
  unfold said_l1
  by_cases c : k < ts.length
  ·have ih := said_l1_p ht ho n (k + 1) (by omega) (by omega)
   rw [selK_succ] at ih
   have hl := selK_len p ts k
   have hp := ho _ (getD_mem (d := (0, 0, 0)) c)
   have g := gets c (0, 0, 0)
   generalize ts.getD k (0, 0, 0) = x at *
   have hj : ∀ out, said_j1 N (said_l1 N n) l k ws ts br_ out = said_l1 N n l ((k + 1 : Nat) : Int) ws ts br_ out := fun out => by
    unfold said_j1
    rw [chk_eq (by omega)]; rfl
   rw [br_dec (by omega), idx_eq (by omega) g, hp]
   simp only [Option.bind_some, hj]
   cases hq : p x
   ·rw [br_false]
    simpa [hq] using ih
   ·rw [br_true, lim_eq (by simp; omega)]
    simpa [hq] using ih
  ·rw [br_ndec (by omega)]
   obtain rfl : k = ts.length := by omega
   rfl
theorem said_v {l : List Int} {p : Tn → Bool} (ht : ts.length ≤ 1000) (hN : ts.length < N) (ho : ∀ x ∈ ts, otherwise_S N x.1 x.2.1 x.2.2 l = some (p x)) : said_S N ws ts br_ l = some (selK p ts ts.length) := by
 unfold said_S
 have := said_l1_p (N := N) (ws := ws) (br_ := br_) ht ho N 0 (by omega) (by omega)
 simp only [Int.natCast_zero] at this
 have e : selK p ts 0 = [] := rfl
 rw [e] at this
 rw [this]; rfl
theorem TFine.said (h : TFine ws ts br_) (hN : 20 ≤ N) {l : List Int} (hl : l.length ≤ 1000000) (hlN : l.length < N) : said_S N ws ts br_ l = some (selK (sayP l) ts ts.length) := by
 have := h.t; have := h.n
 exact said_v (by omega) (by omega) fun x hx => by
  have := h.x x hx
  exact otherwise_v hl hlN (by omega) (by omega)
theorem sayP_words {a b : Int} {x : Tn} (hx : x.2.1 ≤ x.2.2) : sayP (wordsL a b) x = turnP a b x := by
 have e : coreB (wordsL a b) x = (decide (a ≤ x.2.1) && decide (x.2.2 < b)) := by
  rw [Bool.eq_iff_iff]
  simp only [coreB, List.all_eq_true, List.contains_iff_mem, mem_wordsL, Bool.and_eq_true, decide_eq_true_eq]
  constructor
  ·intro h
   exact ⟨(h x.2.1 (by omega)).1, (h x.2.2 (by omega)).2⟩
  ·intro h w hw; omega
 have e2 : (wordsL a b).contains x.1 = decide (a ≤ x.1 ∧ x.1 ≤ b - 1) := by
  rw [Bool.eq_iff_iff]
  simp only [List.contains_iff_mem, mem_wordsL, decide_eq_true_eq]
  omega
 unfold sayP turnP
 rw [e, e2]
theorem TFine.said_words (h : TFine ws ts br_) (hN : 20 ≤ N) {a b : Int} (ha : 0 ≤ a ∧ b ≤ 13) : said_S N ws ts br_ (wordsL a b) = some (turnL ts a b) := by
 have hl : (wordsL a b).length ≤ 13 := by rw [wordsL_len]; omega
 rw [h.said hN (by omega) (by omega)]
 congr 1
 exact selK_congr (fun x hx => sayP_words (h.x x hx).2.2.2.1) _ (Nat.le_refl _)
def saysR (ws : List Wd) (ts : List Tn) (br_ : Int) (a b : Int) : List Int × Int :=
 if checkT ws ts br_ ≠ 0 then ([], checkT ws ts br_) else if inT ws.length a = false then ([], 1) else if inT ws.length b = false then ([], 1) else if b < a then ([], 4) else (turnL ts a (b + 1), 0)
theorem saysR_len (ht : ts.length ≤ 1000) (a b : Int) : (saysR ws ts br_ a b).1.length ≤ 1000 := by
 unfold saysR
 split
 ·simp
 ·split
  ·simp
  ·split
   ·simp
   ·split
    ·simp
    ·exact Nat.le_trans (turnK_len _ _ _ _) ht
theorem says_v (hN : 110 ≤ N) (hw : ws.length ≤ 1000000) (ht : ts.length ≤ 1000000) (a b : Int) : says__S N ws ts br_ a b = some (saysR ws ts br_ a b) := by
 unfold says__S saysR
 rw [opened_v (by omega) hw ht]
 by_cases c : checkT ws ts br_ = 0
 ·have hF := tfine_of c
  have := hF.n; have := hF.t
  rw [if_pos c, if_neg (by simpa using c)]
  simp only [Option.bind_some]
  rw [br_nd trivial, word_v hw, word_v hw]
  simp only [Option.bind_some]
  cases d : inT ws.length a
  ·rfl
  cases e : inT ws.length b
  ·rfl
  simp only [inT, decide_eq_true_eq] at d e
  by_cases f : b < a
  ·simp [br, f]
  ·simp only [Bool.not_true, br_false]
   rw [br_ndec f, chk_eq (by omega), turned_v hN (by omega) (by omega)]
   simp [f]
 ·rw [if_neg c, if_pos c]
  simp only [Option.bind_some]
  rw [br_nnd c]
theorem rsays_v (hN : 110 ≤ N) (hw : ws.length ≤ 1000000) (ht : ts.length ≤ 1000000) (a b : Int) : rsays_S N ws ts br_ a b = some (saysR ws ts br_ a b) := by
 unfold rsays_S saysR
 rw [rcheck_v (by omega) hw ht]
 simp only [Option.bind_some]
 by_cases c : checkT ws ts br_ = 0
 ·have hF := tfine_of c
  have := hF.n; have := hF.t
  rw [br_nd c, if_neg (by simpa using c), chk_eq (by omega), off_v, off_v]
  simp only [Option.bind_some]
  by_cases d : 0 ≤ a ∧ a ≤ (ws.length : Int) - 1
  rotate_left
  ·rw [br_nnd d, if_pos (by simp only [inT, d, decide_false])]
  rw [br_nd d, if_neg (by simp only [inT, d, and_self, decide_true]; simp), chk_eq (by omega)]
  by_cases e : 0 ≤ b ∧ b ≤ (ws.length : Int) - 1
  rotate_left
  ·rw [br_nnd e, if_pos (by simp only [inT, e, decide_false])]
  rw [br_nd e, if_neg (by simp only [inT, e, and_self, decide_true]; simp)]
  by_cases f : b < a
  ·rw [br_dec f, if_pos f]
  ·rw [br_ndec f, if_neg f, chk_eq (by omega), words_v (by omega) (by omega) (by omega)]
   simp only [Option.bind_some]
   rw [hF.said_words (by omega) (by omega)]; rfl
 ·rw [br_nnd c, if_pos c]
theorem sum_l1_p {l : List Int} {m : Int} (hl : l.length ≤ 1000) (hm : 0 ≤ m ∧ m ≤ 1000) (hr : ∀ x ∈ l, -m ≤ x ∧ x ≤ m) : ∀ (n k : Nat) (s : Int), l.length < n + k → k ≤ l.length → (-(m * k) ≤ s ∧ s ≤ m * k) → sum_l1 N n s l l.length k = some (s + (l.drop k).sum)
 | 0, k, s, h, _, _ => by omega
 | n + 1, k, s, h, hk, hs => by
  unfold sum_l1
  have hmk : m * (k : Int) ≤ 1000 * 1000 := Int.mul_le_mul hm.2 (by omega) (by omega) (by omega)
  by_cases c : k < l.length
  ·have hx := hr _ (getD_mem (d := 0) c)
   have g := gets c 0
   rw [drop_cons c 0]
   generalize l.getD k 0 = x at *
   have e : m * ((k + 1 : Nat) : Int) = m * k + m := by rw [Int.natCast_add, Int.mul_add]; simp
   have ih := sum_l1_p hl hm hr n (k + 1) (s + x) (by omega) (by omega) (by omega)
   rw [show ((k + 1 : Nat) : Int) = (k : Int) + 1 by omega] at ih
   rw [br_dec (by omega), idx_eq (by omega) g, chk_eq (by omega), chk_eq (by omega), ih, List.sum_cons]
   congr 1; omega
  ·rw [br_ndec (by omega), List.drop_of_length_le (by omega)]; simp
theorem sum_v {l : List Int} {m : Int} (hl : l.length ≤ 1000) (hN : l.length < N) (hm : 0 ≤ m ∧ m ≤ 1000) (hr : ∀ x ∈ l, -m ≤ x ∧ x ≤ m) : sum_S N l = some l.sum := by
 unfold sum_S
 have := sum_l1_p (N := N) hl hm hr N 0 0 (by omega) (by omega) (by simp)
 simp only [Int.natCast_zero, List.drop_zero, Int.zero_add] at this
 rw [this]; rfl
def readE (ws : List Wd) (ts : List Tn) (br_ : Int) (l : List Int) : Int :=
 if checkT ws ts br_ ≠ 0 then checkT ws ts br_ else if l.all in12 = false then 3 else if l.sum ≠ ws.length then 2 else 0
theorem all12 {l : List Int} (h : l.all in12 = true) : ∀ x ∈ l, 1 ≤ x ∧ x ≤ 12 := by simpa [in12] using h
theorem reading_v (hN : 110 ≤ N) (hw : ws.length ≤ 1000000) (ht : ts.length ≤ 1000000) {l : List Int} (hl : l.length ≤ 100) : reading_S N ws ts br_ l = some (if readE ws ts br_ l = 0 then .inl ((ws, ts, br_), 0) else .inr (readE ws ts br_ l)) := by
 unfold reading_S readE
 rw [opened_v (by omega) hw ht]
 by_cases c : checkT ws ts br_ = 0
 rotate_left
 ·simp only [if_neg c, if_pos c, Option.bind_some]
  rw [br_nnd c]
 simp only [c, if_true, Option.bind_some, ne_eq, not_true_eq_false, if_false]
 rw [br_nd trivial, everyi1_v (by omega) (by omega)]
 simp only [Option.bind_some]
 cases d : l.all in12
 ·rfl
 have h12 := all12 d
 rw [sum_v (m := 12) (by omega) (by omega) (by omega) (fun x hx => by have := h12 x hx; omega)]
 simp only [Option.bind_some, Bool.not_true, br_false, end__S, Bool.true_eq_false, if_false]
 by_cases e : l.sum = (ws.length : Int)
 ·rw [br_nd e]; simp [e]
 ·rw [br_nnd e]; simp [e]
theorem rreading_l1_p {l : List Int} (hl : l.length ≤ 1000) : ∀ (n k : Nat) (s : Int), l.length < n + k → k ≤ l.length → 0 ≤ s ∧ s ≤ 100 → 
  rreading_l1 N n l s k ws ts br_ = some (if (l.drop k).all in12 then .inr (min (s + (l.drop k).sum) 100, ws, ts, br_) else .inl ())
 | 0, k, s, h, _, _ => by omega
 | n + 1, k, s, h, hk, hs => by
  unfold rreading_l1
  by_cases c : k < l.length
  ·have g := gets c 0
   rw [drop_cons c 0]
   generalize l.getD k 0 = x at *
   rw [br_dec (by omega), idx_eq (by omega) g, off_v]
   simp only [Option.bind_some]
   by_cases d : 1 ≤ x ∧ x ≤ 12
   ·have ih := rreading_l1_p hl n (k + 1) (min (s + x) 100) (by omega) (by omega) (by omega)
    rw [show ((k + 1 : Nat) : Int) = (k : Int) + 1 by omega] at ih
    rw [br_nd d, idx_eq (by omega) g, chk_eq (by omega), chk_eq (by omega), ih, List.all_cons, show in12 x = true by simp [in12, d], Bool.true_and, List.sum_cons]
    by_cases f : (l.drop (k + 1)).all in12 = true
    ·have h0 : 0 ≤ (l.drop (k + 1)).sum := sum_nonneg (fun y hy => by have := all12 f y hy; omega)
     rw [if_pos f, if_pos f]
     congr 3; omega
    ·rw [if_neg f, if_neg f]
   ·rw [br_nnd d, List.all_cons, show in12 x = false by simp [in12]; omega]; rfl
  ·rw [br_ndec (by omega), List.drop_of_length_le (by omega)]
   simp; omega
where
 sum_nonneg {l : List Int} (h : ∀ x ∈ l, 0 ≤ x) : 0 ≤ l.sum := by
  induction l with
  | nil => simp
  | cons a l ih =>
   have := h a (by simp); have := ih (fun x hx => h x (by simp [hx]))
   rw [List.sum_cons]; omega
theorem rreading_v (hN : 110 ≤ N) (hw : ws.length ≤ 1000000) (ht : ts.length ≤ 1000000) {l : List Int} (hl : l.length ≤ 100) : rreading_S N ws ts br_ l = some (readE ws ts br_ l) := by
 unfold rreading_S readE
 rw [rcheck_v (by omega) hw ht]
 simp only [Option.bind_some]
 by_cases c : checkT ws ts br_ = 0
 rotate_left
 ·rw [br_nnd c, if_pos c]
 have hF := tfine_of c
 have := hF.n
 have e := rreading_l1_p (N := N) (ws := ws) (ts := ts) (br_ := br_) (l := l) (by omega) N 0 0 (by omega) (by omega) (by omega)
 simp only [Int.natCast_zero, List.drop_zero, Int.zero_add] at e
 rw [br_nd c, if_neg (by simpa using c), e]
 cases d : l.all in12
 ·rfl
 simp only [if_true, Option.bind_some, Bool.true_eq_false, if_false]
 by_cases f : l.sum = (ws.length : Int)
 ·rw [br_nd (by omega), if_neg (by simpa using f)]
 ·rw [br_nnd (by omega), if_pos f]
end
end Go.Proofs.YtfamlpbdhhikdaaGreat

namespace Go.Proofs.YtfamlpbdhhikdaaGreat
set_option linter.all false
open Go

section
variable {N : Nat} {ws : List Wd} {ts : List Tn} {br_ : Int}
theorem sylR_step {a b : Nat} (h : a < b) (hb : b ≤ ws.length) : sylR ws a b = (ws.getD a (0, 0, false)).1 + sylR ws (a + 1) b := by
 unfold sylR
 rw [drop_cons (l := ws.take b) (by simp; omega) (0, 0, false), List.map_cons, List.sum_cons]
 congr 2
 simp [List.getD, List.getElem?_take, h]
theorem sylR_end {a b : Nat} (h : b ≤ a) : sylR ws a b = 0 := by
 unfold sylR
 rw [List.drop_of_length_le (by simp; omega)]; rfl
theorem rfault_l1_p (hF : TFine ws ts br_) {f : Int} {b : Nat} (hb : b ≤ ws.length) : ∀ (n w : Nat) (s : Int), b < n + w → w ≤ b → (0 ≤ s ∧ s ≤ 100 * w) → rfault_l1 N n f b s w ws ts br_ = some (f, (b : Int), s + sylR ws w b, ws, ts, br_)
 | 0, w, s, h, _, _ => by omega
 | n + 1, w, s, h, hw, hs => by
  have := hF.n
  unfold rfault_l1
  by_cases c : w < b
  ·have g := gets (l := ws) (k := w) (by omega) (0, 0, false)
   have hx := (hF.w _ (getD_mem (d := (0, 0, false)) (show w < ws.length by omega))).1
   rw [sylR_step c hb]
   generalize ws.getD w (0, 0, false) = x at *
   have ih := rfault_l1_p hF (f := f) hb n (w + 1) (s + x.1) (by omega) (by omega) (by omega)
   rw [show ((w + 1 : Nat) : Int) = (w : Int) + 1 by omega] at ih
   rw [br_dec (by omega), idx_eq (by omega) g, chk_eq (by omega), chk_eq (by omega), ih]
   congr 4; omega
  ·rw [br_ndec (by omega), sylR_end (by omega)]; simp
theorem stop_v (h : ws.length ≤ 1000) {p : Nat} (hp : p ≤ ws.length) : stop_S N ws ts br_ p = some (stopR ws p) := by
 unfold stop_S stopR
 by_cases h0 : p = 0
 ·subst h0; simp [br]
 ·rw [br_ndec (by omega)]
  by_cases h1 : p = ws.length
  ·rw [br_dec (by simp [h1])]; simp [h1]
  ·rw [br_ndec (by omega), chk_eq (by omega), show (p : Int) - 1 = ((p - 1 : Nat) : Int) by omega, idx_eq (by omega) (gets (l := ws) (by omega) (0, 0, false))]
   simp [h0, h1]
def kindR (ws : List Wd) (ts : List Tn) (br_ : Int) (a b : Nat) : Int := if (faultR ws ts br_ a b).2 = true then (faultR ws ts br_ a b).1 else -1
theorem faultR_pos (a b : Nat) : 0 ≤ (faultR ws ts br_ a b).1 := by
 unfold faultR
 split
 ·simp
 ·split <;> simp
theorem rfault_v (hN : 110 ≤ N) (hF : TFine ws ts br_) {a b : Nat} (hab : a ≤ b) (hb : b ≤ ws.length) : rfault_S N ws ts br_ a b = some (kindR ws ts br_ a b) := by
 have := hF.n
 unfold rfault_S kindR faultR
 rw [rfault_l1_p hF hb N a 0 (by omega) hab (by omega)]
 simp only [Option.bind_some, Int.zero_add]
 rw [stop_v (by omega) (by omega), stop_v (by omega) hb, words_v (by omega) (by omega) (by omega)]
 simp only [Option.bind_some]
 rw [hF.said_words (by omega) (by omega)]
 simp only [Option.bind_some]
 by_cases h1 : br_ < sylR ws a b
 ·rw [br_dec h1, if_pos h1]; simp
 ·rw [br_ndec h1, if_neg h1]
  cases stopR ws a <;> cases stopR ws b <;> simp [br]
  by_cases h : 0 < (turnL ts a b).length <;> simp [h]
def wrongF (ws : List Wd) (ts : List Tn) (br_ : Int) : List Int → Nat → Int → Option (Int × Int)
 | [], _, _ => none
 | x :: l, p, i => if (faultR ws ts br_ p (p + x.toNat)).2 = true then some (i, (faultR ws ts br_ p (p + x.toNat)).1) else wrongF ws ts br_ l (p + x.toNat) (i + 1)
theorem sum_ge {l : List Int} (h : ∀ x ∈ l, 1 ≤ x ∧ x ≤ 12) : (l.length : Int) ≤ l.sum := by
 induction l with
 | nil => simp
 | cons a l ih =>
  have := h a (by simp); have := ih (fun x hx => h x (by simp [hx]))
  rw [List.sum_cons, List.length_cons]; omega
theorem wrong_l1_p (hN : 110 ≤ N) (hok : okW ws = true) (ht : ts.length ≤ 100) {l : List Int} (hl : l.length ≤ 100) (h12 : ∀ x ∈ l, 1 ≤ x ∧ x ≤ 12) {at_ : Int} : ∀ (n k p : Nat) (kd : Int), l.length < n + k → k ≤ l.length → (p : Int) + (l.drop k).sum ≤ ws.length →
  match wrongF ws ts br_ (l.drop k) p k with
  | some (i, c) => wrong_l1 N n (ws, ts, br_) at_ kd p false l l.length k = some (.inl (c, true, i))
  | none => ∃ c, wrong_l1 N n (ws, ts, br_) at_ kd p false l l.length k = some (.inr (at_, c, false))
 | 0, k, p, kd, h, _, _ => by omega
 | n + 1, k, p, kd, h, hk, hs => by
  have hlen := (okW_iff.1 hok).1
  by_cases c : k < l.length
  ·have g := gets c 0
   have hx := h12 _ (getD_mem (d := 0) c)
   have hd := drop_cons c 0
   rw [hd, List.sum_cons] at hs
   have h0 := sum_ge (l := l.drop (k + 1)) (fun y hy => h12 y (List.mem_of_mem_drop hy))
   generalize l.getD k 0 = x at *
   obtain ⟨m, rfl⟩ : ∃ m : Nat, x = m := ⟨x.toNat, (Int.toNat_of_nonneg (by omega)).symm⟩
   have ih := wrong_l1_p hN hok ht hl h12 (at_ := at_) n (k + 1) (p + m) (faultR ws ts br_ p (p + m)).1 (by omega) (by omega) (by omega)
   rw [show ((k + 1 : Nat) : Int) = (k : Int) + 1 by omega, show ((p + m : Nat) : Int) = (p : Int) + m by omega] at ih
   have e : wrong_l1 N (n + 1) (ws, ts, br_) at_ kd p false l l.length k = br (faultR ws ts br_ p (p + m)).2 (some (.inl ((faultR ws ts br_ p (p + m)).1, (faultR ws ts br_ p (p + m)).2, (k : Int)))) (wrong_l1 N n (ws, ts, br_) at_ (faultR ws ts br_ p (p + m)).1 ((p : Int) + m) (faultR ws ts br_ p (p + m)).2 l l.length ((k : Int) + 1)) := by
    rw [wrong_l1, br_dec (by omega), idx_eq (by omega) g, chk_eq (by omega), show (p : Int) + m = ((p + m : Nat) : Int) by omega, fault_v hN hok ht (by omega) (by omega)]
    simp only [Option.bind_some]
    rw [chk_eq (by omega), chk_eq (by omega)]
   rw [e, hd]
   unfold wrongF
   simp only [Int.toNat_natCast]
   cases hf : (faultR ws ts br_ p (p + m)).2
   ·rw [br_false]
    simpa using ih
   ·rw [br_true]; simp
  ·rw [List.drop_of_length_le (by omega)]
   refine ⟨kd, ?_⟩
   rw [wrong_l1, br_ndec (by omega)]
theorem rwrong_l1_p (hN : 110 ≤ N) (hF : TFine ws ts br_) {l : List Int} (hl : l.length ≤ 100) (h12 : ∀ x ∈ l, 1 ≤ x ∧ x ≤ 12) : ∀ (n k p : Nat), l.length < n + k → k ≤ l.length → (p : Int) + (l.drop k).sum ≤ ws.length →
  rwrong_l1 N n l p k ws ts br_ = some (match wrongF ws ts br_ (l.drop k) p k with | some ic => .inl ic | none => .inr ())
 | 0, k, p, h, _, _ => by omega
 | n + 1, k, p, h, hk, hs => by
  have hlen := hF.n
  unfold rwrong_l1
  by_cases c : k < l.length
  ·have g := gets c 0
   have hx := h12 _ (getD_mem (d := 0) c)
   have hd := drop_cons c 0
   rw [hd, List.sum_cons] at hs
   have h0 := sum_ge (l := l.drop (k + 1)) (fun y hy => h12 y (List.mem_of_mem_drop hy))
   rw [hd]
   generalize l.getD k 0 = x at *
   obtain ⟨m, rfl⟩ : ∃ m : Nat, x = m := ⟨x.toNat, (Int.toNat_of_nonneg (by omega)).symm⟩
   have ih := rwrong_l1_p hN hF hl h12 n (k + 1) (p + m) (by omega) (by omega) (by omega)
   rw [show ((k + 1 : Nat) : Int) = (k : Int) + 1 by omega] at ih
   rw [br_dec (by omega), idx_eq (by omega) g, chk_eq (by omega), show (p : Int) + m = ((p + m : Nat) : Int) by omega, rfault_v hN hF (by omega) (by omega)]
   simp only [Option.bind_some]
   unfold wrongF kindR
   simp only [Int.toNat_natCast]
   cases hf : (faultR ws ts br_ p (p + m)).2
   ·rw [if_neg (by simp), if_neg (by simp), br_ndec (by omega), idx_eq (by omega) g, chk_eq (by omega), chk_eq (by omega)]
    exact ih
   ·rw [if_pos rfl, if_pos rfl, br_dec (faultR_pos _ _)]
  ·rw [br_ndec (by omega), List.drop_of_length_le (by omega)]; rfl
def wrongR (ws : List Wd) (ts : List Tn) (br_ : Int) (l : List Int) : Int × Int × Int :=
 if readE ws ts br_ l ≠ 0 then (0, 0, readE ws ts br_ l) else match wrongF ws ts br_ l 0 0 with | some (i, k) => (i, k, 0) | none => (0, 0, 6)
theorem read_ok {l : List Int} (h : readE ws ts br_ l = 0) : TFine ws ts br_ ∧ (∀ x ∈ l, 1 ≤ x ∧ x ≤ 12) ∧ l.sum = ws.length := by
 unfold readE at h
 split at h
 ·omega
 rename_i c
 split at h
 ·omega
 rename_i d
 split at h
 ·omega
 rename_i e
 exact ⟨tfine_of (by simpa using c), all12 (by simpa using d), by simpa using e⟩
theorem wrong_v (hN : 110 ≤ N) {l : List Int} (hl : l.length ≤ 100) (h : readE ws ts br_ l = 0) : match wrongF ws ts br_ l 0 0 with
  | some (i, c) => wrong_S N (ws, ts, br_) l = some (i, c, true)
  | none => ∃ c, wrong_S N (ws, ts, br_) l = some (0, c, false) := by
 obtain ⟨hF, h12, hs⟩ := read_ok h
 have e := wrong_l1_p (N := N) (br_ := br_) (l := l) (ts := ts) hN hF.okW (by have := hF.t; omega) hl h12 (at_ := 0) N 0 0 0 (by omega) (by omega) (by simp; omega)
 simp only [Int.natCast_zero, List.drop_zero] at e
 cases hw : wrongF ws ts br_ l 0 0 with
 | none =>
  rw [hw] at e
  obtain ⟨c, e⟩ := e
  refine ⟨c, ?_⟩
  unfold wrong_S
  rw [e]; rfl
 | some ic =>
  rw [hw] at e
  unfold wrong_S
  show _ = _
  dsimp only at e
  rw [e]; rfl
theorem lwrong_v (hN : 110 ≤ N) (hw : ws.length ≤ 1000000) (ht : ts.length ≤ 1000000) {l : List Int} (hl : l.length ≤ 100) : lwrong_S N ws ts br_ l = some (wrongR ws ts br_ l) := by
 unfold lwrong_S wrongR
 rw [reading_v hN hw ht hl]
 by_cases c : readE ws ts br_ l = 0
 ·have e := wrong_v (N := N) hN hl c
  simp only [c, if_true, Option.bind_some, ne_eq, not_true_eq_false, if_false]
  rw [br_nd trivial]
  cases hw : wrongF ws ts br_ l 0 0 with
  | none => rw [hw] at e; obtain ⟨k, e⟩ := e; rw [e]; rfl
  | some ic => rw [hw] at e; dsimp only at e; rw [e]; rfl
 ·rw [if_neg c, if_pos c]
  simp only [Option.bind_some]
  rw [br_nnd c]
theorem rwrong_v (hN : 110 ≤ N) (hw : ws.length ≤ 1000000) (ht : ts.length ≤ 1000000) {l : List Int} (hl : l.length ≤ 100) : rwrong_S N ws ts br_ l = some (wrongR ws ts br_ l) := by
 unfold rwrong_S wrongR
 rw [rreading_v hN hw ht hl]
 simp only [Option.bind_some]
 by_cases c : readE ws ts br_ l = 0
 ·obtain ⟨hF, h12, hs⟩ := read_ok c
  have e := rwrong_l1_p (N := N) hN hF hl h12 N 0 0 (by omega) (by omega) (by simp; omega)
  simp only [Int.natCast_zero, List.drop_zero] at e
  rw [br_nd c, e, if_neg (by simpa using c)]
  cases hw : wrongF ws ts br_ l 0 0 <;> rfl
 ·rw [br_nnd c, if_pos c]
end
theorem tparts_true {ws : List Wd} {ts : List Tn} {br_ a b : Int} {l : List Int} (h0 : Ty.inB TextT (ws, ts, br_)) (h1 : Ty.inB (.pair (.int .i64) (.int .i64)) (a, b)) (h2 : Ty.inB (.sl (.int .i64)) l) : tparts_S 1100 ws ts br_ a b l = some true := by
 unfold tparts_S
 have aw : ((awake_S 1100).bind fun x => some x) = some true := by rw [awake_v]; rfl
 rcases great_v (N := 1100) (ws := ws) (ts := ts) (br_ := br_) 20 with e | ⟨e, hw, ht, _⟩ <;> rw [e] <;> simp only [Option.bind_some]
 ·rw [br_true]; exact aw
 rw [br_false]
 by_cases c : 20 < (l.length : Int)
 ·rw [br_dec c]; exact aw
 rw [br_ndec c, copyx_v (by omega) (by omega)]
 simp only [Option.bind_some]
 rw [theirs_v (by omega) (by omega) (by omega) (by omega), copyi_v (by omega)]
 simp only [Option.bind_some]
 rw [check_v (by omega) (by omega) (by omega), rcheck_v (by omega) (by omega) (by omega)]
 simp only [Option.bind_some]
 rw [br_nd trivial, says_v (by omega) (by omega) (by omega), rsays_v (by omega) (by omega) (by omega)]
 simp only [Option.bind_some]
 have := saysR_len (ws := ws) (br_ := br_) (show ts.length ≤ 1000 by omega) a b
 rw [br_nd trivial, likei_v this (by omega)]
 simp only [Option.bind_some]
 rw [Bool.not_true, br_false, lwrong_v (by omega) (by omega) (by omega) (by omega), rwrong_v (by omega) (by omega) (by omega) (by omega)]
 simp only [Option.bind_some]
 rw [br_dec trivial, br_dec trivial, br_dec trivial, same_v (by omega) (by omega) (by omega) (by omega)]
 simp only [Option.bind_some]
 rw [br_true, likei_v (by omega) (by omega)]
 simp only [Option.bind_some]
 rw [br_true]; exact aw
end Go.Proofs.YtfamlpbdhhikdaaGreat

namespace Go.Proofs.YtfamlpbdhhikdaaGreat
set_option linter.all false
open Go

theorem indexi_gen (N : Nat) (v : Int) : ∀ (n : Nat) (s : List Int) (u u2 : Int), indexi_l1 N n s v u u2 = ixL (fun x => some (decide (v = x))) n s u u2
 | 0, _, _, _ => rfl
 | n + 1, s, u, u2 => by unfold indexi_l1 ixL; simp only [indexi_gen N v n, Option.bind_some]
theorem containsi_v {N : Nat} {s : List Int} {v : Int} (hs : s.length ≤ 1000) (hN : s.length < N) : containsi_S N s v = some (s.contains v) := by
 have h := ixS_any (f := fun x => some (decide (v = x))) (p := fun x => decide (v = x)) (s := s) (N := N) (fun x _ => rfl) (by omega) hN
 unfold containsi_S indexi_S
 unfold ixS at h
 rw [indexi_gen]
 refine Eq.trans h ?_
 congr 1
 rw [Bool.eq_iff_iff]
 simp
def inF (p : Int → Bool) : List Int → Int → Int → Option Int
 | [], _, _ => none
 | x :: r, to, b => if p (to + x) = true then some b else inF p r (to + x) (b + 1)
def outF (p : Int → Int → Bool) : List Int → Int → Int → Option (Int × Int)
 | [], _, _ => none
 | x :: r, fr, a => match inF (p fr) (x :: r) fr a with
  | some b => some (a, b)
  | none => outF p r (fr + x) (a + 1)
def trnF (l : List Int) : List Tn → Int → Option (Int × Int × Int)
 | [], _ => none
 | x :: r, k => match outF (fun a b => turnP a b x) l 0 0 with
  | some (a, b) => some (k, a, b)
  | none => trnF l r (k + 1)
section
variable {N : Nat} (hN : 110 ≤ N) {ws : List Wd} {ts : List Tn} {br_ : Int} (hF : TFine ws ts br_) {l : List Int} (hl : l.length ≤ 20) (h12 : ∀ x ∈ l, 1 ≤ x ∧ x ≤ 12) (hs : l.sum = ws.length)
include hN hF hl h12
theorem astray_l3_p {t : Nat} (ht : t < ts.length) {fr a nn : Int} {u u2 u4 u5 g g2 : Int} {u3 : List Int} : ∀ (n k : Nat) (to : Int), l.length < n + k → k ≤ l.length → 0 ≤ to → to + (l.drop k).sum ≤ ws.length →
  astray_l3 N n l (ws, ts, br_) t fr a nn to k u u2 u3 u4 u5 g g2 = some (match inF (fun b => turnP fr b (ts.getD t (0, 0, 0))) (l.drop k) to k with
   | some b => .inl ((t : Int), a, b, g, g2)
   | none => .inr (l, (ws, ts, br_), (t : Int), fr, nn, u, u2, u3, u4, u5, g, g2))
 | 0, k, to, h, _, _, _ => by omega
 | n + 1, k, to, h, hk, h0, hsum => by
  have := hF.n; have := hF.t
  by_cases c : k < l.length
  ·have gk := gets c 0
   have hx := h12 _ (getD_mem (d := 0) c)
   have hd := drop_cons c 0
   rw [hd, List.sum_cons] at hsum
   have hge := sum_ge (l := l.drop (k + 1)) (fun y hy => h12 y (List.mem_of_mem_drop hy))
   rw [hd]
   generalize l.getD k 0 = x at *
   have ih := astray_l3_p ht (fr := fr) (a := a) (nn := nn) (u := u) (u2 := u2) (u3 := u3) (u4 := u4) (u5 := u5) (g := g) (g2 := g2) n (k + 1) (to + x) (by omega) (by omega) (by omega) (by omega)
   rw [show ((k + 1 : Nat) : Int) = (k : Int) + 1 by omega] at ih
   have hlen := turnK_len ts fr (to + x) ts.length
   rw [astray_l3, br_dec (by omega), idx_eq (by omega) gk, chk_eq (by omega), turned_v hN (by omega) (by omega)]
   simp only [Option.bind_some]
   rw [containsi_v (by unfold turnL; omega) (by unfold turnL; omega)]
   simp only [Option.bind_some]
   have e : (turnL ts fr (to + x)).contains (t : Int) = turnP fr (to + x) (ts.getD t (0, 0, 0)) := by
    rw [Bool.eq_iff_iff, List.contains_iff_mem]
    exact mem_turnK.trans ⟨fun h => h.2, fun h => ⟨ht, h⟩⟩
   rw [e]
   unfold inF
   cases hp : turnP fr (to + x) (ts.getD t (0, 0, 0))
   ·rw [br_false, chk_eq (by omega), ih]; rfl
   ·rw [br_true]; rfl
  ·rw [astray_l3, br_ndec (by omega), List.drop_of_length_le (by omega)]; rfl
theorem astray_l2_p {t : Nat} (ht : t < ts.length) {u u2 g g2 : Int} : ∀ (n k : Nat) (fr : Int), l.length < n + k → k ≤ l.length → 0 ≤ fr → fr + (l.drop k).sum ≤ ws.length →
  astray_l2 N n l (ws, ts, br_) t fr u u2 l l.length k g g2 = some (match outF (fun a b => turnP a b (ts.getD t (0, 0, 0))) (l.drop k) fr k with
   | some (a, b) => .inl ((t : Int), a, b, g, g2)
   | none => .inr (l, (ws, ts, br_), u, u2, g, g2))
 | 0, k, fr, h, _, _, _ => by omega
 | n + 1, k, fr, h, hk, h0, hsum => by
  have := hF.n; have := hF.t
  by_cases c : k < l.length
  ·have gk := gets c 0
   have hx := h12 _ (getD_mem (d := 0) c)
   have hd := drop_cons c 0
   have e3 := astray_l3_p hN hF hl h12 ht (fr := fr) (a := (k : Int)) (nn := l.getD k 0) (u := u) (u2 := u2) (u3 := l) (u4 := (l.length : Int)) (u5 := (k : Int)) (g := g) (g2 := g2) N k fr (by omega) (by omega) h0 hsum
   rw [hd, List.sum_cons] at hsum
   have hge := sum_ge (l := l.drop (k + 1)) (fun y hy => h12 y (List.mem_of_mem_drop hy))
   rw [hd] at e3 ⊢
   generalize l.getD k 0 = x at *
   have ih := astray_l2_p ht (u := u) (u2 := u2) (g := g) (g2 := g2) n (k + 1) (fr + x) (by omega) (by omega) (by omega) (by omega)
   rw [show ((k + 1 : Nat) : Int) = (k : Int) + 1 by omega] at ih
   rw [astray_l2, br_dec (by omega), idx_eq (by omega) gk, e3]
   unfold outF
   cases hi : inF (fun b => turnP fr b (ts.getD t (0, 0, 0))) (x :: l.drop (k + 1)) fr k with
   | some b => rfl
   | none =>
    simp only [Option.bind_some]
    rw [chk_eq (by omega), chk_eq (by omega), ih]
  ·rw [astray_l2, br_ndec (by omega), List.drop_of_length_le (by omega)]; rfl
include hs
theorem astray_l1_p {g g2 : Int} : ∀ (n k : Nat), ts.length < n + k → k ≤ ts.length → 
  astray_l1 N n l (ws, ts, br_) ts.length k g g2 = some (match trnF l (ts.drop k) k with
   | some (t, a, b) => .inl (t, a, b, g, g2)
   | none => .inr (g, g2))
 | 0, k, h, _ => by omega
 | n + 1, k, h, hk => by
  have := hF.n; have := hF.t
  by_cases c : k < ts.length
  ·have e2 := astray_l2_p hN hF hl h12 c (u := (ts.length : Int)) (u2 := (k : Int)) (g := g) (g2 := g2) N 0 0 (by omega) (by omega) (by omega) (by simp; omega)
   have ih := astray_l1_p (g := g) (g2 := g2) n (k + 1) (by omega) (by omega)
   rw [show ((k + 1 : Nat) : Int) = (k : Int) + 1 by omega] at ih
   simp only [Int.natCast_zero, List.drop_zero] at e2
   rw [drop_cons c (0, 0, 0)]
   rw [astray_l1, br_dec (by omega), e2]
   unfold trnF
   generalize ts.getD k (0, 0, 0) = x at *
   cases hi : outF (fun a b => turnP a b x) l 0 0 with
   | some ab => rfl
   | none =>
    simp only [Option.bind_some]
    rw [chk_eq (by omega), ih]
  ·rw [astray_l1, br_ndec (by omega), List.drop_of_length_le (by omega)]; rfl
omit hs
theorem rastray_l3_p {t : Nat} (ht : t < ts.length) {fr a : Int} (hfr : 0 ≤ fr) {g g2 : Int} : ∀ (n k : Nat) (to : Int), l.length < n + k → k ≤ l.length → fr ≤ to → to + (l.drop k).sum ≤ ws.length →
  rastray_l3 N n l t fr a to k ws ts br_ g g2 = some (match inF (fun b => turnP fr b (ts.getD t (0, 0, 0))) (l.drop k) to k with
   | some b => .inl ((t : Int), a, b, g, g2)
   | none => .inr (l, (t : Int), fr, a, ws, ts, br_, g, g2))
 | 0, k, to, h, _, _, _ => by omega
 | n + 1, k, to, h, hk, h0, hsum => by
  have := hF.n; have := hF.t
  by_cases c : k < l.length
  ·have gk := gets c 0
   have gt := gets ht (0, 0, 0)
   have hxt := hF.x _ (getD_mem (d := (0, 0, 0)) ht)
   have hx := h12 _ (getD_mem (d := 0) c)
   have hd := drop_cons c 0
   rw [hd, List.sum_cons] at hsum
   have hge := sum_ge (l := l.drop (k + 1)) (fun y hy => h12 y (List.mem_of_mem_drop hy))
   rw [hd]
   generalize l.getD k 0 = x at *
   have ih := rastray_l3_p ht (fr := fr) (a := a) hfr (g := g) (g2 := g2) n (k + 1) (to + x) (by omega) (by omega) (by omega) (by omega)
   rw [show ((k + 1 : Nat) : Int) = (k : Int) + 1 by omega] at ih
   generalize ts.getD t (0, 0, 0) = y at *
   have hwl := wordsL_len fr (to + x)
   rw [rastray_l3, br_dec (by omega), idx_eq (by omega) gk, chk_eq (by omega), idx_eq (by omega) gt, words_v (by omega) (by omega) (by omega)]
   simp only [Option.bind_some]
   rw [otherwise_v (by omega) (by omega) (by omega) (by omega), sayP_words hxt.2.2.2.1]
   simp only [Option.bind_some]
   unfold inF
   cases hp : turnP fr (to + x) y
   ·rw [br_false, chk_eq (by omega), ih]; rfl
   ·rw [br_true]; rfl
  ·rw [rastray_l3, br_ndec (by omega), List.drop_of_length_le (by omega)]; rfl
theorem rastray_l2_p {t : Nat} (ht : t < ts.length) {g g2 : Int} : ∀ (n k : Nat) (fr : Int), l.length < n + k → k ≤ l.length → 0 ≤ fr → fr + (l.drop k).sum ≤ ws.length →
  rastray_l2 N n l t fr k ws ts br_ g g2 = some (match outF (fun a b => turnP a b (ts.getD t (0, 0, 0))) (l.drop k) fr k with
   | some (a, b) => .inl ((t : Int), a, b, g, g2)
   | none => .inr (l, (t : Int), ws, ts, br_, g, g2))
 | 0, k, fr, h, _, _, _ => by omega
 | n + 1, k, fr, h, hk, h0, hsum => by
  have := hF.n; have := hF.t
  by_cases c : k < l.length
  ·have gk := gets c 0
   have hx := h12 _ (getD_mem (d := 0) c)
   have hd := drop_cons c 0
   have e3 := rastray_l3_p hN hF hl h12 ht (fr := fr) (a := (k : Int)) h0 (g := g) (g2 := g2) N k fr (by omega) (by omega) (by omega) hsum
   rw [hd, List.sum_cons] at hsum
   have hge := sum_ge (l := l.drop (k + 1)) (fun y hy => h12 y (List.mem_of_mem_drop hy))
   rw [hd] at e3 ⊢
   generalize l.getD k 0 = x at *
   have ih := rastray_l2_p ht (g := g) (g2 := g2) n (k + 1) (fr + x) (by omega) (by omega) (by omega) (by omega)
   rw [show ((k + 1 : Nat) : Int) = (k : Int) + 1 by omega] at ih
   rw [rastray_l2, br_dec (by omega), e3]
   unfold outF
   cases hi : inF (fun b => turnP fr b (ts.getD t (0, 0, 0))) (x :: l.drop (k + 1)) fr k with
   | some b => rfl
   | none =>
    simp only [Option.bind_some]
    rw [idx_eq (by omega) gk, chk_eq (by omega), chk_eq (by omega), ih]
  ·rw [rastray_l2, br_ndec (by omega), List.drop_of_length_le (by omega)]; rfl
include hs
theorem rastray_l1_p {g g2 : Int} : ∀ (n k : Nat), ts.length < n + k → k ≤ ts.length → 
  rastray_l1 N n l k ws ts br_ g g2 = some (match trnF l (ts.drop k) k with
   | some (t, a, b) => .inl (t, a, b, g, g2)
   | none => .inr (g, g2))
 | 0, k, h, _ => by omega
 | n + 1, k, h, hk => by
  have := hF.n; have := hF.t
  by_cases c : k < ts.length
  ·have e2 := rastray_l2_p hN hF hl h12 c (g := g) (g2 := g2) N 0 0 (by omega) (by omega) (by omega) (by simp; omega)
   have ih := rastray_l1_p (g := g) (g2 := g2) n (k + 1) (by omega) (by omega)
   rw [show ((k + 1 : Nat) : Int) = (k : Int) + 1 by omega] at ih
   simp only [Int.natCast_zero, List.drop_zero] at e2
   rw [drop_cons c (0, 0, 0)]
   rw [rastray_l1, br_dec (by omega), e2]
   unfold trnF
   generalize ts.getD k (0, 0, 0) = x at *
   cases hi : outF (fun a b => turnP a b x) l 0 0 with
   | some ab => rfl
   | none =>
    simp only [Option.bind_some]
    rw [chk_eq (by omega), ih]
  ·rw [rastray_l1, br_ndec (by omega), List.drop_of_length_le (by omega)]; rfl
theorem rastray_v : rastray_S N ws ts br_ l = some (match trnF l ts 0 with | some (t, a, b) => (t, a, b, true) | none => (0, 0, 0, false)) := by
 have e := rastray_l1_p hN hF hl h12 hs (g := 0) (g2 := 0) N 0 (by have := hF.t; omega) (by omega)
 simp only [Int.natCast_zero, List.drop_zero] at e
 unfold rastray_S
 rw [e]
 cases trnF l ts 0 <;> rfl
end
def astrayR (ws : List Wd) (ts : List Tn) (br_ : Int) (l : List Int) : Int × Int × Int × Int :=
 if readE ws ts br_ l ≠ 0 then (0, 0, 0, readE ws ts br_ l) else if (wrongF ws ts br_ l 0 0).isSome = true then (0, 0, 0, 8) else match trnF l ts 0 with | some (t, a, b) => (t, a, b, 0) | none => (0, 0, 0, 6)
section
variable {N : Nat} (hN : 110 ≤ N) {ws : List Wd} {ts : List Tn} {br_ : Int}
include hN
theorem astray_v (hw : ws.length ≤ 1000000) (ht : ts.length ≤ 1000000) {l : List Int} (hl : l.length ≤ 20) : astray_S N ws ts br_ l = some (astrayR ws ts br_ l) := by
 unfold astray_S astrayR
 rw [reading_v hN hw ht (by omega)]
 by_cases c : readE ws ts br_ l = 0
 ·obtain ⟨hF, h12, hs⟩ := read_ok c
  have := hF.t
  have e := wrong_v (N := N) hN (l := l) (by omega) c
  simp only [c, if_true, Option.bind_some, ne_eq, not_true_eq_false, if_false]
  rw [br_nd trivial]
  cases hw : wrongF ws ts br_ l 0 0 with
  | none =>
   rw [hw] at e; obtain ⟨k, e⟩ := e
   have e1 := astray_l1_p hN hF hl h12 hs (g := 0) (g2 := 0) N 0 (by omega) (by omega)
   simp only [Int.natCast_zero, List.drop_zero] at e1
   rw [e]
   simp only [Option.bind_some]
   rw [br_false, e1]
   cases trnF l ts 0 <;> rfl
  | some ic => rw [hw] at e; dsimp only at e; rw [e]; rfl
 ·rw [if_neg c, if_pos c]
  simp only [Option.bind_some]
  rw [br_nnd c]
end
theorem tastray_true {ws : List Wd} {ts : List Tn} {br_ : Int} {l : List Int} (h0 : Ty.inB TextT (ws, ts, br_)) (h2 : Ty.inB (.sl (.int .i64)) l) : tastray_S 1100 ws ts br_ l = some true := by
 unfold tastray_S
 have aw : ((awake_S 1100).bind fun x => some x) = some true := by rw [awake_v]; rfl
 rcases great_v (N := 1100) (ws := ws) (ts := ts) (br_ := br_) 20 with e | ⟨e, hw, ht, _⟩ <;> rw [e] <;> simp only [Option.bind_some]
 ·rw [br_true]; exact aw
 rw [br_false]
 by_cases c : 20 < (l.length : Int)
 ·rw [br_dec c]; exact aw
 rw [br_ndec c, copyx_v (by omega) (by omega)]
 simp only [Option.bind_some]
 rw [theirs_v (by omega) (by omega) (by omega) (by omega), copyi_v (by omega)]
 simp only [Option.bind_some]
 rw [astray_v (by omega) (by omega) (by omega) (by omega), rreading_v (by omega) (by omega) (by omega) (by omega), rwrong_v (by omega) (by omega) (by omega) (by omega)]
 simp only [Option.bind_some]
 have fin : ∀ {t a b e : Int}, tastray_j2 1100 l l t e e t ws ts br_ ws ts br_ a b a b = some true := fun {t a b e} => by
  unfold tastray_j2
  rw [br_dec rfl, decide_eq_true (rfl : a = a), decide_eq_true (rfl : b = b), Bool.and_self, br_true, br_dec rfl, same_v (by omega) (by omega) (by omega) (by omega)]
  simp only [Option.bind_some]
  rw [br_true, likei_v (by omega) (by omega)]
  simp only [Option.bind_some]
  rw [br_true]; exact aw
 unfold astrayR wrongR
 by_cases c1 : readE ws ts br_ l = 0
 ·obtain ⟨hF, h12, hs⟩ := read_ok c1
  rw [br_dec c1, if_neg (by simpa using c1), if_neg (by simpa using c1)]
  cases hq : wrongF ws ts br_ l 0 0 with
  | some ic =>
   simp only [Option.isSome_some, if_true]
   rw [br_nnd (by simp)]
   unfold tastray_j1
   rw [br_ndec (by simp)]
   exact fin
  | none =>
   simp only [Option.isSome_none, Bool.false_eq_true, if_false]
   rw [br_nd (by simp)]
   unfold tastray_j1
   rw [br_dec c1, rastray_v (by omega) hF (by omega) h12 hs]
   simp only [Option.bind_some]
   cases trnF l ts 0 with
   | none => dsimp only; rw [Bool.not_false, br_true]; exact fin
   | some tab =>
    obtain ⟨t, a, b⟩ := tab
    dsimp only
    rw [Bool.not_true, br_false, c1]
    exact fin
 ·rw [br_ndec c1, if_pos c1]
  dsimp only
  unfold tastray_j1
  rw [br_ndec c1]
  exact fin
end Go.Proofs.YtfamlpbdhhikdaaGreat

namespace Go.Proofs.YtfamlpbdhhikdaaGreat
set_option linter.all false
open Go
def goodB (R : Nat → Nat → Bool) (m : Nat) : Nat → List Int → Bool
 | a, [] => a == m
 | a, x :: l => (decide (1 ≤ x) && decide (a + x.toNat ≤ m)) && (R a (a + x.toNat) && goodB R m (a + x.toNat) l)
structure IsMin (R : Nat → Nat → Bool) (m a : Nat) (k : Int) : Prop where
 ex : ∃ l, goodB R m a l = true ∧ (l.length : Int) = k
 le : ∀ l, goodB R m a l = true → k ≤ l.length
section
variable {R : Nat → Nat → Bool} {m : Nat}
theorem good_cons {a : Nat} {x : Int} {l : List Int} : goodB R m a (x :: l) = true ↔ (1 ≤ x ∧ a + x.toNat ≤ m) ∧ R a (a + x.toNat) = true ∧ goodB R m (a + x.toNat) l = true := by
 simp [goodB]
theorem good_nil {a : Nat} : goodB R m a [] = true ↔ a = m := by simp [goodB]
theorem good_step {a q : Nat} {l : List Int} (h : a < q) (hq : q ≤ m) (hR : R a q = true) (hl : goodB R m q l = true) : goodB R m a (((q : Int) - a) :: l) = true := by
 have e : a + ((q : Int) - a).toNat = q := by omega
 rw [good_cons, e]
 exact ⟨⟨by omega, hq⟩, hR, hl⟩
theorem IsMin.end_ : IsMin R m m 0 := ⟨⟨[], by simp [goodB], rfl⟩, fun l _ => by omega⟩
theorem getD_set' {α : Type} {l : List α} {i j : Nat} {v d : α} (hi : i < l.length) : (l.set i v).getD j d = if i = j then v else l.getD j d := by
 by_cases h : i = j
 ·subst h; simp [List.getD, hi]
 ·simp [List.getD, List.getElem?_set, h]
def Told (R : Nat → Nat → Bool) (m : Nat) (L X : List Int) (i : Nat) : Prop :=
 (X.getD i 0 = 0 ∧ ∀ l, goodB R m i l = false) ∨ ∃ q : Nat, X.getD i 0 = q ∧ i < q ∧ q ≤ m ∧ R i q = true ∧ IsMin R m i (L.getD i 0) ∧ IsMin R m q (L.getD i 0 - 1)
structure Tab (R : Nat → Nat → Bool) (m f : Nat) (L X : List Int) : Prop where
 hL : L.length = 13
 hX : X.length = 13
 bd : ∀ i, i < 13 → 0 ≤ L.getD i 0 ∧ L.getD i 0 ≤ 13 - (i : Int)
 lo : ∀ i, i < f → X.getD i 0 = 0
 en : L.getD m 0 = 0
 told : ∀ i, f < i → i < m → Told R m L X i
def Cur (R : Nat → Nat → Bool) (m f to : Nat) (L X : List Int) : Prop :=
 (X.getD f 0 = 0 ∧ ∀ q, f < q → q < to → R f q = true → ∀ l, goodB R m q l = false) ∨
 ∃ q : Nat, X.getD f 0 = q ∧ f < q ∧ q < to ∧ q ≤ m ∧ R f q = true ∧ IsMin R m q (L.getD f 0 - 1) ∧ ∀ p, f < p → p < to → R f p = true → ∀ l, goodB R m p l = true → L.getD f 0 ≤ l.length + 1
theorem Cur.start {f : Nat} {L X : List Int} (h : X.getD f 0 = 0) : Cur R m f (f + 1) L X := .inl ⟨h, fun q h1 h2 => by omega⟩
theorem Cur.skip {f to : Nat} {L X : List Int} (h : Cur R m f to L X) (hs : R f to = true → ∀ l, goodB R m to l = false) : Cur R m f (to + 1) L X := by
 rcases h with ⟨h1, h2⟩ | ⟨q, h1, h2, h3, h4, h5, h6, h7⟩
 ·refine .inl ⟨h1, fun q a b hR => ?_⟩
  by_cases e : q = to
  ·subst e; exact hs hR
  ·exact h2 q a (by omega) hR
 ·refine .inr ⟨q, h1, h2, by omega, h4, h5, h6, fun p a b hR l hl => ?_⟩
  by_cases e : p = to
  ·subst e; rw [hs hR l] at hl; cases hl
  ·exact h7 p a (by omega) hR l hl
theorem Cur.keep {f to : Nat} {L X : List Int} (h : Cur R m f to L X) (hx : X.getD f 0 ≠ 0) (ht : IsMin R m to (L.getD to 0)) (hle : L.getD f 0 ≤ L.getD to 0 + 1) : Cur R m f (to + 1) L X := by
 rcases h with ⟨h1, h2⟩ | ⟨q, h1, h2, h3, h4, h5, h6, h7⟩
 ·exact absurd h1 hx
 ·refine .inr ⟨q, h1, h2, by omega, h4, h5, h6, fun p a b hR l hl => ?_⟩
  by_cases e : p = to
  ·subst e; have := ht.le l hl; omega
  ·exact h7 p a (by omega) hR l hl
theorem Cur.put {f to : Nat} {L X : List Int} (h : Cur R m f to L X) (hL : L.length = 13) (hX : X.length = 13) (hf : f < 13) (hto : f < to) (hm : to ≤ m) (hR : R f to = true) (ht : IsMin R m to (L.getD to 0)) (hbetter : X.getD f 0 = 0 ∨ L.getD to 0 + 1 < L.getD f 0) :
  Cur R m f (to + 1) (L.set f (L.getD to 0 + 1)) (X.set f to) := by
 refine .inr ⟨to, by rw [getD_set' (by omega), if_pos rfl], hto, by omega, hm, hR, ?_, fun p a b hRp l hl => ?_⟩
 ·rw [getD_set' (by omega), if_pos rfl]
  simpa using ht
 ·rw [getD_set' (by omega), if_pos rfl]
  by_cases e : p = to
  ·subst e; have := ht.le l hl; omega
  ·rcases h with ⟨h1, h2⟩ | ⟨q, h1, h2, h3, h4, h5, h6, h7⟩
   ·rw [h2 p a (by omega) hRp l] at hl; cases hl
   ·have := h7 p a (by omega) hRp l hl
    rcases hbetter with hb | hb
    ·omega
    ·omega
theorem Tab.put {f to : Nat} {L X : List Int} (h : Tab R m f L X) (hf : f < m) (hm : m ≤ 12) (hto : f < to) (htm : to ≤ m) : Tab R m f (L.set f (L.getD to 0 + 1)) (X.set f to) := by
 have hL := h.hL; have hX := h.hX
 refine ⟨by simpa using hL, by simpa using hX, fun i hi => ?_, fun i hi => ?_, ?_, fun i h1 h2 => ?_⟩
 ·rw [getD_set' (by omega)]
  split
  ·rename_i e; subst e
   have := h.bd to (by omega)
   omega
  ·exact h.bd i hi
 ·rw [getD_set' (by omega), if_neg (by omega)]; exact h.lo i hi
 ·rw [getD_set' (by omega), if_neg (by omega)]; exact h.en
 ·unfold Told
  rw [getD_set' (by omega), getD_set' (by omega), if_neg (by omega), if_neg (by omega)]
  exact h.told i h1 h2
theorem Tab.min {f i : Nat} {L X : List Int} (h : Tab R m f L X) (h1 : f < i) (h2 : i ≤ m) (hx : i < m → X.getD i 0 ≠ 0) : IsMin R m i (L.getD i 0) := by
 by_cases e : i = m
 ·subst e; rw [h.en]; exact IsMin.end_
 ·rcases h.told i h1 (by omega) with ⟨h3, _⟩ | ⟨q, _, _, _, _, h4, _⟩
  ·exact absurd h3 (hx (by omega))
  ·exact h4
theorem Tab.next {f : Nat} {L X : List Int} (h : Tab R m f L X) (hf : f < m) (hc : Cur R m f (m + 1) L X) : ∀ i, f ≤ i → i < m → Told R m L X i := by
 intro i h1 h2
 by_cases e : i = f
 ·subst e
  rcases hc with ⟨h3, h4⟩ | ⟨q, h3, h4, h5, h6, h7, h8, h9⟩
  ·refine .inl ⟨h3, fun l => ?_⟩
   cases hg : goodB R m i l
   ·rfl
   cases l with
   | nil => have := good_nil.1 hg; omega
   | cons x l =>
    obtain ⟨⟨a, b⟩, c, d⟩ := good_cons.1 hg
    rw [h4 _ (by omega) (by omega) c l] at d; cases d
  ·refine .inr ⟨q, h3, h4, h6, h7, ⟨?_, fun l hl => ?_⟩, h8⟩
   ·obtain ⟨l, a, b⟩ := h8.ex
    exact ⟨((q : Int) - i) :: l, good_step h4 h6 h7 a, by rw [List.length_cons]; omega⟩
   ·cases l with
    | nil => have := good_nil.1 hl; omega
    | cons x l =>
     obtain ⟨⟨a, b⟩, c, d⟩ := good_cons.1 hl
     have := h9 _ (by omega) (by omega) c l d
     rw [List.length_cons]; omega
 ·exact h.told i (by omega) h2
end
end Go.Proofs.YtfamlpbdhhikdaaGreat

namespace Go.Proofs.YtfamlpbdhhikdaaGreat
set_option linter.all false
open Go


def fewestr_in (N n : Nat) (d : Tx) (from_ to : Int) (r : Tx) (least next : List Int) : Option (Tx × Int × Tx × List Int × List Int) :=
 (right_S N r from_ to).bind fun x_5 =>
     br (!x_5)
      (fewestr_j1 N (fewestr_l2 N n) d from_ to r least next)
      (rng from_ 13 <|
      get next from_.toNat fun x_6 =>
      br (decide (x_6 = 0))
       (rng to 13 <|
       get least to.toNat fun x_7 =>
       chk (x_7 + 1) <|
       rng from_ 13 <|
       get least from_.toNat fun _ =>
       rng from_ 13 <|
       get next from_.toNat fun _ =>
       fewestr_j1 N (fewestr_l2 N n) d from_ to r (least.set from_.toNat (x_7 + 1)) (next.set from_.toNat to))
       (rng to 13 <|
       get least to.toNat fun x_10 =>
       chk (x_10 + 1) <|
       rng from_ 13 <|
       get least from_.toNat fun x_11 =>
       br (decide ((x_10 + 1) < x_11))
        (rng to 13 <|
        get least to.toNat fun x_12 =>
        chk (x_12 + 1) <|
        rng from_ 13 <|
        get least from_.toNat fun _ =>
        rng from_ 13 <|
        get next from_.toNat fun _ =>
        fewestr_j1 N (fewestr_l2 N n) d from_ to r (least.set from_.toNat (x_12 + 1)) (next.set from_.toNat to))
        (fewestr_j1 N (fewestr_l2 N n) d from_ to r least next)))
section
variable {N : Nat} (hN : 110 ≤ N) {d : Tx} {r : Tx} {R : Nat → Nat → Bool} {m : Nat} (hd : d.1.length = m) (hm : 1 ≤ m ∧ m ≤ 12) (hR : ∀ a b : Nat, a < b → b ≤ m → right_S N r a b = some (R a b))
include hd hm hR
theorem fewestr_l2_p {f : Nat} (hf : f < m) : ∀ (n to : Nat) (L X : List Int), m + 1 < n + to → f < to → to ≤ m + 1 → Tab R m f L X → Cur R m f to L X →
  Ok (fewestr_l2 N n d f to r L X) fun z => z.1 = d ∧ z.2.1 = f ∧ z.2.2.1 = r ∧ Tab R m f z.2.2.2.1 z.2.2.2.2 ∧ Cur R m f (m + 1) z.2.2.2.1 z.2.2.2.2
 | 0, to, L, X, h, _, _, _, _ => by omega
 | n + 1, to, L, X, h, h1, h2, hT, hC => by
  have hL := hT.hL; have hX := hT.hX
  unfold fewestr_l2
  simp only [end__S, hd, Option.bind_some]
  by_cases c : to ≤ m
  rotate_left
  ·obtain rfl : to = m + 1 := by omega
   rw [br_ndec (by omega)]
   exact Ok.some ⟨rfl, rfl, rfl, hT, hC⟩
  rw [br_dec (by omega)]
  have hj : ∀ L X, fewestr_j1 N (fewestr_l2 N n) d f to r L X = fewestr_l2 N n d f ((to + 1 : Nat) : Int) r L X := fun L X => by
   unfold fewestr_j1
   rw [chk_eq (by omega)]; rfl
  have ih := fewestr_l2_p hf n (to + 1)
  have inner : (to < m → X.getD to 0 ≠ 0) → Ok (fewestr_in N n d f to r L X) fun z => z.1 = d ∧ z.2.1 = f ∧ z.2.2.1 = r ∧ Tab R m f z.2.2.2.1 z.2.2.2.2 ∧ Cur R m f (m + 1) z.2.2.2.1 z.2.2.2.2 := by
   intro hx
   have ht := hT.min h1 c hx
   have b1 := hT.bd to (by omega)
   unfold fewestr_in
   rw [hR f to h1 c]
   simp only [Option.bind_some, Int.toNat_natCast, hj]
   cases hr : R f to
   ·rw [Bool.not_false, br_true]
    exact ih _ _ (by omega) (by omega) (by omega) hT (hC.skip (fun e => by rw [hr] at e; cases e))
   ·rw [Bool.not_true, br_false, rng_eq (by omega), get_get 0 (by omega)]
    by_cases e : X.getD f 0 = 0
    ·rw [br_dec e, rng_eq (by omega), get_get 0 (by omega), chk_eq (by omega), rng_eq (by omega), get_get 0 (by omega), rng_eq (by omega), get_get 0 (by omega)]
     exact ih _ _ (by omega) (by omega) (by omega) (hT.put hf hm.2 h1 c) (hC.put hL hX (by omega) h1 c hr ht (.inl e))
    ·rw [br_ndec e, rng_eq (by omega), get_get 0 (by omega), chk_eq (by omega), rng_eq (by omega), get_get 0 (by omega)]
     by_cases e2 : L.getD to 0 + 1 < L.getD f 0
     ·rw [br_dec e2, rng_eq (by omega), get_get 0 (by omega), chk_eq (by omega), rng_eq (by omega), get_get 0 (by omega), rng_eq (by omega), get_get 0 (by omega)]
      exact ih _ _ (by omega) (by omega) (by omega) (hT.put hf hm.2 h1 c) (hC.put hL hX (by omega) h1 c hr ht (.inr e2))
     ·rw [br_ndec e2]
      exact ih _ _ (by omega) (by omega) (by omega) hT (hC.keep e ht (by omega))
  by_cases c2 : to < m
  ·rw [br_dec (by omega), rng_eq (by omega), get_get 0 (by omega)]
   simp only [Int.toNat_natCast]
   by_cases e : X.getD to 0 = 0
   ·rw [br_dec e, hj]
    refine ih _ _ (by omega) (by omega) (by omega) hT (hC.skip fun _ l => ?_)
    rcases hT.told to h1 c2 with ⟨_, h4⟩ | ⟨q, h3, h4, _⟩
    ·exact h4 l
    ·omega
   ·rw [br_ndec e]
    exact inner fun _ => e
  ·rw [br_ndec (by omega)]
   exact inner fun h => by omega
include hN in
theorem fewestr_l1_p : ∀ (n f : Nat) (L X : List Int), f < n → f ≤ m → L.length = 13 → X.length = 13 → (∀ i, i < 13 → 0 ≤ L.getD i 0 ∧ L.getD i 0 ≤ 13 - (i : Int)) → (∀ i, i < f → X.getD i 0 = 0) → L.getD m 0 = 0 → (∀ i, f ≤ i → i < m → Told R m L X i) →
  Ok (fewestr_l1 N n d ((f : Int) - 1) r L X) fun z => z.1 = d ∧ z.2.length = 13 ∧ ∃ L' : List Int, ∀ i, i < m → Told R m L' z.2 i
 | 0, f, L, X, h, _, _, _, _, _, _, _ => by omega
 | n + 1, f, L, X, h, hf, hL, hX, bd, lo, en, told => by
  unfold fewestr_l1
  by_cases c : f = 0
  ·subst c
   rw [br_ndec (by omega)]
   exact Ok.some ⟨rfl, hX, L, fun i hi => told i (by omega) hi⟩
  ·obtain ⟨g, rfl⟩ : ∃ g, f = g + 1 := ⟨f - 1, by omega⟩
   rw [br_dec (by omega), chk_eq (by omega), show ((g + 1 : Nat) : Int) - 1 = (g : Int) by omega, show (g : Int) + 1 = ((g + 1 : Nat) : Int) by omega]
   have hT : Tab R m g L X := ⟨hL, hX, bd, fun i hi => lo i (by omega), en, fun i h1 h2 => told i (by omega) h2⟩
   refine Ok.bind (fewestr_l2_p hd hm hR (f := g) (by omega) N (g + 1) L X (by omega) (by omega) (by omega) hT (Cur.start (lo g (by omega)))) ?_
   rintro ⟨d', f', r', L', X'⟩ ⟨e1, e2, e3, hT', hC'⟩
   dsimp only at e1 e2 e3 hT' hC' ⊢
   rw [e1, e2, e3, chk_eq (by omega)]
   have ih := fewestr_l1_p n g L' X' (by omega) (by omega) hT'.hL hT'.hX hT'.bd hT'.lo hT'.en (hT'.next (by omega) hC')
   exact ih
omit hm hR in
theorem fewestr_l3_p {L X : List Int} (hm : 1 ≤ m ∧ m ≤ 12) (hX : X.length = 13) (told : ∀ i, i < m → Told R m L X i) : ∀ (n a : Nat) (O : List Int), m < n + a → a ≤ m → O.length ≤ a → (a < m → X.getD a 0 ≠ 0) →
  Ok (fewestr_l3 N n d a X O) fun z => ∃ l, z = O ++ l ∧ goodB R m a l = true ∧ IsMin R m a l.length
 | 0, a, O, h, _, _, _ => by omega
 | n + 1, a, O, h, ha, hO, hx => by
  unfold fewestr_l3
  simp only [end__S, hd, Option.bind_some]
  by_cases c : a < m
  ·rcases told a c with ⟨h3, _⟩ | ⟨q, h3, h4, h5, h6, h7, h8⟩
   ·exact absurd h3 (hx c)
   ·rw [br_dec (by omega), rng_eq (by omega), get_get 0 (by omega)]
    simp only [Int.toNat_natCast, h3]
    rw [chk_eq (by omega), lim_eq (by simp; omega), rng_eq (by omega), get_get 0 (by omega), h3]
    have hq : q < m → X.getD q 0 ≠ 0 := fun hq e => by
     rcases told q hq with ⟨_, h9⟩ | ⟨q', h9, h10, _⟩
     ·obtain ⟨l, hl, _⟩ := h8.ex
      rw [h9 l] at hl; cases hl
     ·omega
    refine (fewestr_l3_p hm hX told n q (O ++ [(q : Int) - a]) (by omega) (by omega) (by simp; omega) hq).mono ?_
    rintro z ⟨l, rfl, hl, hmin⟩
    refine ⟨((q : Int) - a) :: l, by simp, good_step h4 h5 h6 hl, ?_⟩
    have e : (l.length : Int) = L.getD a 0 - 1 := by
     obtain ⟨l1, g1, k1⟩ := h8.ex
     have := hmin.le l1 g1; have := h8.le l hl; omega
    rw [List.length_cons, show ((l.length + 1 : Nat) : Int) = L.getD a 0 by omega]
    exact h7
  ·obtain rfl : a = m := by omega
   rw [br_ndec (by omega)]
   exact Ok.some ⟨[], by simp, by simp [goodB], IsMin.end_⟩
include hN
theorem fewestr_v : (∃ l, fewestr_S N r d = some (l, true) ∧ goodB R m 0 l = true ∧ IsMin R m 0 l.length) ∨ (fewestr_S N r d = some ([], false) ∧ ∀ l, goodB R m 0 l = false) := by
 have rep : ∀ i, (List.replicate 13 (0 : Int)).getD i 0 = 0 := fun i => by
  simp only [List.getD, List.getElem?_replicate]
  split <;> rfl
 have e1 := fewestr_l1_p hN hd hm hR N m (List.replicate 13 0) (List.replicate 13 0) (by omega) (by omega) (by simp) (by simp) (fun i hi => by rw [rep]; omega) (fun i _ => rep i) (rep m) (fun i h1 h2 => by omega)
 obtain ⟨⟨d', X⟩, e, e2, hX, L, told⟩ := e1
 dsimp only at e2 hX told
 subst e2
 unfold fewestr_S
 simp only [end__S, hd, Option.bind_some]
 rw [chk_eq (by omega), e]
 simp only [Option.bind_some]
 rw [get_get 0 (by omega)]
 by_cases c : X.getD 0 0 = 0
 ·rw [br_dec c]
  refine .inr ⟨rfl, ?_⟩
  rcases told 0 (by omega) with ⟨_, h⟩ | ⟨q, h1, h2, _⟩
  ·exact h
  ·omega
 ·rw [br_ndec c]
  obtain ⟨z, e3, l, hz, hl, hmin⟩ := fewestr_l3_p hd hm hX told N 0 [] (by omega) (by omega) (by simp) (fun _ => c)
  simp only [Int.natCast_zero] at e3
  rw [List.nil_append] at hz
  subst hz
  rw [e3]
  exact .inl ⟨_, rfl, hl, hmin⟩
end
end Go.Proofs.YtfamlpbdhhikdaaGreat

namespace Go.Proofs.YtfamlpbdhhikdaaGreat
set_option linter.all false
open Go


def feweste_in (N n : Nat) (d : Tx) (from_ to : Int) (r : (Tx × Int × Tx)) (least next : List Int) : Option (Tx × Int × Tx × Int × Tx × List Int × List Int) :=
 (even1_S N from_ to r.1 r.2.1 r.2.2).bind fun x_5 =>
     br (!x_5)
      (feweste_j1 N (feweste_l2 N n) d from_ to r.1 r.2.1 r.2.2 least next)
      (rng from_ 13 <|
      get next from_.toNat fun x_6 =>
      br (decide (x_6 = 0))
       (rng to 13 <|
       get least to.toNat fun x_7 =>
       chk (x_7 + 1) <|
       rng from_ 13 <|
       get least from_.toNat fun _ =>
       rng from_ 13 <|
       get next from_.toNat fun _ =>
       feweste_j1 N (feweste_l2 N n) d from_ to r.1 r.2.1 r.2.2 (least.set from_.toNat (x_7 + 1)) (next.set from_.toNat to))
       (rng to 13 <|
       get least to.toNat fun x_10 =>
       chk (x_10 + 1) <|
       rng from_ 13 <|
       get least from_.toNat fun x_11 =>
       br (decide ((x_10 + 1) < x_11))
        (rng to 13 <|
        get least to.toNat fun x_12 =>
        chk (x_12 + 1) <|
        rng from_ 13 <|
        get least from_.toNat fun _ =>
        rng from_ 13 <|
        get next from_.toNat fun _ =>
        feweste_j1 N (feweste_l2 N n) d from_ to r.1 r.2.1 r.2.2 (least.set from_.toNat (x_12 + 1)) (next.set from_.toNat to))
        (feweste_j1 N (feweste_l2 N n) d from_ to r.1 r.2.1 r.2.2 least next)))
section
variable {N : Nat} (hN : 110 ≤ N) {d : Tx} {r : (Tx × Int × Tx)} {R : Nat → Nat → Bool} {m : Nat} (hd : d.1.length = m) (hm : 1 ≤ m ∧ m ≤ 12) (hR : ∀ a b : Nat, a < b → b ≤ m → even1_S N a b r.1 r.2.1 r.2.2 = some (R a b))
include hd hm hR
theorem feweste_l2_p {f : Nat} (hf : f < m) : ∀ (n to : Nat) (L X : List Int), m + 1 < n + to → f < to → to ≤ m + 1 → Tab R m f L X → Cur R m f to L X →
  Ok (feweste_l2 N n d f to r.1 r.2.1 r.2.2 L X) fun z => z.1 = d ∧ z.2.1 = f ∧ (z.2.2.1 = r.1 ∧ z.2.2.2.1 = r.2.1 ∧ z.2.2.2.2.1 = r.2.2) ∧ Tab R m f z.2.2.2.2.2.1 z.2.2.2.2.2.2 ∧ Cur R m f (m + 1) z.2.2.2.2.2.1 z.2.2.2.2.2.2
 | 0, to, L, X, h, _, _, _, _ => by omega
 | n + 1, to, L, X, h, h1, h2, hT, hC => by
  have hL := hT.hL; have hX := hT.hX
  unfold feweste_l2
  simp only [end__S, hd, Option.bind_some]
  by_cases c : to ≤ m
  rotate_left
  ·obtain rfl : to = m + 1 := by omega
   rw [br_ndec (by omega)]
   exact Ok.some ⟨rfl, rfl, ⟨rfl, rfl, rfl⟩, hT, hC⟩
  rw [br_dec (by omega)]
  have hj : ∀ L X, feweste_j1 N (feweste_l2 N n) d f to r.1 r.2.1 r.2.2 L X = feweste_l2 N n d f ((to + 1 : Nat) : Int) r.1 r.2.1 r.2.2 L X := fun L X => by
   unfold feweste_j1
   rw [chk_eq (by omega)]; rfl
  have ih := feweste_l2_p hf n (to + 1)
  have inner : (to < m → X.getD to 0 ≠ 0) → Ok (feweste_in N n d f to r L X) fun z => z.1 = d ∧ z.2.1 = f ∧ (z.2.2.1 = r.1 ∧ z.2.2.2.1 = r.2.1 ∧ z.2.2.2.2.1 = r.2.2) ∧ Tab R m f z.2.2.2.2.2.1 z.2.2.2.2.2.2 ∧ Cur R m f (m + 1) z.2.2.2.2.2.1 z.2.2.2.2.2.2 := by
   intro hx
   have ht := hT.min h1 c hx
   have b1 := hT.bd to (by omega)
   unfold feweste_in
   rw [hR f to h1 c]
   simp only [Option.bind_some, Int.toNat_natCast, hj]
   cases hr : R f to
   ·rw [Bool.not_false, br_true]
    exact ih _ _ (by omega) (by omega) (by omega) hT (hC.skip (fun e => by rw [hr] at e; cases e))
   ·rw [Bool.not_true, br_false, rng_eq (by omega), get_get 0 (by omega)]
    by_cases e : X.getD f 0 = 0
    ·rw [br_dec e, rng_eq (by omega), get_get 0 (by omega), chk_eq (by omega), rng_eq (by omega), get_get 0 (by omega), rng_eq (by omega), get_get 0 (by omega)]
     exact ih _ _ (by omega) (by omega) (by omega) (hT.put hf hm.2 h1 c) (hC.put hL hX (by omega) h1 c hr ht (.inl e))
    ·rw [br_ndec e, rng_eq (by omega), get_get 0 (by omega), chk_eq (by omega), rng_eq (by omega), get_get 0 (by omega)]
     by_cases e2 : L.getD to 0 + 1 < L.getD f 0
     ·rw [br_dec e2, rng_eq (by omega), get_get 0 (by omega), chk_eq (by omega), rng_eq (by omega), get_get 0 (by omega), rng_eq (by omega), get_get 0 (by omega)]
      exact ih _ _ (by omega) (by omega) (by omega) (hT.put hf hm.2 h1 c) (hC.put hL hX (by omega) h1 c hr ht (.inr e2))
     ·rw [br_ndec e2]
      exact ih _ _ (by omega) (by omega) (by omega) hT (hC.keep e ht (by omega))
  by_cases c2 : to < m
  ·rw [br_dec (by omega), rng_eq (by omega), get_get 0 (by omega)]
   simp only [Int.toNat_natCast]
   by_cases e : X.getD to 0 = 0
   ·rw [br_dec e, hj]
    refine ih _ _ (by omega) (by omega) (by omega) hT (hC.skip fun _ l => ?_)
    rcases hT.told to h1 c2 with ⟨_, h4⟩ | ⟨q, h3, h4, _⟩
    ·exact h4 l
    ·omega
   ·rw [br_ndec e]
    exact inner fun _ => e
  ·rw [br_ndec (by omega)]
   exact inner fun h => by omega
include hN in
theorem feweste_l1_p : ∀ (n f : Nat) (L X : List Int), f < n → f ≤ m → L.length = 13 → X.length = 13 → (∀ i, i < 13 → 0 ≤ L.getD i 0 ∧ L.getD i 0 ≤ 13 - (i : Int)) → (∀ i, i < f → X.getD i 0 = 0) → L.getD m 0 = 0 → (∀ i, f ≤ i → i < m → Told R m L X i) →
  Ok (feweste_l1 N n d ((f : Int) - 1) r.1 r.2.1 r.2.2 L X) fun z => z.1 = d ∧ z.2.length = 13 ∧ ∃ L' : List Int, ∀ i, i < m → Told R m L' z.2 i
 | 0, f, L, X, h, _, _, _, _, _, _, _ => by omega
 | n + 1, f, L, X, h, hf, hL, hX, bd, lo, en, told => by
  unfold feweste_l1
  by_cases c : f = 0
  ·subst c
   rw [br_ndec (by omega)]
   exact Ok.some ⟨rfl, hX, L, fun i hi => told i (by omega) hi⟩
  ·obtain ⟨g, rfl⟩ : ∃ g, f = g + 1 := ⟨f - 1, by omega⟩
   rw [br_dec (by omega), chk_eq (by omega), show ((g + 1 : Nat) : Int) - 1 = (g : Int) by omega, show (g : Int) + 1 = ((g + 1 : Nat) : Int) by omega]
   have hT : Tab R m g L X := ⟨hL, hX, bd, fun i hi => lo i (by omega), en, fun i h1 h2 => told i (by omega) h2⟩
   refine Ok.bind (feweste_l2_p hd hm hR (f := g) (by omega) N (g + 1) L X (by omega) (by omega) (by omega) hT (Cur.start (lo g (by omega)))) ?_
   rintro ⟨d', f', r1', r2', r3', L', X'⟩ ⟨e1, e2, e3, hT', hC'⟩
   dsimp only at e1 e2 e3 hT' hC' ⊢
   rw [e1, e2, e3.1, e3.2.1, e3.2.2, chk_eq (by omega)]
   have ih := feweste_l1_p n g L' X' (by omega) (by omega) hT'.hL hT'.hX hT'.bd hT'.lo hT'.en (hT'.next (by omega) hC')
   exact ih
omit hm hR in
theorem feweste_l3_p {L X : List Int} (hm : 1 ≤ m ∧ m ≤ 12) (hX : X.length = 13) (told : ∀ i, i < m → Told R m L X i) : ∀ (n a : Nat) (O : List Int), m < n + a → a ≤ m → O.length ≤ a → (a < m → X.getD a 0 ≠ 0) →
  Ok (feweste_l3 N n d a X O) fun z => ∃ l, z = O ++ l ∧ goodB R m a l = true ∧ IsMin R m a l.length
 | 0, a, O, h, _, _, _ => by omega
 | n + 1, a, O, h, ha, hO, hx => by
  unfold feweste_l3
  simp only [end__S, hd, Option.bind_some]
  by_cases c : a < m
  ·rcases told a c with ⟨h3, _⟩ | ⟨q, h3, h4, h5, h6, h7, h8⟩
   ·exact absurd h3 (hx c)
   ·rw [br_dec (by omega), rng_eq (by omega), get_get 0 (by omega)]
    simp only [Int.toNat_natCast, h3]
    rw [chk_eq (by omega), lim_eq (by simp; omega), rng_eq (by omega), get_get 0 (by omega), h3]
    have hq : q < m → X.getD q 0 ≠ 0 := fun hq e => by
     rcases told q hq with ⟨_, h9⟩ | ⟨q', h9, h10, _⟩
     ·obtain ⟨l, hl, _⟩ := h8.ex
      rw [h9 l] at hl; cases hl
     ·omega
    refine (feweste_l3_p hm hX told n q (O ++ [(q : Int) - a]) (by omega) (by omega) (by simp; omega) hq).mono ?_
    rintro z ⟨l, rfl, hl, hmin⟩
    refine ⟨((q : Int) - a) :: l, by simp, good_step h4 h5 h6 hl, ?_⟩
    have e : (l.length : Int) = L.getD a 0 - 1 := by
     obtain ⟨l1, g1, k1⟩ := h8.ex
     have := hmin.le l1 g1; have := h8.le l hl; omega
    rw [List.length_cons, show ((l.length + 1 : Nat) : Int) = L.getD a 0 by omega]
    exact h7
  ·obtain rfl : a = m := by omega
   rw [br_ndec (by omega)]
   exact Ok.some ⟨[], by simp, by simp [goodB], IsMin.end_⟩
include hN
theorem feweste_v : (∃ l, feweste_S N r.1 r.2.1 r.2.2 d = some (l, true) ∧ goodB R m 0 l = true ∧ IsMin R m 0 l.length) ∨ (feweste_S N r.1 r.2.1 r.2.2 d = some ([], false) ∧ ∀ l, goodB R m 0 l = false) := by
 have rep : ∀ i, (List.replicate 13 (0 : Int)).getD i 0 = 0 := fun i => by
  simp only [List.getD, List.getElem?_replicate]
  split <;> rfl
 have e1 := feweste_l1_p hN hd hm hR N m (List.replicate 13 0) (List.replicate 13 0) (by omega) (by omega) (by simp) (by simp) (fun i hi => by rw [rep]; omega) (fun i _ => rep i) (rep m) (fun i h1 h2 => by omega)
 obtain ⟨⟨d', X⟩, e, e2, hX, L, told⟩ := e1
 dsimp only at e2 hX told
 subst e2
 unfold feweste_S
 simp only [end__S, hd, Option.bind_some]
 rw [chk_eq (by omega), e]
 simp only [Option.bind_some]
 rw [get_get 0 (by omega)]
 by_cases c : X.getD 0 0 = 0
 ·rw [br_dec c]
  refine .inr ⟨rfl, ?_⟩
  rcases told 0 (by omega) with ⟨_, h⟩ | ⟨q, h1, h2, _⟩
  ·exact h
  ·omega
 ·rw [br_ndec c]
  obtain ⟨z, e3, l, hz, hl, hmin⟩ := feweste_l3_p hd hm hX told N 0 [] (by omega) (by omega) (by simp) (fun _ => c)
  simp only [Int.natCast_zero] at e3
  rw [List.nil_append] at hz
  subst hz
  rw [e3]
  exact .inl ⟨_, rfl, hl, hmin⟩
end

def fewests_in (N n : Nat) (d : Tx) (from_ to : Int) (r : Tx) (least next : List Int) : Option (Tx × Int × Tx × List Int × List Int) :=
 (surest1_S N from_ to r).bind fun x_5 =>
     br (!x_5)
      (fewests_j1 N (fewests_l2 N n) d from_ to r least next)
      (rng from_ 13 <|
      get next from_.toNat fun x_6 =>
      br (decide (x_6 = 0))
       (rng to 13 <|
       get least to.toNat fun x_7 =>
       chk (x_7 + 1) <|
       rng from_ 13 <|
       get least from_.toNat fun _ =>
       rng from_ 13 <|
       get next from_.toNat fun _ =>
       fewests_j1 N (fewests_l2 N n) d from_ to r (least.set from_.toNat (x_7 + 1)) (next.set from_.toNat to))
       (rng to 13 <|
       get least to.toNat fun x_10 =>
       chk (x_10 + 1) <|
       rng from_ 13 <|
       get least from_.toNat fun x_11 =>
       br (decide ((x_10 + 1) < x_11))
        (rng to 13 <|
        get least to.toNat fun x_12 =>
        chk (x_12 + 1) <|
        rng from_ 13 <|
        get least from_.toNat fun _ =>
        rng from_ 13 <|
        get next from_.toNat fun _ =>
        fewests_j1 N (fewests_l2 N n) d from_ to r (least.set from_.toNat (x_12 + 1)) (next.set from_.toNat to))
        (fewests_j1 N (fewests_l2 N n) d from_ to r least next)))
section
variable {N : Nat} (hN : 110 ≤ N) {d : Tx} {r : Tx} {R : Nat → Nat → Bool} {m : Nat} (hd : d.1.length = m) (hm : 1 ≤ m ∧ m ≤ 12) (hR : ∀ a b : Nat, a < b → b ≤ m → surest1_S N a b r = some (R a b))
include hd hm hR
theorem fewests_l2_p {f : Nat} (hf : f < m) : ∀ (n to : Nat) (L X : List Int), m + 1 < n + to → f < to → to ≤ m + 1 → Tab R m f L X → Cur R m f to L X →
  Ok (fewests_l2 N n d f to r L X) fun z => z.1 = d ∧ z.2.1 = f ∧ z.2.2.1 = r ∧ Tab R m f z.2.2.2.1 z.2.2.2.2 ∧ Cur R m f (m + 1) z.2.2.2.1 z.2.2.2.2
 | 0, to, L, X, h, _, _, _, _ => by omega
 | n + 1, to, L, X, h, h1, h2, hT, hC => by
  have hL := hT.hL; have hX := hT.hX
  unfold fewests_l2
  simp only [end__S, hd, Option.bind_some]
  by_cases c : to ≤ m
  rotate_left
  ·obtain rfl : to = m + 1 := by omega
   rw [br_ndec (by omega)]
   exact Ok.some ⟨rfl, rfl, rfl, hT, hC⟩
  rw [br_dec (by omega)]
  have hj : ∀ L X, fewests_j1 N (fewests_l2 N n) d f to r L X = fewests_l2 N n d f ((to + 1 : Nat) : Int) r L X := fun L X => by
   unfold fewests_j1
   rw [chk_eq (by omega)]; rfl
  have ih := fewests_l2_p hf n (to + 1)
  have inner : (to < m → X.getD to 0 ≠ 0) → Ok (fewests_in N n d f to r L X) fun z => z.1 = d ∧ z.2.1 = f ∧ z.2.2.1 = r ∧ Tab R m f z.2.2.2.1 z.2.2.2.2 ∧ Cur R m f (m + 1) z.2.2.2.1 z.2.2.2.2 := by
   intro hx
   have ht := hT.min h1 c hx
   have b1 := hT.bd to (by omega)
   unfold fewests_in
   rw [hR f to h1 c]
   simp only [Option.bind_some, Int.toNat_natCast, hj]
   cases hr : R f to
   ·rw [Bool.not_false, br_true]
    exact ih _ _ (by omega) (by omega) (by omega) hT (hC.skip (fun e => by rw [hr] at e; cases e))
   ·rw [Bool.not_true, br_false, rng_eq (by omega), get_get 0 (by omega)]
    by_cases e : X.getD f 0 = 0
    ·rw [br_dec e, rng_eq (by omega), get_get 0 (by omega), chk_eq (by omega), rng_eq (by omega), get_get 0 (by omega), rng_eq (by omega), get_get 0 (by omega)]
     exact ih _ _ (by omega) (by omega) (by omega) (hT.put hf hm.2 h1 c) (hC.put hL hX (by omega) h1 c hr ht (.inl e))
    ·rw [br_ndec e, rng_eq (by omega), get_get 0 (by omega), chk_eq (by omega), rng_eq (by omega), get_get 0 (by omega)]
     by_cases e2 : L.getD to 0 + 1 < L.getD f 0
     ·rw [br_dec e2, rng_eq (by omega), get_get 0 (by omega), chk_eq (by omega), rng_eq (by omega), get_get 0 (by omega), rng_eq (by omega), get_get 0 (by omega)]
      exact ih _ _ (by omega) (by omega) (by omega) (hT.put hf hm.2 h1 c) (hC.put hL hX (by omega) h1 c hr ht (.inr e2))
     ·rw [br_ndec e2]
      exact ih _ _ (by omega) (by omega) (by omega) hT (hC.keep e ht (by omega))
  by_cases c2 : to < m
  ·rw [br_dec (by omega), rng_eq (by omega), get_get 0 (by omega)]
   simp only [Int.toNat_natCast]
   by_cases e : X.getD to 0 = 0
   ·rw [br_dec e, hj]
    refine ih _ _ (by omega) (by omega) (by omega) hT (hC.skip fun _ l => ?_)
    rcases hT.told to h1 c2 with ⟨_, h4⟩ | ⟨q, h3, h4, _⟩
    ·exact h4 l
    ·omega
   ·rw [br_ndec e]
    exact inner fun _ => e
  ·rw [br_ndec (by omega)]
   exact inner fun h => by omega
include hN in
theorem fewests_l1_p : ∀ (n f : Nat) (L X : List Int), f < n → f ≤ m → L.length = 13 → X.length = 13 → (∀ i, i < 13 → 0 ≤ L.getD i 0 ∧ L.getD i 0 ≤ 13 - (i : Int)) → (∀ i, i < f → X.getD i 0 = 0) → L.getD m 0 = 0 → (∀ i, f ≤ i → i < m → Told R m L X i) →
  Ok (fewests_l1 N n d ((f : Int) - 1) r L X) fun z => z.1 = d ∧ z.2.length = 13 ∧ ∃ L' : List Int, ∀ i, i < m → Told R m L' z.2 i
 | 0, f, L, X, h, _, _, _, _, _, _, _ => by omega
 | n + 1, f, L, X, h, hf, hL, hX, bd, lo, en, told => by
  unfold fewests_l1
  by_cases c : f = 0
  ·subst c
   rw [br_ndec (by omega)]
   exact Ok.some ⟨rfl, hX, L, fun i hi => told i (by omega) hi⟩
  ·obtain ⟨g, rfl⟩ : ∃ g, f = g + 1 := ⟨f - 1, by omega⟩
   rw [br_dec (by omega), chk_eq (by omega), show ((g + 1 : Nat) : Int) - 1 = (g : Int) by omega, show (g : Int) + 1 = ((g + 1 : Nat) : Int) by omega]
   have hT : Tab R m g L X := ⟨hL, hX, bd, fun i hi => lo i (by omega), en, fun i h1 h2 => told i (by omega) h2⟩
   refine Ok.bind (fewests_l2_p hd hm hR (f := g) (by omega) N (g + 1) L X (by omega) (by omega) (by omega) hT (Cur.start (lo g (by omega)))) ?_
   rintro ⟨d', f', r', L', X'⟩ ⟨e1, e2, e3, hT', hC'⟩
   dsimp only at e1 e2 e3 hT' hC' ⊢
   rw [e1, e2, e3, chk_eq (by omega)]
   have ih := fewests_l1_p n g L' X' (by omega) (by omega) hT'.hL hT'.hX hT'.bd hT'.lo hT'.en (hT'.next (by omega) hC')
   exact ih
omit hm hR in
theorem fewests_l3_p {L X : List Int} (hm : 1 ≤ m ∧ m ≤ 12) (hX : X.length = 13) (told : ∀ i, i < m → Told R m L X i) : ∀ (n a : Nat) (O : List Int), m < n + a → a ≤ m → O.length ≤ a → (a < m → X.getD a 0 ≠ 0) →
  Ok (fewests_l3 N n d a X O) fun z => ∃ l, z = O ++ l ∧ goodB R m a l = true ∧ IsMin R m a l.length
 | 0, a, O, h, _, _, _ => by omega
 | n + 1, a, O, h, ha, hO, hx => by
  unfold fewests_l3
  simp only [end__S, hd, Option.bind_some]
  by_cases c : a < m
  ·rcases told a c with ⟨h3, _⟩ | ⟨q, h3, h4, h5, h6, h7, h8⟩
   ·exact absurd h3 (hx c)
   ·rw [br_dec (by omega), rng_eq (by omega), get_get 0 (by omega)]
    simp only [Int.toNat_natCast, h3]
    rw [chk_eq (by omega), lim_eq (by simp; omega), rng_eq (by omega), get_get 0 (by omega), h3]
    have hq : q < m → X.getD q 0 ≠ 0 := fun hq e => by
     rcases told q hq with ⟨_, h9⟩ | ⟨q', h9, h10, _⟩
     ·obtain ⟨l, hl, _⟩ := h8.ex
      rw [h9 l] at hl; cases hl
     ·omega
    refine (fewests_l3_p hm hX told n q (O ++ [(q : Int) - a]) (by omega) (by omega) (by simp; omega) hq).mono ?_
    rintro z ⟨l, rfl, hl, hmin⟩
    refine ⟨((q : Int) - a) :: l, by simp, good_step h4 h5 h6 hl, ?_⟩
    have e : (l.length : Int) = L.getD a 0 - 1 := by
     obtain ⟨l1, g1, k1⟩ := h8.ex
     have := hmin.le l1 g1; have := h8.le l hl; omega
    rw [List.length_cons, show ((l.length + 1 : Nat) : Int) = L.getD a 0 by omega]
    exact h7
  ·obtain rfl : a = m := by omega
   rw [br_ndec (by omega)]
   exact Ok.some ⟨[], by simp, by simp [goodB], IsMin.end_⟩
include hN
theorem fewests_v : (∃ l, fewests_S N r d = some (l, true) ∧ goodB R m 0 l = true ∧ IsMin R m 0 l.length) ∨ (fewests_S N r d = some ([], false) ∧ ∀ l, goodB R m 0 l = false) := by
 have rep : ∀ i, (List.replicate 13 (0 : Int)).getD i 0 = 0 := fun i => by
  simp only [List.getD, List.getElem?_replicate]
  split <;> rfl
 have e1 := fewests_l1_p hN hd hm hR N m (List.replicate 13 0) (List.replicate 13 0) (by omega) (by omega) (by simp) (by simp) (fun i hi => by rw [rep]; omega) (fun i _ => rep i) (rep m) (fun i h1 h2 => by omega)
 obtain ⟨⟨d', X⟩, e, e2, hX, L, told⟩ := e1
 dsimp only at e2 hX told
 subst e2
 unfold fewests_S
 simp only [end__S, hd, Option.bind_some]
 rw [chk_eq (by omega), e]
 simp only [Option.bind_some]
 rw [get_get 0 (by omega)]
 by_cases c : X.getD 0 0 = 0
 ·rw [br_dec c]
  refine .inr ⟨rfl, ?_⟩
  rcases told 0 (by omega) with ⟨_, h⟩ | ⟨q, h1, h2, _⟩
  ·exact h
  ·omega
 ·rw [br_ndec c]
  obtain ⟨z, e3, l, hz, hl, hmin⟩ := fewests_l3_p hd hm hX told N 0 [] (by omega) (by omega) (by simp) (fun _ => c)
  simp only [Int.natCast_zero] at e3
  rw [List.nil_append] at hz
  subst hz
  rw [e3]
  exact .inl ⟨_, rfl, hl, hmin⟩
end
end Go.Proofs.YtfamlpbdhhikdaaGreat

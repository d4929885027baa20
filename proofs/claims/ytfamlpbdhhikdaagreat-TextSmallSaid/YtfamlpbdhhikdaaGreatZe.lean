/-
  Parts of a proof, put together: X2, X3, X4.
  Conditions: none.
-/
import Derived.Test.YtfamlpbdhhikdaaGreatZd
namespace Go.Proofs.YtfamlpbdhhikdaaGreat
set_option linter.all false
open Go

def breaths_S (N : Nat) (d : Qa) (from_ : Int) : Option (Int × Qa) :=
 some (from_, d)
noncomputable def sp_breaths (N : Nat) : Spec := mkS 88 ⟨[.fe Qb, .i .i64], []⟩ [⟨[.fn 122 [] [.fe (.int .i64), .fe Qo]], []⟩] (fun p => breaths_S N p.1.1 p.1.2.1) (fun k r => k ((((), (r.1, r.2, ())), ()), ()))
theorem sp_breaths_ok (N : Nat) : SpecOK Tryz.prog (sp_breaths N) := mkF (R := Int × Qa) (m0 := 0) [] [] (fun r => some (r.1.1.2.1, r.1.1.2.2.1)) [] Tryz.func88 (fun p => by kernel_rfl) (by kernel_rfl) (fun _ => by kernel_rfl)

def counts_l2_b (N : Nat) (rec : Int → (List Qn) → Option (Qa × Int × (List Qn))) (d : Qa) (u : Int) (u2 : Qa) (to' from_' : Int) (out' : List Qn) : Option (Qa × Int × (List Qn)) :=
 chk ((((out'.find? fun (y : Int × Int) => Ty.beq (.int .i64) y.1 from_').map (·.2)).getD (Ty.dflt (.int .i64))) + (((out'.find? fun (y : Int × Int) => Ty.beq (.int .i64) y.1 to').map (·.2)).getD (Ty.dflt (.int .i64)))) <|
 rec from_' ((from_', ((((out'.find? fun (y : Int × Int) => Ty.beq (.int .i64) y.1 from_').map (·.2)).getD (Ty.dflt (.int .i64))) + (((out'.find? fun (y : Int × Int) => Ty.beq (.int .i64) y.1 to').map (·.2)).getD (Ty.dflt (.int .i64))))) :: out')
def counts_l2 (N : Nat) : List (Int × Unit) → (Qa) → Int → (Qa) → Int → (List Qn) → Option (Qa × Int × (List Qn))
 | [], d, u, u2, from_, out =>
  some ((d, from_, out))
 | e :: es, d, u, u2, from_, out =>
  counts_l2_b N (fun from__ out_ => counts_l2 N es d u u2 from__ out_) d u u2 e.1 from_ out
def counts_l1 (N : Nat) : Nat → (Qa) → Int → (List Qn) → Option (List Qn)
 | 0, _, _, _ => none
 | n_ + 1, d, from_, out =>
  br (decide (0 ≤ from_))
   ((breaths_S N d from_).bind fun (x_3, y_4) =>
   ((breathsR x_3 y_4).bind fun es => counts_l2 N es d x_3 y_4 from_ out).bind fun (d_5, from__6, out_7) =>
   chk (from__6 - 1) <|
   counts_l1 N n_ d_5 (from__6 - 1) out_7)
   (some (out))
def counts_S (N : Nat) (d : Qa) : Option (List Qn) :=
 (end__S N d).bind fun x_1 =>
 (end__S N d).bind fun x_2 =>
 chk (x_2 - 1) <|
 (counts_l1 N N d (x_2 - 1) ((x_1, 1) :: [])).bind fun out_8 =>
 some out_8
noncomputable def counts_sp (N : Nat) : Oks := [⟨_, sp_end__ok N⟩, ⟨_, sp_breaths_ok N⟩]
abbrev counts_o : List StSh := [⟨[.mp 0], [.map (.int .i64) (.int .i64)]⟩]
noncomputable abbrev counts_B : Body := mkB Tryz.f104 counts_o 0
noncomputable def counts_sps (N : Nat) : List Spec := (counts_sp N).map (·.1)
theorem counts_all (N : Nat) : AllP (SpecOK Tryz.prog) (counts_sps N) := allP_map (counts_sp N)
noncomputable def counts_c : Code := counts_B.c
abbrev counts_l2_st : Sta := ⟨[0, 2, 3, 4, 19], ⟨[.fe Qb, .nilm, .own 0 0, .own 1 0, .fn 122 [] [.fe (.int .i64), .fe Qo]], [.segs [.mp 2], .segs [.i .i64], .map (.int .i64) (.int .i64)]⟩⟩
abbrev counts_l2_stA : Sta := ⟨[2, 3, 4, 5], ⟨[.nilm, .own 0 0, .own 1 0, .i .i64], [.segs [.mp 2], .segs [.i .i64], .map (.int .i64) (.int .i64)]⟩⟩
abbrev counts_l2_e0 : Leaf (Qa × Int × (List Qn)) := ⟨[.c [1, 1, 0, 1, 0, 0, 1, 1, 0, 0], .c [1, 1, 0, 1, 0, 0, 1, 1, 0, 1], .c [1, 1, 0, 1, 0, 0, 1, 1, 1], .l [1, 1, 0, 1, 0, 0], .b 0, .c [1, 1, 1]], ⟨[0, 2, 3, 4], ⟨[.fe Qb, .nilm, .own 0 0, .own 1 0], [.segs [.mp 2], .segs [.i .i64], .map (.int .i64) (.int .i64)]⟩⟩, fun p => some ((p.1.1, p.2.2.1.1, p.2.2.2.1))⟩
noncomputable def counts_l2_L (N : Nat) : LoopS := { at_ := [.c [1, 1, 0, 1, 0, 0, 1, 0, 0, 1, 0], .b 2, .b 1, .c [1, 1, 0, 1, 0, 0, 1, 1], .l [1, 1, 0, 1, 0, 0], .b 0, .c [1, 1, 1]], sta := counts_l2_st, exits := [([.c [1, 1, 0, 1, 0, 0, 1, 1, 0, 0], .c [1, 1, 0, 1, 0, 0, 1, 1, 0, 1], .c [1, 1, 0, 1, 0, 0, 1, 1, 1], .l [1, 1, 0, 1, 0, 0], .b 0, .c [1, 1, 1]], ⟨[0, 2, 3, 4], ⟨[.fe Qb, .nilm, .own 0 0, .own 1 0], [.segs [.mp 2], .segs [.i .i64], .map (.int .i64) (.int .i64)]⟩⟩)], run := fun p k => ((breathsR p.1.2.2.2.2.1.2.1 p.1.2.2.2.2.1.2.2.1).bind fun es => counts_l2 N es p.1.1 p.1.2.2.2.2.1.2.1 p.1.2.2.2.2.1.2.2.1 p.2.2.1.1 p.2.2.2.1).bind fun e => k (.inl ((e.1, (), (), (), ()), (((), ()), (e.2.1, ()), e.2.2, ()))) }
noncomputable abbrev counts_l2_Bk : Body := mkB Tryz.f104 counts_o 3
theorem counts_l2_end (N : Nat) (d : Qa) (u : Int) (u2 : Qa) (from_ : Int) (out : List Qn) : ev (Z := Qa × Int × (List Qn)) Tryz.prog (counts_sps N) counts_B [] [counts_l2_e0] none 400 false (nrm counts_B.c 99 [.b 2, .b 1, .c [1, 1, 0, 1, 0, 0, 1, 1], .l [1, 1, 0, 1, 0, 0], .b 0, .c [1, 1, 1]]) (stL counts_l2_st ((d, (), (), (), ((), (u, u2, ())), ()), (((), ()), (from_, ()), out, ()))) (stH counts_l2_st ((d, (), (), (), ((), (u, u2, ())), ()), (((), ()), (from_, ()), out, ()))) = counts_l2 N [] d u u2 from_ out := by kernel_rfl
theorem counts_l2_asg (N : Nat) (e : Int × Unit) (es : List (Int × Unit)) (d : Qa) (u : Int) (u2 : Qa) (from_ : Int) (out : List Qn) : ev (Z := Qa × Int × (List Qn)) Tryz.prog (counts_sps N) counts_l2_Bk [] [⟨[.r, .c [1, 1, 0, 1, 0, 0, 1, 0, 0, 1, 0, 1]], counts_l2_stA, fun p => counts_l2_b N (fun from__ out_ => counts_l2 N es d u u2 from__ out_) d u u2 p.1.2.2.2.1 p.2.2.1.1 p.2.2.2.1⟩] none 400 false (nrm counts_B.c 99 [.c [1, 1, 0, 1, 0, 0, 1, 0, 0, 1, 0, 0], .r, .c [1, 1, 0, 1, 0, 0, 1, 0, 0, 1, 0, 1]]) (pars [20] (encs id is_breaths.elem e) (stL counts_l2_st ((d, (), (), (), ((), (u, u2, ())), ()), (((), ()), (from_, ()), out, ())))) (stH counts_l2_st ((d, (), (), (), ((), (u, u2, ())), ()), (((), ()), (from_, ()), out, ()))) = counts_l2 N (e :: es) d u u2 from_ out := by kernel_rfl
theorem counts_l2_bod (N : Nat) (rec : Int → (List Qn) → Option (Qa × Int × (List Qn))) (d : Qa) (u : Int) (u2 : Qa) (to' : Int) (from_' : Int) (out' : List Qn) : ev (Z := Qa × Int × (List Qn)) Tryz.prog (counts_sps N) counts_l2_Bk [] [⟨[], ⟨[], ⟨[], [.segs [.mp 2], .segs [.i .i64], .map (.int .i64) (.int .i64)]⟩⟩, fun p => rec p.2.2.1.1 p.2.2.2.1⟩] none 400 false (nrm counts_B.c 99 [.c [1, 1, 0, 1, 0, 0, 1, 0, 0, 1, 0, 1]]) (stL counts_l2_stA (((), (), (), to', ()), (((), ()), (from_', ()), out', ()))) (stH counts_l2_stA (((), (), (), to', ()), (((), ()), (from_', ()), out', ()))) = counts_l2_b N rec d u u2 to' from_' out' := by kernel_rfl
theorem counts_l2_ok (N : Nat) : LoopOK Tryz.prog counts_B.c counts_B.n counts_B.m0 true (counts_l2_L N) := by
 refine range_ok (B := counts_B) (is := is_breaths) (g := .tmp 19) (ps := #[20]) (assign := sub counts_c [1, 1, 0, 1, 0, 0, 1, 0, 0, 1, 0, 0]) (body := sub counts_c [1, 1, 0, 1, 0, 0, 1, 0, 0, 1, 0, 1]) (Z := Qa × Int × (List Qn)) (x := counts_l2_L N) (fun p => (p.1.2.2.2.2.1.2.1, p.1.2.2.2.2.1.2.2.1, ())) (fun es p => counts_l2 N es p.1.1 p.1.2.2.2.2.1.2.1 p.1.2.2.2.2.1.2.2.1 p.2.2.1.1 p.2.2.2.1) (staA := counts_l2_stA) (fun es q p => counts_l2_b N (fun from__ out_ => counts_l2 N es q.1 q.2.2.2.2.1.2.1 q.2.2.2.2.1.2.2.1 from__ out_) q.1 q.2.2.2.2.1.2.1 q.2.2.2.2.1.2.2.1 p.1.2.2.2.1 p.2.2.1.1 p.2.2.2.1) [] (fun e => .inl ((e.1, (), (), (), ()), (((), ()), (e.2.1, ()), e.2.2, ()))) (fun _ _ _ => rfl) rfl (by kernel_rfl) (fun _ => by kernel_rfl) (by kernel_rfl) is_breaths_ok (Nat.le_of_ble_eq_true (by kernel_rfl)) (by kernel_rfl) ?_ ?_ ?_ ?_
 ·exact fun z E Xc hE hX hx p hp a w hS => ev_sound (z := z) (B := counts_B) (loops := []) (leaves := [counts_l2_e0]) (top := true) (counts_all N) mixed trivial hE hX ⟨(fun p hp => by obtain rfl := Option.some.inj hp; exact hx), trivial⟩ RetOK.no 400 false _ _ _ ((counts_l2_end N p.1.1 p.1.2.2.2.2.1.2.1 p.1.2.2.2.2.1.2.2.1 p.2.2.1.1 p.2.2.2.1).trans hp) a w hS
 ·intro z E Xc hE hX hx e he q b hb a w hS
  simp only [List.not_mem_nil] at he
 ·exact fun z E Xc hE hX e es p hl hp a w hS => ev_sound (z := z) (B := counts_l2_Bk) (loops := []) (leaves := [_]) (top := false) (counts_all N) mixed trivial hE hX ⟨hl, trivial⟩ RetOK.no 400 false _ _ _ ((counts_l2_asg N e es p.1.1 p.1.2.2.2.2.1.2.1 p.1.2.2.2.2.1.2.2.1 p.2.2.1.1 p.2.2.2.1).trans hp) a w hS
 ·exact fun z E Xc hE hX es q he hs p hp a w hS => ev_sound (z := z) (B := counts_l2_Bk) (loops := []) (leaves := [_]) (top := false) (counts_all N) mixed trivial hE hX ⟨he, trivial⟩ RetOK.no 400 false _ _ _ ((counts_l2_bod N (fun from__ out_ => counts_l2 N es q.1 q.2.2.2.2.1.2.1 q.2.2.2.2.1.2.2.1 from__ out_) q.1 q.2.2.2.2.1.2.1 q.2.2.2.2.1.2.2.1 p.1.2.2.2.1 p.2.2.1.1 p.2.2.2.1).trans hp) a w hS
noncomputable def counts_l1_L (N : Nat) : LpQ counts_B true := mkL (Z := (List Qn)) (counts_sp N) [⟨counts_l2_L N, counts_l2_ok N⟩] [.c [1, 1, 0, 1, 0, 0, 0, 0], .c [1, 1, 0, 1, 0, 0, 0, 1], .c [1, 1, 0, 1, 0, 0, 1], .l [1, 1, 0, 1, 0, 0], .b 0, .c [1, 1, 1]] ⟨[0, 2, 3, 4], ⟨[.fe Qb, .nilm, .own 0 0, .own 1 0], [.segs [.mp 2], .segs [.i .i64], .map (.int .i64) (.int .i64)]⟩⟩ (fun m p => counts_l1 N m p.1.1 p.2.2.1.1 p.2.2.2.1) [⟨[.c [1, 1, 1, 0], .c [1, 1, 1, 1]], ⟨[3], ⟨[.own 0 0], [.segs [.mp 1], .map (.int .i64) (.int .i64)]⟩⟩, fun p => some (p.2.2.1)⟩] (fun _ => []) (fun k e => k (.inl (((), ()), (((), ()), e, ())))) N (fun m p => by kernel_rfl)
noncomputable def sp_counts (N : Nat) : Spec := mkS 104 ⟨[.fe Qb], []⟩ counts_o (fun p => counts_S N p.1.1) (fun k r => k (((), ()), (r, ())))
theorem sp_counts_ok (N : Nat) : SpecOK Tryz.prog (sp_counts N) := mkF (R := (List Qn)) (m0 := 0) (counts_sp N) [⟨counts_l2_L N, counts_l2_ok N⟩, counts_l1_L N] (fun r => some r.2.1) [] Tryz.func104 (fun p => by kernel_rfl) (by kernel_rfl) (fun _ => by kernel_rfl)

def count_S (N : Nat) (t : List Qe) (t2 : List Qf) (t3 : Int) : Option Qn :=
 ((opened_S N t t2 t3).bind fun e => match e with
 | .inl (x_1, y_2) =>
  (br (!decide (y_2 = 0))
   (some (0, y_2))
   ((counts_S N x_1).bind fun x_3 =>
   some ((((x_3.find? fun (y : Int × Int) => Ty.beq (.int .i64) y.1 0).map (·.2)).getD (Ty.dflt (.int .i64))), 0)))
 | .inr x_4 =>
  (br (!decide (x_4 = 0))
   (some (0, x_4))
   (none)))
noncomputable def sp_count (N : Nat) : Spec := mkS 47 ⟨[.agg [.sl Qd, .sl Qc, .i .i64]], []⟩ [⟨[.i .i64, .i .i64], []⟩] (fun p => count_S N p.1.1.1 p.1.1.2.1 p.1.1.2.2.1) (fun k r => k ((r.1, r.2, ()), ()))
theorem sp_count_ok (N : Nat) : SpecOK Tryz.prog (sp_count N) := mkF (R := Int × Int) (m0 := 0) [⟨_, sp_opened_ok N⟩, ⟨_, sp_counts_ok N⟩] [] (fun r => some (r.1.1, r.1.2.1)) [] Tryz.func47 (fun p => by kernel_rfl) (by kernel_rfl) (fun _ => by kernel_rfl)

def never_j1 (N : Nat) (rec : Int → (Qa) → Int → Int → (List Qn) → Qq → Qg → Option Qg) (u : Int) (d : Qa) (u2 u3 : Int) (on : List Qn) (met : List Bool) (out : List Int) : Option Qg :=
 chk (u3 + 1) <|
 rec u d u2 (u3 + 1) on met out
def never_l2_b (N : Nat) (rec : (List Qn) → Qq → Qg → Option (Int × Qa × Int × Int × (List Qn) × List Bool × List Int)) (u : Int) (d : Qa) (u2 u3 u4 : Int) (u5 : Qa) (u' to' : Int) (g' : List Qn) (met' : List Bool) (g2' : List Int) : Option (Int × Qa × Int × Int × (List Qn) × List Bool × List Int) :=
 rng to' 13 <|
 get met' to'.toNat fun _ =>
 rec g' (met'.set to'.toNat true) g2'
def never_l2 (N : Nat) : List (Int × Unit) → Int → (Qa) → Int → Int → Int → (Qa) → (List Qn) → Qq → Qg → Option (Int × Qa × Int × Int × (List Qn) × List Bool × List Int)
 | [], u, d, u2, u3, u4, u5, on, met, out =>
  some ((u, d, u2, u3, on, met, out))
 | e :: es, u, d, u2, u3, u4, u5, on, met, out =>
  never_l2_b N (fun on_ met_ out_ => never_l2 N es u d u2 u3 u4 u5 on_ met_ out_) u d u2 u3 u4 u5 u e.1 on met out
def never_l1 (N : Nat) : Nat → Int → (Qa) → Int → Int → (List Qn) → Qq → Qg → Option Qg
 | 0, _, _, _, _, _, _, _ => none
 | n_ + 1, u, d, u2, u3, on, met, out =>
  br (decide (u3 < u2))
   (rng u3 13 <|
   get met u3.toNat fun x_6 =>
   br (!x_6)
    (lim (out.length + [u3].length) <|
    never_j1 N (never_l1 N n_) u d u2 u3 on met (out ++ [u3]))
    (br (decide ((((on.find? fun (y : Int × Int) => Ty.beq (.int .i64) y.1 u3).map (·.2)).getD (Ty.dflt (.int .i64))) = 0))
     (lim (out.length + [u3].length) <|
     never_j1 N (never_l1 N n_) u d u2 u3 on met (out ++ [u3]))
     ((breaths_S N d u3).bind fun (x_7, y_8) =>
     ((breathsR x_7 y_8).bind fun es => never_l2 N es u d u2 u3 x_7 y_8 on met out).bind fun (u_10, d_11, u2_12, u3_13, on_14, met_15, out_16) =>
     never_j1 N (never_l1 N n_) u_10 d_11 u2_12 u3_13 on_14 met_15 out_16)))
   (some (out))
def never_S (N : Nat) (t : List Qe) (t2 : List Qf) (t3 : Int) : Option (List Int × Int) :=
 ((opened_S N t t2 t3).bind fun e => match e with
 | .inl (x_1, y_2) =>
  (br (!decide (y_2 = 0))
   (some ([], y_2))
   ((counts_S N x_1).bind fun x_3 =>
   br (decide ((((x_3.find? fun (y : Int × Int) => Ty.beq (.int .i64) y.1 0).map (·.2)).getD (Ty.dflt (.int .i64))) = 0))
    (some ([], 6))
    (get (List.replicate 13 (false : Bool)) 0 fun _ =>
    (end__S N x_1).bind fun x_5 =>
    (never_l1 N N 0 x_1 x_5 0 x_3 ((List.replicate 13 (false : Bool)).set 0 true) []).bind fun out_17 =>
    some (out_17, 0))))
 | .inr x_18 =>
  (br (!decide (x_18 = 0))
   (some ([], x_18))
   (none)))
noncomputable def never_sp (N : Nat) : Oks := [⟨_, sp_opened_ok N⟩, ⟨_, sp_end__ok N⟩, ⟨_, sp_breaths_ok N⟩, ⟨_, sp_counts_ok N⟩]
abbrev never_o : List StSh := [⟨[.sl (.int .i64), .i .i64], []⟩]
noncomputable abbrev never_B : Body := mkB Tryz.f48 never_o 0
noncomputable def never_sps (N : Nat) : List Spec := (never_sp N).map (·.1)
theorem never_all (N : Nat) : AllP (SpecOK Tryz.prog) (never_sps N) := allP_map (never_sp N)
noncomputable def never_c : Code := never_B.c
abbrev never_l1_at : List PI := [.c [1, 1, 1, 1, 1, 1, 1, 1, 0, 1, 0, 0, 0], .c [1, 1, 1, 1, 1, 1, 1, 1, 0, 1, 0, 0, 1], .l [1, 1, 1, 1, 1, 1, 1, 1, 0, 1, 0, 0], .b 0, .c [1, 1, 1, 1, 1, 1, 1, 1, 1]]
abbrev never_l1_st : Sta := ⟨[2, 3, 4, 6, 7, 8, 26, 27], ⟨[.nils, .i .i64, .fe Qb, .mp 0, .own 1 0, .ols 2, .i .i64, .i .i64], [.map (.int .i64) (.int .i64), .segs [.arr .bool 13], .lst (.int .i64)]⟩⟩
abbrev never_l1_h (rec : Int → (Qa) → Int → Int → (List Qn) → Qq → Qg → Option Qg) : Leaf Qg := ⟨never_l1_at, never_l1_st, fun p => rec p.1.2.1 p.1.2.2.1 p.1.2.2.2.2.2.2.1 p.1.2.2.2.2.2.2.2.1 p.2.1 p.2.2.1.1 p.2.2.2.1⟩
abbrev never_l1_e0 : Leaf Qg := ⟨[.c [1, 1, 1, 1, 1, 1, 1, 1, 1, 0], .c [1, 1, 1, 1, 1, 1, 1, 1, 1, 1]], ⟨[8], ⟨[.ols 0], [.lst (.int .i64)]⟩⟩, fun p => some (p.2.1)⟩
noncomputable def never_j1_k (N : Nat) (rec : Int → (Qa) → Int → Int → (List Qn) → Qq → Qg → Option Qg) {top : Bool} : JnQ (Z := List Int) never_B top none [never_l1_h rec, never_l1_e0] := mkJ (never_sp N) [] [] ⟨[.c [1, 1, 1, 1, 1, 1, 1, 1, 0, 1, 0, 0, 1, 1, 1], .l [1, 1, 1, 1, 1, 1, 1, 1, 0, 1, 0, 0], .b 0, .c [1, 1, 1, 1, 1, 1, 1, 1, 1]], ⟨[2, 3, 4, 6, 7, 8, 26, 27], ⟨[.nils, .i .i64, .fe Qb, .mp 0, .own 1 0, .ols 2, .i .i64, .i .i64], [.map (.int .i64) (.int .i64), .segs [.arr .bool 13], .lst (.int .i64)]⟩⟩, fun p => never_j1 N rec p.1.2.1 p.1.2.2.1 p.1.2.2.2.2.2.2.1 p.1.2.2.2.2.2.2.2.1 p.2.1 p.2.2.1.1 p.2.2.2.1⟩ (fun p => by kernel_rfl)
abbrev never_l2_st : Sta := ⟨[2, 3, 4, 6, 7, 8, 26, 27, 46], ⟨[.nils, .i .i64, .fe Qb, .mp 0, .own 1 0, .ols 2, .i .i64, .i .i64, .fn 122 [] [.fe (.int .i64), .fe Qo]], [.map (.int .i64) (.int .i64), .segs [.arr .bool 13], .lst (.int .i64)]⟩⟩
abbrev never_l2_stA : Sta := ⟨[2, 3, 7, 10], ⟨[.nils, .i .i64, .own 1 0, .i .i64], [.map (.int .i64) (.int .i64), .segs [.arr .bool 13], .lst (.int .i64)]⟩⟩
abbrev never_l2_e0 : Leaf (Int × Qa × Int × Int × (List Qn) × List Bool × List Int) := ⟨[.c [1, 1, 1, 1, 1, 1, 1, 1, 0, 1, 0, 0, 1, 1, 1], .l [1, 1, 1, 1, 1, 1, 1, 1, 0, 1, 0, 0], .b 0, .c [1, 1, 1, 1, 1, 1, 1, 1, 1]], ⟨[2, 3, 4, 6, 7, 8, 26, 27], ⟨[.nils, .i .i64, .fe Qb, .mp 0, .own 1 0, .ols 2, .i .i64, .i .i64], [.map (.int .i64) (.int .i64), .segs [.arr .bool 13], .lst (.int .i64)]⟩⟩, fun p => some ((p.1.2.1, p.1.2.2.1, p.1.2.2.2.2.2.2.1, p.1.2.2.2.2.2.2.2.1, p.2.1, p.2.2.1.1, p.2.2.2.1))⟩
noncomputable def never_l2_L (N : Nat) : LoopS := { at_ := [.c [1, 1, 1, 1, 1, 1, 1, 1, 0, 1, 0, 0, 1, 1, 0, 0, 1, 1, 1, 0], .b 2, .b 1, .c [1, 1, 1, 1, 1, 1, 1, 1, 0, 1, 0, 0, 1, 1, 1], .l [1, 1, 1, 1, 1, 1, 1, 1, 0, 1, 0, 0], .b 0, .c [1, 1, 1, 1, 1, 1, 1, 1, 1]], sta := never_l2_st, exits := [([.c [1, 1, 1, 1, 1, 1, 1, 1, 0, 1, 0, 0, 1, 1, 1], .l [1, 1, 1, 1, 1, 1, 1, 1, 0, 1, 0, 0], .b 0, .c [1, 1, 1, 1, 1, 1, 1, 1, 1]], ⟨[2, 3, 4, 6, 7, 8, 26, 27], ⟨[.nils, .i .i64, .fe Qb, .mp 0, .own 1 0, .ols 2, .i .i64, .i .i64], [.map (.int .i64) (.int .i64), .segs [.arr .bool 13], .lst (.int .i64)]⟩⟩)], run := fun p k => ((breathsR p.1.2.2.2.2.2.2.2.2.1.2.1 p.1.2.2.2.2.2.2.2.2.1.2.2.1).bind fun es => never_l2 N es p.1.2.1 p.1.2.2.1 p.1.2.2.2.2.2.2.1 p.1.2.2.2.2.2.2.2.1 p.1.2.2.2.2.2.2.2.2.1.2.1 p.1.2.2.2.2.2.2.2.2.1.2.2.1 p.2.1 p.2.2.1.1 p.2.2.2.1).bind fun e => k (.inl (((), e.1, e.2.1, (), (), (), e.2.2.1, e.2.2.2.1, ()), (e.2.2.2.2.1, (e.2.2.2.2.2.1, ()), e.2.2.2.2.2.2, ()))) }
noncomputable abbrev never_l2_Bk : Body := mkB Tryz.f48 never_o 3
theorem never_l2_end (N : Nat) (u : Int) (d : Qa) (u2 : Int) (u3 : Int) (u4 : Int) (u5 : Qa) (on : List Qn) (met : List Bool) (out : List Int) : ev (Z := Int × Qa × Int × Int × (List Qn) × List Bool × List Int) Tryz.prog (never_sps N) never_B [] [never_l2_e0] none 400 false (nrm never_B.c 99 [.b 2, .b 1, .c [1, 1, 1, 1, 1, 1, 1, 1, 0, 1, 0, 0, 1, 1, 1], .l [1, 1, 1, 1, 1, 1, 1, 1, 0, 1, 0, 0], .b 0, .c [1, 1, 1, 1, 1, 1, 1, 1, 1]]) (stL never_l2_st (((), u, d, (), (), (), u2, u3, ((), (u4, u5, ())), ()), (on, (met, ()), out, ()))) (stH never_l2_st (((), u, d, (), (), (), u2, u3, ((), (u4, u5, ())), ()), (on, (met, ()), out, ()))) = never_l2 N [] u d u2 u3 u4 u5 on met out := by kernel_rfl
theorem never_l2_asg (N : Nat) (e : Int × Unit) (es : List (Int × Unit)) (u : Int) (d : Qa) (u2 : Int) (u3 : Int) (u4 : Int) (u5 : Qa) (on : List Qn) (met : List Bool) (out : List Int) : ev (Z := Int × Qa × Int × Int × (List Qn) × List Bool × List Int) Tryz.prog (never_sps N) never_l2_Bk [] [⟨[.r, .c [1, 1, 1, 1, 1, 1, 1, 1, 0, 1, 0, 0, 1, 1, 0, 0, 1, 1, 1, 0, 1]], never_l2_stA, fun p => never_l2_b N (fun on_ met_ out_ => never_l2 N es u d u2 u3 u4 u5 on_ met_ out_) u d u2 u3 u4 u5 p.1.2.1 p.1.2.2.2.1 p.2.1 p.2.2.1.1 p.2.2.2.1⟩] none 400 false (nrm never_B.c 99 [.c [1, 1, 1, 1, 1, 1, 1, 1, 0, 1, 0, 0, 1, 1, 0, 0, 1, 1, 1, 0, 0], .r, .c [1, 1, 1, 1, 1, 1, 1, 1, 0, 1, 0, 0, 1, 1, 0, 0, 1, 1, 1, 0, 1]]) (pars [47] (encs id is_breaths.elem e) (stL never_l2_st (((), u, d, (), (), (), u2, u3, ((), (u4, u5, ())), ()), (on, (met, ()), out, ())))) (stH never_l2_st (((), u, d, (), (), (), u2, u3, ((), (u4, u5, ())), ()), (on, (met, ()), out, ()))) = never_l2 N (e :: es) u d u2 u3 u4 u5 on met out := by kernel_rfl
theorem never_l2_bod (N : Nat) (rec : (List Qn) → Qq → Qg → Option (Int × Qa × Int × Int × (List Qn) × List Bool × List Int)) (u : Int) (d : Qa) (u2 : Int) (u3 : Int) (u4 : Int) (u5 : Qa) (u' : Int) (to' : Int) (g' : List Qn) (met' : List Bool) (g2' : List Int) : ev (Z := Int × Qa × Int × Int × (List Qn) × List Bool × List Int) Tryz.prog (never_sps N) never_l2_Bk [] [⟨[], ⟨[], ⟨[], [.map (.int .i64) (.int .i64), .segs [.arr .bool 13], .lst (.int .i64)]⟩⟩, fun p => rec p.2.1 p.2.2.1.1 p.2.2.2.1⟩] none 400 false (nrm never_B.c 99 [.c [1, 1, 1, 1, 1, 1, 1, 1, 0, 1, 0, 0, 1, 1, 0, 0, 1, 1, 1, 0, 1]]) (stL never_l2_stA (((), u', (), to', ()), (g', (met', ()), g2', ()))) (stH never_l2_stA (((), u', (), to', ()), (g', (met', ()), g2', ()))) = never_l2_b N rec u d u2 u3 u4 u5 u' to' g' met' g2' := by kernel_rfl
theorem never_l2_ok (N : Nat) : LoopOK Tryz.prog never_B.c never_B.n never_B.m0 true (never_l2_L N) := by
 refine range_ok (B := never_B) (is := is_breaths) (g := .tmp 46) (ps := #[47]) (assign := sub never_c [1, 1, 1, 1, 1, 1, 1, 1, 0, 1, 0, 0, 1, 1, 0, 0, 1, 1, 1, 0, 0]) (body := sub never_c [1, 1, 1, 1, 1, 1, 1, 1, 0, 1, 0, 0, 1, 1, 0, 0, 1, 1, 1, 0, 1]) (Z := Int × Qa × Int × Int × (List Qn) × List Bool × List Int) (x := never_l2_L N) (fun p => (p.1.2.2.2.2.2.2.2.2.1.2.1, p.1.2.2.2.2.2.2.2.2.1.2.2.1, ())) (fun es p => never_l2 N es p.1.2.1 p.1.2.2.1 p.1.2.2.2.2.2.2.1 p.1.2.2.2.2.2.2.2.1 p.1.2.2.2.2.2.2.2.2.1.2.1 p.1.2.2.2.2.2.2.2.2.1.2.2.1 p.2.1 p.2.2.1.1 p.2.2.2.1) (staA := never_l2_stA) (fun es q p => never_l2_b N (fun on_ met_ out_ => never_l2 N es q.2.1 q.2.2.1 q.2.2.2.2.2.2.1 q.2.2.2.2.2.2.2.1 q.2.2.2.2.2.2.2.2.1.2.1 q.2.2.2.2.2.2.2.2.1.2.2.1 on_ met_ out_) q.2.1 q.2.2.1 q.2.2.2.2.2.2.1 q.2.2.2.2.2.2.2.1 q.2.2.2.2.2.2.2.2.1.2.1 q.2.2.2.2.2.2.2.2.1.2.2.1 p.1.2.1 p.1.2.2.2.1 p.2.1 p.2.2.1.1 p.2.2.2.1) [] (fun e => .inl (((), e.1, e.2.1, (), (), (), e.2.2.1, e.2.2.2.1, ()), (e.2.2.2.2.1, (e.2.2.2.2.2.1, ()), e.2.2.2.2.2.2, ()))) (fun _ _ _ => rfl) rfl (by kernel_rfl) (fun _ => by kernel_rfl) (by kernel_rfl) is_breaths_ok (Nat.le_of_ble_eq_true (by kernel_rfl)) (by kernel_rfl) ?_ ?_ ?_ ?_
 ·exact fun z E Xc hE hX hx p hp a w hS => ev_sound (z := z) (B := never_B) (loops := []) (leaves := [never_l2_e0]) (top := true) (never_all N) mixed trivial hE hX ⟨(fun p hp => by obtain rfl := Option.some.inj hp; exact hx), trivial⟩ RetOK.no 400 false _ _ _ ((never_l2_end N p.1.2.1 p.1.2.2.1 p.1.2.2.2.2.2.2.1 p.1.2.2.2.2.2.2.2.1 p.1.2.2.2.2.2.2.2.2.1.2.1 p.1.2.2.2.2.2.2.2.2.1.2.2.1 p.2.1 p.2.2.1.1 p.2.2.2.1).trans hp) a w hS
 ·intro z E Xc hE hX hx e he q b hb a w hS
  simp only [List.not_mem_nil] at he
 ·exact fun z E Xc hE hX e es p hl hp a w hS => ev_sound (z := z) (B := never_l2_Bk) (loops := []) (leaves := [_]) (top := false) (never_all N) mixed trivial hE hX ⟨hl, trivial⟩ RetOK.no 400 false _ _ _ ((never_l2_asg N e es p.1.2.1 p.1.2.2.1 p.1.2.2.2.2.2.2.1 p.1.2.2.2.2.2.2.2.1 p.1.2.2.2.2.2.2.2.2.1.2.1 p.1.2.2.2.2.2.2.2.2.1.2.2.1 p.2.1 p.2.2.1.1 p.2.2.2.1).trans hp) a w hS
 ·exact fun z E Xc hE hX es q he hs p hp a w hS => ev_sound (z := z) (B := never_l2_Bk) (loops := []) (leaves := [_]) (top := false) (never_all N) mixed trivial hE hX ⟨he, trivial⟩ RetOK.no 400 false _ _ _ ((never_l2_bod N (fun on_ met_ out_ => never_l2 N es q.2.1 q.2.2.1 q.2.2.2.2.2.2.1 q.2.2.2.2.2.2.2.1 q.2.2.2.2.2.2.2.2.1.2.1 q.2.2.2.2.2.2.2.2.1.2.2.1 on_ met_ out_) q.2.1 q.2.2.1 q.2.2.2.2.2.2.1 q.2.2.2.2.2.2.2.1 q.2.2.2.2.2.2.2.2.1.2.1 q.2.2.2.2.2.2.2.2.1.2.2.1 p.1.2.1 p.1.2.2.2.1 p.2.1 p.2.2.1.1 p.2.2.2.1).trans hp) a w hS
noncomputable def never_l1_L (N : Nat) : LpQ never_B true := mkL (Z := List Int) (never_sp N) [⟨never_l2_L N, never_l2_ok N⟩] never_l1_at never_l1_st (fun m p => never_l1 N m p.1.2.1 p.1.2.2.1 p.1.2.2.2.2.2.2.1 p.1.2.2.2.2.2.2.2.1 p.2.1 p.2.2.1.1 p.2.2.2.1) [never_l1_e0] (fun m => [never_j1_k N (never_l1 N m)]) (fun k e => k (.inl (((), ()), (e, ())))) N (fun m p => by kernel_rfl)
noncomputable def sp_never (N : Nat) : Spec := mkS 48 ⟨[.agg [.sl Qd, .sl Qc, .i .i64]], []⟩ never_o (fun p => never_S N p.1.1.1 p.1.1.2.1 p.1.1.2.2.1) (fun k r => k ((r.1, r.2, ()), ()))
theorem sp_never_ok (N : Nat) : SpecOK Tryz.prog (sp_never N) := mkF (R := List Int × Int) (m0 := 0) (never_sp N) [⟨never_l2_L N, never_l2_ok N⟩, never_l1_L N] (fun r => some (r.1.1, r.1.2.1)) [] Tryz.func48 (fun p => by kernel_rfl) (by kernel_rfl) (fun _ => by kernel_rfl)

def lowered_l2_b (N : Nat) (rec : Qg → Qg → Int → Option (Qa × Int × Int × List Int × List Int)) (d : Qa) (u u2 u3 : Int) (u4 : Qa) (to' : Int) (m' g' : List Int) (from_' : Int) : Option (Qa × Int × Int × List Int × List Int) :=
 rng to' 13 <|
 get m' to'.toNat fun x_4 =>
 rng from_' 13 <|
 get m' from_'.toNat fun x_5 =>
 chk (x_5 + 1) <|
 rng to' 13 <|
 get m' to'.toNat fun _ =>
 rec (m'.set to'.toNat (min x_4 (x_5 + 1))) g' from_'
def lowered_l2 (N : Nat) : List (Int × Unit) → (Qa) → Int → Int → Int → (Qa) → Qg → Qg → Int → Option (Qa × Int × Int × List Int × List Int)
 | [], d, u, u2, u3, u4, m, g, from_ =>
  some ((d, u, u2, m, g))
 | e :: es, d, u, u2, u3, u4, m, g, from_ =>
  lowered_l2_b N (fun m_ g_ from__ => lowered_l2 N es d u u2 u3 u4 m_ g_ from__) d u u2 u3 u4 e.1 m g from_
def lowered_l1 (N : Nat) : Nat → (Qa) → Int → Int → Qg → Qg → Option (List Int × List Int)
 | 0, _, _, _, _, _ => none
 | n_ + 1, d, u, u2, m, g =>
  br (decide (u2 < u))
   ((breaths_S N d u2).bind fun (x_2, y_3) =>
   ((breathsR x_2 y_3).bind fun es => lowered_l2 N es d u u2 x_2 y_3 m g u2).bind fun (d_7, u_8, u2_9, m_10, g_11) =>
   chk (u2_9 + 1) <|
   lowered_l1 N n_ d_7 u_8 (u2_9 + 1) m_10 g_11)
   (some ((m, g)))
def lowered_S (N : Nat) (d : Qa) (m : List Int) : Option Qg :=
 (end__S N d).bind fun x_1 =>
 (lowered_l1 N N d x_1 0 m (List.replicate 13 (0 : Int))).bind fun (m_12, g_13) =>
 some m_12
noncomputable def lowered_sp (N : Nat) : Oks := [⟨_, sp_end__ok N⟩, ⟨_, sp_breaths_ok N⟩]
abbrev lowered_o : List StSh := [⟨[.arr (.int .i64) 13], []⟩]
noncomputable abbrev lowered_B : Body := mkB Tryz.f61 lowered_o 0
noncomputable def lowered_sps (N : Nat) : List Spec := (lowered_sp N).map (·.1)
theorem lowered_all (N : Nat) : AllP (SpecOK Tryz.prog) (lowered_sps N) := allP_map (lowered_sp N)
noncomputable def lowered_c : Code := lowered_B.c
abbrev lowered_l2_st : Sta := ⟨[0, 3, 4, 5, 8, 9, 14], ⟨[.fe Qb, .own 0 0, .own 1 0, .own 2 0, .i .i64, .i .i64, .fn 122 [] [.fe (.int .i64), .fe Qo]], [.segs [.arr (.int .i64) 13], .segs [.arr (.int .i64) 13], .segs [.i .i64]]⟩⟩
abbrev lowered_l2_stA : Sta := ⟨[3, 4, 5, 6], ⟨[.own 0 0, .own 1 0, .own 2 0, .i .i64], [.segs [.arr (.int .i64) 13], .segs [.arr (.int .i64) 13], .segs [.i .i64]]⟩⟩
abbrev lowered_l2_e0 : Leaf (Qa × Int × Int × List Int × List Int) := ⟨[.c [1, 0, 1, 0, 0, 1, 1, 1], .l [1, 0, 1, 0, 0], .b 0, .c [1, 1]], ⟨[0, 3, 4, 8, 9], ⟨[.fe Qb, .own 0 0, .own 1 0, .i .i64, .i .i64], [.segs [.arr (.int .i64) 13], .segs [.arr (.int .i64) 13]]⟩⟩, fun p => some ((p.1.1, p.1.2.2.2.1, p.1.2.2.2.2.1, p.2.1.1, p.2.2.1.1))⟩
noncomputable def lowered_l2_L (N : Nat) : LoopS := { at_ := [.c [1, 0, 1, 0, 0, 1, 1, 0, 0, 1, 1, 0], .b 2, .b 1, .c [1, 0, 1, 0, 0, 1, 1, 1], .l [1, 0, 1, 0, 0], .b 0, .c [1, 1]], sta := lowered_l2_st, exits := [([.c [1, 0, 1, 0, 0, 1, 1, 1], .l [1, 0, 1, 0, 0], .b 0, .c [1, 1]], ⟨[0, 3, 4, 8, 9], ⟨[.fe Qb, .own 0 0, .own 1 0, .i .i64, .i .i64], [.segs [.arr (.int .i64) 13], .segs [.arr (.int .i64) 13]]⟩⟩)], run := fun p k => ((breathsR p.1.2.2.2.2.2.2.1.2.1 p.1.2.2.2.2.2.2.1.2.2.1).bind fun es => lowered_l2 N es p.1.1 p.1.2.2.2.2.1 p.1.2.2.2.2.2.1 p.1.2.2.2.2.2.2.1.2.1 p.1.2.2.2.2.2.2.1.2.2.1 p.2.1.1 p.2.2.1.1 p.2.2.2.1.1).bind fun e => k (.inl ((e.1, (), (), e.2.1, e.2.2.1, ()), ((e.2.2.2.1, ()), (e.2.2.2.2, ()), ()))) }
noncomputable abbrev lowered_l2_Bk : Body := mkB Tryz.f61 lowered_o 3
theorem lowered_l2_end (N : Nat) (d : Qa) (u : Int) (u2 : Int) (u3 : Int) (u4 : Qa) (m : List Int) (g : List Int) (from_ : Int) : ev (Z := Qa × Int × Int × List Int × List Int) Tryz.prog (lowered_sps N) lowered_B [] [lowered_l2_e0] none 400 false (nrm lowered_B.c 99 [.b 2, .b 1, .c [1, 0, 1, 0, 0, 1, 1, 1], .l [1, 0, 1, 0, 0], .b 0, .c [1, 1]]) (stL lowered_l2_st ((d, (), (), (), u, u2, ((), (u3, u4, ())), ()), ((m, ()), (g, ()), (from_, ()), ()))) (stH lowered_l2_st ((d, (), (), (), u, u2, ((), (u3, u4, ())), ()), ((m, ()), (g, ()), (from_, ()), ()))) = lowered_l2 N [] d u u2 u3 u4 m g from_ := by kernel_rfl
theorem lowered_l2_asg (N : Nat) (e : Int × Unit) (es : List (Int × Unit)) (d : Qa) (u : Int) (u2 : Int) (u3 : Int) (u4 : Qa) (m : List Int) (g : List Int) (from_ : Int) : ev (Z := Qa × Int × Int × List Int × List Int) Tryz.prog (lowered_sps N) lowered_l2_Bk [] [⟨[.r, .c [1, 0, 1, 0, 0, 1, 1, 0, 0, 1, 1, 0, 1]], lowered_l2_stA, fun p => lowered_l2_b N (fun m_ g_ from__ => lowered_l2 N es d u u2 u3 u4 m_ g_ from__) d u u2 u3 u4 p.1.2.2.2.1 p.2.1.1 p.2.2.1.1 p.2.2.2.1.1⟩] none 400 false (nrm lowered_B.c 99 [.c [1, 0, 1, 0, 0, 1, 1, 0, 0, 1, 1, 0, 0], .r, .c [1, 0, 1, 0, 0, 1, 1, 0, 0, 1, 1, 0, 1]]) (pars [15] (encs id is_breaths.elem e) (stL lowered_l2_st ((d, (), (), (), u, u2, ((), (u3, u4, ())), ()), ((m, ()), (g, ()), (from_, ()), ())))) (stH lowered_l2_st ((d, (), (), (), u, u2, ((), (u3, u4, ())), ()), ((m, ()), (g, ()), (from_, ()), ()))) = lowered_l2 N (e :: es) d u u2 u3 u4 m g from_ := by kernel_rfl
theorem lowered_l2_bod (N : Nat) (rec : Qg → Qg → Int → Option (Qa × Int × Int × List Int × List Int)) (d : Qa) (u : Int) (u2 : Int) (u3 : Int) (u4 : Qa) (to' : Int) (m' : List Int) (g' : List Int) (from_' : Int) : ev (Z := Qa × Int × Int × List Int × List Int) Tryz.prog (lowered_sps N) lowered_l2_Bk [] [⟨[], ⟨[], ⟨[], [.segs [.arr (.int .i64) 13], .segs [.arr (.int .i64) 13], .segs [.i .i64]]⟩⟩, fun p => rec p.2.1.1 p.2.2.1.1 p.2.2.2.1.1⟩] none 400 false (nrm lowered_B.c 99 [.c [1, 0, 1, 0, 0, 1, 1, 0, 0, 1, 1, 0, 1]]) (stL lowered_l2_stA (((), (), (), to', ()), ((m', ()), (g', ()), (from_', ()), ()))) (stH lowered_l2_stA (((), (), (), to', ()), ((m', ()), (g', ()), (from_', ()), ()))) = lowered_l2_b N rec d u u2 u3 u4 to' m' g' from_' := by kernel_rfl
theorem lowered_l2_ok (N : Nat) : LoopOK Tryz.prog lowered_B.c lowered_B.n lowered_B.m0 true (lowered_l2_L N) := by
 refine range_ok (B := lowered_B) (is := is_breaths) (g := .tmp 14) (ps := #[15]) (assign := sub lowered_c [1, 0, 1, 0, 0, 1, 1, 0, 0, 1, 1, 0, 0]) (body := sub lowered_c [1, 0, 1, 0, 0, 1, 1, 0, 0, 1, 1, 0, 1]) (Z := Qa × Int × Int × List Int × List Int) (x := lowered_l2_L N) (fun p => (p.1.2.2.2.2.2.2.1.2.1, p.1.2.2.2.2.2.2.1.2.2.1, ())) (fun es p => lowered_l2 N es p.1.1 p.1.2.2.2.2.1 p.1.2.2.2.2.2.1 p.1.2.2.2.2.2.2.1.2.1 p.1.2.2.2.2.2.2.1.2.2.1 p.2.1.1 p.2.2.1.1 p.2.2.2.1.1) (staA := lowered_l2_stA) (fun es q p => lowered_l2_b N (fun m_ g_ from__ => lowered_l2 N es q.1 q.2.2.2.2.1 q.2.2.2.2.2.1 q.2.2.2.2.2.2.1.2.1 q.2.2.2.2.2.2.1.2.2.1 m_ g_ from__) q.1 q.2.2.2.2.1 q.2.2.2.2.2.1 q.2.2.2.2.2.2.1.2.1 q.2.2.2.2.2.2.1.2.2.1 p.1.2.2.2.1 p.2.1.1 p.2.2.1.1 p.2.2.2.1.1) [] (fun e => .inl ((e.1, (), (), e.2.1, e.2.2.1, ()), ((e.2.2.2.1, ()), (e.2.2.2.2, ()), ()))) (fun _ _ _ => rfl) rfl (by kernel_rfl) (fun _ => by kernel_rfl) (by kernel_rfl) is_breaths_ok (Nat.le_of_ble_eq_true (by kernel_rfl)) (by kernel_rfl) ?_ ?_ ?_ ?_
 ·exact fun z E Xc hE hX hx p hp a w hS => ev_sound (z := z) (B := lowered_B) (loops := []) (leaves := [lowered_l2_e0]) (top := true) (lowered_all N) mixed trivial hE hX ⟨(fun p hp => by obtain rfl := Option.some.inj hp; exact hx), trivial⟩ RetOK.no 400 false _ _ _ ((lowered_l2_end N p.1.1 p.1.2.2.2.2.1 p.1.2.2.2.2.2.1 p.1.2.2.2.2.2.2.1.2.1 p.1.2.2.2.2.2.2.1.2.2.1 p.2.1.1 p.2.2.1.1 p.2.2.2.1.1).trans hp) a w hS
 ·intro z E Xc hE hX hx e he q b hb a w hS
  simp only [List.not_mem_nil] at he
 ·exact fun z E Xc hE hX e es p hl hp a w hS => ev_sound (z := z) (B := lowered_l2_Bk) (loops := []) (leaves := [_]) (top := false) (lowered_all N) mixed trivial hE hX ⟨hl, trivial⟩ RetOK.no 400 false _ _ _ ((lowered_l2_asg N e es p.1.1 p.1.2.2.2.2.1 p.1.2.2.2.2.2.1 p.1.2.2.2.2.2.2.1.2.1 p.1.2.2.2.2.2.2.1.2.2.1 p.2.1.1 p.2.2.1.1 p.2.2.2.1.1).trans hp) a w hS
 ·exact fun z E Xc hE hX es q he hs p hp a w hS => ev_sound (z := z) (B := lowered_l2_Bk) (loops := []) (leaves := [_]) (top := false) (lowered_all N) mixed trivial hE hX ⟨he, trivial⟩ RetOK.no 400 false _ _ _ ((lowered_l2_bod N (fun m_ g_ from__ => lowered_l2 N es q.1 q.2.2.2.2.1 q.2.2.2.2.2.1 q.2.2.2.2.2.2.1.2.1 q.2.2.2.2.2.2.1.2.2.1 m_ g_ from__) q.1 q.2.2.2.2.1 q.2.2.2.2.2.1 q.2.2.2.2.2.2.1.2.1 q.2.2.2.2.2.2.1.2.2.1 p.1.2.2.2.1 p.2.1.1 p.2.2.1.1 p.2.2.2.1.1).trans hp) a w hS
noncomputable def lowered_l1_L (N : Nat) : LpQ lowered_B true := mkL (Z := List Int × List Int) (lowered_sp N) [⟨lowered_l2_L N, lowered_l2_ok N⟩] [.c [1, 0, 1, 0, 0, 0], .c [1, 0, 1, 0, 0, 1], .l [1, 0, 1, 0, 0], .b 0, .c [1, 1]] ⟨[0, 3, 4, 8, 9], ⟨[.fe Qb, .own 0 0, .own 1 0, .i .i64, .i .i64], [.segs [.arr (.int .i64) 13], .segs [.arr (.int .i64) 13]]⟩⟩ (fun m p => lowered_l1 N m p.1.1 p.1.2.2.2.1 p.1.2.2.2.2.1 p.2.1.1 p.2.2.1.1) [⟨[.c [1, 1, 0], .c [1, 1, 1]], ⟨[3, 4], ⟨[.own 0 0, .own 1 0], [.segs [.arr (.int .i64) 13], .segs [.arr (.int .i64) 13]]⟩⟩, fun p => some ((p.2.1.1, p.2.2.1.1))⟩] (fun _ => []) (fun k e => k (.inl (((), (), ()), ((e.1, ()), (e.2, ()), ())))) N (fun m p => by kernel_rfl)
noncomputable def sp_lowered (N : Nat) : Spec := mkS 61 ⟨[.fe Qb, .arr (.int .i64) 13], []⟩ lowered_o (fun p => lowered_S N p.1.1 p.1.2.1) (fun k r => k ((r, ()), ()))
theorem sp_lowered_ok (N : Nat) : SpecOK Tryz.prog (sp_lowered N) := mkF (R := List Int) (m0 := 0) (lowered_sp N) [⟨lowered_l2_L N, lowered_l2_ok N⟩, lowered_l1_L N] (fun r => some r.1.1) [] Tryz.func61 (fun p => by kernel_rfl) (by kernel_rfl) (fun _ => by kernel_rfl)

def shows1_S (N : Nat) (n : Int) : Option Bool :=
 (in__S N n 0 99).bind fun x_1 =>
 some x_1
noncomputable def sp_shows1 (N : Nat) : Spec := mkS 87 ⟨[.i .i64], []⟩ [⟨[.b], []⟩] (fun p => shows1_S N p.1.1) (fun k r => k ((r, ()), ()))
theorem sp_shows1_ok (N : Nat) : SpecOK Tryz.prog (sp_shows1 N) := mkF (R := Bool) (m0 := 0) [⟨_, sp_in__ok N⟩] [] (fun r => some r.1.1) [] Tryz.func87 (fun p => by kernel_rfl) (by kernel_rfl) (fun _ => by kernel_rfl)

def every1i3_S (N : Nat) (x : Int) : Option Bool :=
 (shows1_S N x).bind fun x_1 =>
 some (!x_1)
noncomputable def sp_every1i3 (N : Nat) : Spec := mkS 121 ⟨[.i .i64, .own 0 0], [.segs [.fn 87 [] []]]⟩ [⟨[.b], [.segs [.fn 87 [] []]]⟩] (fun p => every1i3_S N p.1.1) (fun k r => k ((r, ()), ((((), ()), ()), ())))
theorem sp_every1i3_ok (N : Nat) : SpecOK Tryz.prog (sp_every1i3 N) := mkF (R := Bool) (m0 := 1) [⟨_, sp_shows1_ok N⟩] [] (fun r => some r.1.1) [] Tryz.func121 (fun p => by kernel_rfl) (by kernel_rfl) (fun _ => by kernel_rfl)

def ixfi3_l1 (N : Nat) : Nat → Qg → Int → Int → Option ((Int) ⊕ (Unit))
 | 0, _, _, _ => none
 | n_ + 1, s, u, u2 =>
  br (decide (u2 < u))
   (idx s u2 fun x_1 =>
   (every1i3_S N x_1).bind fun x_2 =>
   br x_2
    (some (.inl u2))
    (chk (u2 + 1) <|
    ixfi3_l1 N n_ s u (u2 + 1)))
   (some (.inr ()))
def ixfi3_S (N : Nat) (s : List Int) : Option Int :=
 (ixfi3_l1 N N s (s.length : Int) 0).bind fun e => match e with
 | .inl i_3 =>
  some i_3
 | .inr _ =>
  some (-1)
noncomputable def ixfi3_sp (N : Nat) : Oks := [⟨_, sp_every1i3_ok N⟩]
abbrev ixfi3_o : List StSh := [⟨[.i .i64], [.segs [.fn 87 [] []]]⟩]
noncomputable abbrev ixfi3_B : Body := mkB Tryz.f130 ixfi3_o 1
noncomputable def ixfi3_l1_L (N : Nat) {top : Bool} : LpQ ixfi3_B top := mkL (Z := (Int) ⊕ (Unit)) (ixfi3_sp N) [] [.c [1, 0, 1, 0, 0, 0], .c [1, 0, 1, 0, 0, 1], .l [1, 0, 1, 0, 0], .b 0, .c [1, 1]] ⟨[0, 1, 7, 8], ⟨[.sl (.int .i64), .fn 121 [] [.own 0 0], .i .i64, .i .i64], [.segs [.fn 87 [] []]]⟩⟩ (fun m p => ixfi3_l1 N m p.1.1 p.1.2.2.1 p.1.2.2.2.1) [⟨[.c [1, 0, 1, 0, 0, 1, 1, 0, 0, 1, 1, 0, 0], .c [1, 0, 1, 0, 0, 1, 1, 0, 0, 1, 1, 0, 1], .b 1, .c [1, 0, 1, 0, 0, 1, 1, 1], .l [1, 0, 1, 0, 0], .b 0, .c [1, 1]], ⟨[5], ⟨[.i .i64], [.segs [.fn 87 [] []]]⟩⟩, fun p => some (.inl p.1.1)⟩, ⟨[.c [1, 1, 0], .c [1, 1, 1]], ⟨[], ⟨[], [.segs [.fn 87 [] []]]⟩⟩, fun p => some (.inr ())⟩] (fun _ => []) (fun k e => match e with | .inl x => k (.inl ((x, ()), ((((), ()), ()), ()))) | .inr x => k (.inr (.inl ((), ((((), ()), ()), ()))))) N (fun m p => by kernel_rfl) (hg := (by rintro _ _ (_ | _) <;> rfl))
noncomputable def sp_ixfi3 (N : Nat) : Spec := mkS 130 ⟨[.sl (.int .i64), .fn 121 [] [.own 0 0]], [.segs [.fn 87 [] []]]⟩ ixfi3_o (fun p => ixfi3_S N p.1.1) (fun k r => k ((r, ()), ((((), ()), ()), ())))
theorem sp_ixfi3_ok (N : Nat) : SpecOK Tryz.prog (sp_ixfi3 N) := mkF (R := Int) (m0 := 1) (ixfi3_sp N) [ixfi3_l1_L N] (fun r => some r.1.1) [] Tryz.func130 (fun p => by kernel_rfl) (by kernel_rfl) (fun _ => by kernel_rfl)

def cofi3_S (N : Nat) (s : List Int) : Option Bool :=
 (ixfi3_S N s).bind fun x_1 =>
 some (decide (0 ≤ x_1))
noncomputable def sp_cofi3 (N : Nat) : Spec := mkS 120 ⟨[.sl (.int .i64), .fn 121 [] [.own 0 0]], [.segs [.fn 87 [] []]]⟩ [⟨[.b], [.segs [.fn 87 [] []]]⟩] (fun p => cofi3_S N p.1.1) (fun k r => k ((r, ()), ((((), ()), ()), ())))
theorem sp_cofi3_ok (N : Nat) : SpecOK Tryz.prog (sp_cofi3 N) := mkF (R := Bool) (m0 := 1) [⟨_, sp_ixfi3_ok N⟩] [] (fun r => some r.1.1) [] Tryz.func120 (fun p => by kernel_rfl) (by kernel_rfl) (fun _ => by kernel_rfl)

def everyi3_S (N : Nat) (l : List Int) : Option Bool :=
 (cofi3_S N l).bind fun x_1 =>
 some (!x_1)
noncomputable def sp_everyi3 (N : Nat) : Spec := mkS 86 ⟨[.sl (.int .i64), .fn 87 [] []], []⟩ [⟨[.b], []⟩] (fun p => everyi3_S N p.1.1) (fun k r => k ((r, ()), ()))
theorem sp_everyi3_ok (N : Nat) : SpecOK Tryz.prog (sp_everyi3 N) := mkF (R := Bool) (m0 := 0) [⟨_, sp_cofi3_ok N⟩] [] (fun r => some r.1.1) [] Tryz.func86 (fun p => by kernel_rfl) (by kernel_rfl) (fun _ => by kernel_rfl)

def shows_l1 (N : Nat) : Nat → (Qa) → Qg → Int → Int → Qg → Option (Qa × List Int)
 | 0, _, _, _, _, _ => none
 | n_ + 1, d, u, u2, u3, m =>
  br (decide (u3 < u2))
   (idx u u3 fun x_5 =>
   rng u3 13 <|
   get m u3.toNat fun _ =>
   chk (u3 + 1) <|
   shows_l1 N n_ d u u2 (u3 + 1) (m.set u3.toNat x_5))
   (some ((d, m)))
def shows_S (N : Nat) (t : List Qe) (t2 : List Qf) (t3 : Int) (l : List Int) : Option Qn :=
 ((opened_S N t t2 t3).bind fun e => match e with
 | .inl (x_1, y_2) =>
  (br (!decide (y_2 = 0))
   (some (0, y_2))
   ((end__S N x_1).bind fun x_3 =>
   chk (x_3 + 1) <|
   br (!decide ((l.length : Int) = (x_3 + 1)))
    (some (0, 2))
    ((everyi3_S N l).bind fun x_4 =>
    br (!x_4)
     (some (0, 3))
     ((shows_l1 N N x_1 l (l.length : Int) 0 (List.replicate 13 (0 : Int))).bind fun (d_7, m_8) =>
     get m_8 0 fun x_9 =>
     br (!decide (x_9 = 0))
      (some (0, 8))
      ((lowered_S N d_7 m_8).bind fun x_10 =>
      br (!decide (x_10 = m_8))
       (some (0, 8))
       ((end__S N d_7).bind fun x_11 =>
       rng x_11 13 <|
       get m_8 x_11.toNat fun x_12 =>
       some (x_12, 0)))))))
 | .inr x_13 =>
  (br (!decide (x_13 = 0))
   (some (0, x_13))
   (none)))
noncomputable def shows_sp (N : Nat) : Oks := [⟨_, sp_opened_ok N⟩, ⟨_, sp_end__ok N⟩, ⟨_, sp_lowered_ok N⟩, ⟨_, sp_everyi3_ok N⟩]
abbrev shows_o : List StSh := [⟨[.i .i64, .i .i64], []⟩]
noncomputable abbrev shows_B : Body := mkB Tryz.f29 shows_o 0
noncomputable def shows_l1_L (N : Nat) {top : Bool} : LpQ shows_B top := mkL (Z := Qa × List Int) (shows_sp N) [] [.c [1, 1, 1, 1, 0, 1, 0, 0, 0], .c [1, 1, 1, 1, 0, 1, 0, 0, 1], .l [1, 1, 1, 1, 0, 1, 0, 0], .b 1, .c [1, 1, 1, 1, 1]] ⟨[6, 8, 31, 32, 33], ⟨[.fe Qb, .own 0 0, .sl (.int .i64), .i .i64, .i .i64], [.segs [.arr (.int .i64) 13]]⟩⟩ (fun m p => shows_l1 N m p.1.1 p.1.2.2.1 p.1.2.2.2.1 p.1.2.2.2.2.1 p.2.1.1) [⟨[.c [1, 1, 1, 1, 1, 0, 0], .c [1, 1, 1, 1, 1, 0, 1], .c [1, 1, 1, 1, 1, 1]], ⟨[6, 8], ⟨[.fe Qb, .own 0 0], [.segs [.arr (.int .i64) 13]]⟩⟩, fun p => some ((p.1.1, p.2.1.1))⟩] (fun _ => []) (fun k e => k (.inl ((e.1, (), ()), ((e.2, ()), ())))) N (fun m p => by kernel_rfl)
noncomputable def sp_shows (N : Nat) : Spec := mkS 29 ⟨[.agg [.sl Qd, .sl Qc, .i .i64], .sl (.int .i64)], []⟩ shows_o (fun p => shows_S N p.1.1.1 p.1.1.2.1 p.1.1.2.2.1 p.1.2.1) (fun k r => k ((r.1, r.2, ()), ()))
theorem sp_shows_ok (N : Nat) : SpecOK Tryz.prog (sp_shows N) := mkF (R := Int × Int) (m0 := 0) (shows_sp N) [shows_l1_L N] (fun r => some (r.1.1, r.1.2.1)) [] Tryz.func29 (fun p => by kernel_rfl) (by kernel_rfl) (fun _ => by kernel_rfl)

def clone_S (N : Nat) (s : List Int) : Option Qg :=
 grd (!s.isEmpty) <|
 lim (([] : Qg).length + s.length) <|
 some (([] : Qg) ++ s)
noncomputable def sp_clone (N : Nat) : Spec := mkS 62 ⟨[.sl (.int .i64)], []⟩ [⟨[.sl (.int .i64)], []⟩] (fun p => clone_S N p.1.1) (fun k r => k ((r, ()), ()))
theorem sp_clone_ok (N : Nat) : SpecOK Tryz.prog (sp_clone N) := mkF (R := List Int) (m0 := 0) [] [] (fun r => some r.1.1) [] Tryz.func62 (fun p => by kernel_rfl) (by kernel_rfl) (fun _ => by kernel_rfl)

def marks_l1 (N : Nat) : Nat → (Qa) → Int → Qg → Option (Qa × List Int)
 | 0, _, _, _ => none
 | n_ + 1, d, place, now =>
  (end__S N d).bind fun x_3 =>
  br (decide (place ≤ x_3))
   (rng place 13 <|
   get now place.toNat fun _ =>
   chk (place + 1) <|
   marks_l1 N n_ d (place + 1) (now.set place.toNat 99))
   (some ((d, now)))
def marks_l2 (N : Nat) : Nat → (Qa) → Qg → Qg → Option (Qa × List Int)
 | 0, _, _, _ => none
 | n_ + 1, d, now, next =>
  br (!decide (next = now))
   ((lowered_S N d next).bind fun x_8 =>
   marks_l2 N n_ d next x_8)
   (some ((d, now)))
def marks_S (N : Nat) (t : List Qe) (t2 : List Qf) (t3 : Int) : Option (List Int × Int) :=
 ((opened_S N t t2 t3).bind fun e => match e with
 | .inl (x_1, y_2) =>
  (br (!decide (y_2 = 0))
   (some ([], y_2))
   ((marks_l1 N N x_1 1 (List.replicate 13 (0 : Int))).bind fun (d_5, now_6) =>
   (lowered_S N d_5 now_6).bind fun x_7 =>
   (marks_l2 N N d_5 now_6 x_7).bind fun (d_9, now_10) =>
   (end__S N d_9).bind fun x_11 =>
   rng x_11 13 <|
   get now_10 x_11.toNat fun x_12 =>
   br (decide (x_12 = 99))
    (some ([], 6))
    ((end__S N d_9).bind fun x_13 =>
    chk (x_13 + 1) <|
    grd (decide ((0 : Int) ≤ (x_13 + 1) ∧ (x_13 + 1) ≤ (13 : Int))) <|
    (clone_S N (now_10.take ((x_13 + 1).toNat))).bind fun x_14 =>
    some (x_14, 0))))
 | .inr x_15 =>
  (br (!decide (x_15 = 0))
   (some ([], x_15))
   (none)))
noncomputable def marks_sp (N : Nat) : Oks := [⟨_, sp_opened_ok N⟩, ⟨_, sp_end__ok N⟩, ⟨_, sp_lowered_ok N⟩, ⟨_, sp_clone_ok N⟩]
abbrev marks_o : List StSh := [⟨[.sl (.int .i64), .i .i64], []⟩]
noncomputable abbrev marks_B : Body := mkB Tryz.f13 marks_o 0
noncomputable def marks_l1_L (N : Nat) {top : Bool} : LpQ marks_B top := mkL (Z := Qa × List Int) (marks_sp N) [] [.c [1, 1, 1, 1, 0, 1, 0, 0, 0, 0], .c [1, 1, 1, 1, 0, 1, 0, 0, 0, 1], .c [1, 1, 1, 1, 0, 1, 0, 0, 1], .l [1, 1, 1, 1, 0, 1, 0, 0], .b 0, .c [1, 1, 1, 1, 1]] ⟨[4, 6, 7], ⟨[.fe Qb, .own 0 0, .i .i64], [.segs [.arr (.int .i64) 13]]⟩⟩ (fun m p => marks_l1 N m p.1.1 p.1.2.2.1 p.2.1.1) [⟨[.c [1, 1, 1, 1, 1, 0, 0], .c [1, 1, 1, 1, 1, 0, 1], .c [1, 1, 1, 1, 1, 1]], ⟨[4, 6], ⟨[.fe Qb, .own 0 0], [.segs [.arr (.int .i64) 13]]⟩⟩, fun p => some ((p.1.1, p.2.1.1))⟩] (fun _ => []) (fun k e => k (.inl ((e.1, (), ()), ((e.2, ()), ())))) N (fun m p => by kernel_rfl)
noncomputable def marks_l2_L (N : Nat) {top : Bool} : LpQ marks_B top := mkL (Z := Qa × List Int) (marks_sp N) [marks_l1_L N] [.c [1, 1, 1, 1, 1, 0, 1, 0, 0, 0, 0], .c [1, 1, 1, 1, 1, 0, 1, 0, 0, 0, 1], .c [1, 1, 1, 1, 1, 0, 1, 0, 0, 1], .l [1, 1, 1, 1, 1, 0, 1, 0, 0], .b 2, .c [1, 1, 1, 1, 1, 1]] ⟨[4, 6, 8], ⟨[.fe Qb, .own 0 0, .own 1 0], [.segs [.arr (.int .i64) 13], .segs [.arr (.int .i64) 13]]⟩⟩ (fun m p => marks_l2 N m p.1.1 p.2.1.1 p.2.2.1.1) [⟨[.c [1, 1, 1, 1, 1, 1, 0, 0], .c [1, 1, 1, 1, 1, 1, 0, 1], .c [1, 1, 1, 1, 1, 1, 1]], ⟨[4, 6], ⟨[.fe Qb, .own 0 0], [.segs [.arr (.int .i64) 13]]⟩⟩, fun p => some ((p.1.1, p.2.1.1))⟩] (fun _ => []) (fun k e => k (.inl ((e.1, (), ()), ((e.2, ()), ())))) N (fun m p => by kernel_rfl)
noncomputable def sp_marks (N : Nat) : Spec := mkS 13 ⟨[.agg [.sl Qd, .sl Qc, .i .i64]], []⟩ marks_o (fun p => marks_S N p.1.1.1 p.1.1.2.1 p.1.1.2.2.1) (fun k r => k ((r.1, r.2, ()), ()))
theorem sp_marks_ok (N : Nat) : SpecOK Tryz.prog (sp_marks N) := mkF (R := List Int × Int) (m0 := 0) (marks_sp N) [marks_l1_L N, marks_l2_L N] (fun r => some (r.1.1, r.1.2.1)) [] Tryz.func13 (fun p => by kernel_rfl) (by kernel_rfl) (fun _ => by kernel_rfl)

def cloneo_S (N : Nat) (s : List Int) : Option Qg :=
 grd (!s.isEmpty) <|
 lim (([] : Qg).length + s.length) <|
 some (([] : Qg) ++ s)
noncomputable def sp_cloneo (N : Nat) : Spec := mkS 62 ⟨[.sl (.int .i64)], []⟩ [⟨[.ols 0], [.lst (.int .i64)]⟩] (fun p => cloneo_S N p.1.1) (fun k r => k (((), ()), (r, ())))
theorem sp_cloneo_ok (N : Nat) : SpecOK Tryz.prog (sp_cloneo N) := mkF (R := List Int) (m0 := 0) [] [] (fun r => some r.2.1) [] Tryz.func62 (fun p => by kernel_rfl) (by kernel_rfl) (fun _ => by kernel_rfl)

def clonen_S (N : Nat)  : Option Unit :=
 some ()
noncomputable def sp_clonen (N : Nat) : Spec := mkS 62 ⟨[.nils], []⟩ [⟨[.nils], []⟩] (fun p => clonen_S N) (fun k r => k (((), ()), ()))
theorem sp_clonen_ok (N : Nat) : SpecOK Tryz.prog (sp_clonen N) := mkF (R := Unit) (m0 := 0) [] [] (fun r => some ()) [] Tryz.func62 (fun p => by kernel_rfl) (by kernel_rfl) (fun _ => by kernel_rfl)

abbrev choose_o : List StSh := [⟨[.nils], [.segs [.fn 63 [] [.fe Qo, .fe (.int .i64), .own 0 0]]]⟩, ⟨[.sl (.int .i64)], [.segs [.fn 63 [] [.fe Qo, .fe (.int .i64), .own 0 0]]]⟩]
noncomputable abbrev choose_self (self : Qg → Int → Int → (Qa) → Int → (Qa) → Int → Option (Qw ⊕ Qx)) : Spec := mkS 63 ⟨[.sl (.int .i64), .i .i64, .i .i64, .fe Qo, .fe (.int .i64), .own 0 0], [.segs [.fn 63 [] [.fe Qo, .fe (.int .i64), .own 0 0]]]⟩ choose_o (fun p => self p.1.1 p.1.2.1 p.1.2.2.1 p.1.2.2.2.1 p.1.2.2.2.2.1 p.2.1.1.2.1 p.2.1.1.2.2.1) (fun k r => match r with | .inl r => k (.inl (((), ()), ((((), (r.1, r.2, (), ())), ()), ()))) | .inr r => k (.inr ((r.1, ()), ((((), (r.2.1, r.2.2, (), ())), ()), ()))))
def choose_l1 (N : Nat) (self : Qg → Int → Int → (Qa) → Int → (Qa) → Int → Option (Qw ⊕ Qx)) : Nat → Qg → Int → (Qa) → Int → (Qa) → Int → Option (Qx ⊕ Qw)
 | 0, _, _, _, _, _, _ => none
 | n_ + 1, l, more, u, w, g, g2 =>
  chk (w + more) <|
  (end__S N u).bind fun x_3 =>
  br (decide ((w + more) ≤ x_3))
   ((cloneo_S N l).bind fun x_4 =>
   lim (x_4.length + [w].length) <|
   chk (w + 1) <|
   chk (more - 1) <|
   ((self (x_4 ++ [w]) (w + 1) (more - 1) g g2 g g2).bind fun e => match e with
   | .inl (x_5, y_6) =>
    (chk (w + 1) <|
    choose_l1 N self n_ l more u (w + 1) x_5 y_6)
   | .inr (x_7, y_8, y_9) =>
    (grd (!x_7.isEmpty) <|
    some (.inl (x_7, y_8, y_9)))))
   (some (.inr (g, g2)))
def choose_S (N : Nat) (self : Qg → Int → Int → (Qa) → Int → (Qa) → Int → Option (Qw ⊕ Qx)) (l : List Int) (from_ more : Int) (u : Qa) (u2 : Int) (g : Qa) (g2 : Int) : Option (Qw ⊕ Qx) :=
 br (decide (more = 0))
  ((weight_S N u l).bind fun x_1 =>
  br (decide (u2 ≤ x_1))
   ((keeps_S N u l).bind fun x_2 =>
   br x_2
    (some (.inr (l, g, g2)))
    (some (.inl (g, g2))))
   (some (.inl (g, g2))))
  ((choose_l1 N self N l more u from_ g g2).bind fun e => match e with
  | .inl (out_10, g_11, g2_12) =>
   some (.inr (out_10, g_11, g2_12))
  | .inr (g_13, g2_14) =>
   some (.inl (g_13, g2_14)))
noncomputable def choose_sp (N : Nat) (self : Qg → Int → Int → (Qa) → Int → (Qa) → Int → Option (Qw ⊕ Qx)) (hself : SpecOK Tryz.prog (choose_self self)) : Oks := [⟨_, sp_cloneo_ok N⟩, ⟨_, sp_end__ok N⟩, ⟨_, sp_keeps_ok N⟩, ⟨_, sp_weight_ok N⟩, ⟨_, hself⟩]
noncomputable abbrev choose_B : Body := mkB Tryz.f63 choose_o 1
noncomputable def choose_l1_L (N : Nat) (self : Qg → Int → Int → (Qa) → Int → (Qa) → Int → Option (Qw ⊕ Qx)) (hself : SpecOK Tryz.prog (choose_self self)) {top : Bool} : LpQ choose_B top := mkL (Z := Qx ⊕ Qw) (choose_sp N self hself) [] [.c [1, 1, 0, 1, 0, 0, 0, 0], .c [1, 1, 0, 1, 0, 0, 0, 1], .c [1, 1, 0, 1, 0, 0, 1], .l [1, 1, 0, 1, 0, 0], .b 0, .c [1, 1, 1]] ⟨[0, 2, 3, 5, 10], ⟨[.sl (.int .i64), .i .i64, .fe Qo, .own 0 0, .i .i64], [.segs [.fn 63 [] [.fe Qo, .fe (.int .i64), .own 0 0]]]⟩⟩ (fun m p => choose_l1 N self m p.1.1 p.1.2.1 p.1.2.2.1 p.1.2.2.2.2.1 p.2.1.1.2.1 p.2.1.1.2.2.1) [⟨[.c [1, 1, 0, 1, 0, 0, 1, 0, 0, 1, 1, 0, 0], .c [1, 1, 0, 1, 0, 0, 1, 0, 0, 1, 1, 0, 1], .b 1, .c [1, 1, 0, 1, 0, 0, 1, 1], .l [1, 1, 0, 1, 0, 0], .b 0, .c [1, 1, 1]], ⟨[11], ⟨[.sl (.int .i64)], [.segs [.fn 63 [] [.fe Qo, .fe (.int .i64), .own 0 0]]]⟩⟩, fun p => some (.inl (p.1.1, p.2.1.1.2.1, p.2.1.1.2.2.1))⟩, ⟨[.c [1, 1, 1, 0], .c [1, 1, 1, 1]], ⟨[], ⟨[], [.segs [.fn 63 [] [.fe Qo, .fe (.int .i64), .own 0 0]]]⟩⟩, fun p => some (.inr (p.2.1.1.2.1, p.2.1.1.2.2.1))⟩] (fun _ => []) (fun k e => match e with | .inl x => k (.inl ((x.1, ()), ((((), (x.2.1, x.2.2, (), ())), ()), ()))) | .inr x => k (.inr (.inl ((), ((((), (x.1, x.2, (), ())), ()), ()))))) N (fun m p => by kernel_rfl) (hg := (by rintro _ _ (_ | _) <;> rfl))
theorem choose_self_ok (N : Nat) (self : Qg → Int → Int → (Qa) → Int → (Qa) → Int → Option (Qw ⊕ Qx)) (hself : SpecOK Tryz.prog (choose_self self)) : SpecOK Tryz.prog (choose_self (choose_S N self)) := mkF (R := Qw ⊕ Qx) (m0 := 1) (choose_sp N self hself) [choose_l1_L N self hself] (fun r => match r with | .inl r => some (.inl (r.2.1.1.2.1, r.2.1.1.2.2.1)) | .inr r => some (.inr (r.1.1, r.2.1.1.2.1, r.2.1.1.2.2.1))) [] Tryz.func63 (fun p => by kernel_rfl) (by kernel_rfl) (fun _ => by kernel_rfl) (by rintro _ _ (_ | _) <;> rfl) (by rintro (_ | _) z h <;> (cases h; rfl))
def choose_R (N : Nat) : Nat → Qg → Int → Int → (Qa) → Int → (Qa) → Int → Option (Qw ⊕ Qx)
 | 0 => fun _ _ _ _ _ _ _ => none
 | n + 1 => choose_S N (choose_R N n)
theorem choose_R_ok (N : Nat) : ∀ n, SpecOK Tryz.prog (choose_self (choose_R N n))
 | 0 => SpecOK.none (fun _ _ _ => rfl) (fun args w => Sem.pv_run _ _ _ (by kernel_rfl) w)
 | n + 1 => choose_self_ok N (choose_R N n) (choose_R_ok N n)
noncomputable abbrev sp_choose (N : Nat) : Spec := choose_self (choose_R N N)
theorem sp_choose_ok (N : Nat) : SpecOK Tryz.prog (sp_choose N) := choose_R_ok N N

def choose0_l1 (N : Nat) : Nat → Int → (Qa) → Int → (Qa) → Int → Option (Qx ⊕ Qw)
 | 0, _, _, _, _, _ => none
 | n_ + 1, more, u, w, g, g2 =>
  chk (w + more) <|
  (end__S N u).bind fun x_3 =>
  br (decide ((w + more) ≤ x_3))
   ((clonen_S N).bind fun _ =>
   chk (w + 1) <|
   chk (more - 1) <|
   ((choose_R N N [w] (w + 1) (more - 1) g g2 g g2).bind fun e => match e with
   | .inl (x_4, y_5) =>
    (chk (w + 1) <|
    choose0_l1 N n_ more u (w + 1) x_4 y_5)
   | .inr (x_6, y_7, y_8) =>
    (grd (!x_6.isEmpty) <|
    some (.inl (x_6, y_7, y_8)))))
   (some (.inr (g, g2)))
def choose0_S (N : Nat) (from_ more : Int) (u : Qa) (u2 : Int) (g : Qa) (g2 : Int) : Option (Qw ⊕ Qx) :=
 br (decide (more = 0))
  ((weight_S N u []).bind fun x_1 =>
  br (decide (u2 ≤ x_1))
   ((keeps_S N u []).bind fun x_2 =>
   br x_2
    (some (.inl (g, g2)))
    (some (.inl (g, g2))))
   (some (.inl (g, g2))))
  ((choose0_l1 N N more u from_ g g2).bind fun e => match e with
  | .inl (out_9, g_10, g2_11) =>
   some (.inr (out_9, g_10, g2_11))
  | .inr (g_12, g2_13) =>
   some (.inl (g_12, g2_13)))
noncomputable def choose0_sp (N : Nat) : Oks := [⟨_, sp_clonen_ok N⟩, ⟨_, sp_choose_ok N⟩, ⟨_, sp_end__ok N⟩, ⟨_, sp_keeps_ok N⟩, ⟨_, sp_weight_ok N⟩]
abbrev choose0_o : List StSh := [⟨[.nils], [.segs [.fn 63 [] [.fe Qo, .fe (.int .i64), .own 0 0]]]⟩, ⟨[.sl (.int .i64)], [.segs [.fn 63 [] [.fe Qo, .fe (.int .i64), .own 0 0]]]⟩]
noncomputable abbrev choose0_B : Body := mkB Tryz.f63 choose0_o 1
noncomputable def choose0_l1_L (N : Nat) {top : Bool} : LpQ choose0_B top := mkL (Z := Qx ⊕ Qw) (choose0_sp N) [] [.c [1, 1, 0, 1, 0, 0, 0, 0], .c [1, 1, 0, 1, 0, 0, 0, 1], .c [1, 1, 0, 1, 0, 0, 1], .l [1, 1, 0, 1, 0, 0], .b 0, .c [1, 1, 1]] ⟨[0, 2, 3, 5, 10], ⟨[.nils, .i .i64, .fe Qo, .own 0 0, .i .i64], [.segs [.fn 63 [] [.fe Qo, .fe (.int .i64), .own 0 0]]]⟩⟩ (fun m p => choose0_l1 N m p.1.2.1 p.1.2.2.1 p.1.2.2.2.2.1 p.2.1.1.2.1 p.2.1.1.2.2.1) [⟨[.c [1, 1, 0, 1, 0, 0, 1, 0, 0, 1, 1, 0, 0], .c [1, 1, 0, 1, 0, 0, 1, 0, 0, 1, 1, 0, 1], .b 1, .c [1, 1, 0, 1, 0, 0, 1, 1], .l [1, 1, 0, 1, 0, 0], .b 0, .c [1, 1, 1]], ⟨[11], ⟨[.sl (.int .i64)], [.segs [.fn 63 [] [.fe Qo, .fe (.int .i64), .own 0 0]]]⟩⟩, fun p => some (.inl (p.1.1, p.2.1.1.2.1, p.2.1.1.2.2.1))⟩, ⟨[.c [1, 1, 1, 0], .c [1, 1, 1, 1]], ⟨[], ⟨[], [.segs [.fn 63 [] [.fe Qo, .fe (.int .i64), .own 0 0]]]⟩⟩, fun p => some (.inr (p.2.1.1.2.1, p.2.1.1.2.2.1))⟩] (fun _ => []) (fun k e => match e with | .inl x => k (.inl ((x.1, ()), ((((), (x.2.1, x.2.2, (), ())), ()), ()))) | .inr x => k (.inr (.inl ((), ((((), (x.1, x.2, (), ())), ()), ()))))) N (fun m p => by kernel_rfl) (hg := (by rintro _ _ (_ | _) <;> rfl))
noncomputable def sp_choose0 (N : Nat) : Spec := mkS 63 ⟨[.nils, .i .i64, .i .i64, .fe Qo, .fe (.int .i64), .own 0 0], [.segs [.fn 63 [] [.fe Qo, .fe (.int .i64), .own 0 0]]]⟩ choose0_o (fun p => choose0_S N p.1.2.1 p.1.2.2.1 p.1.2.2.2.1 p.1.2.2.2.2.1 p.2.1.1.2.1 p.2.1.1.2.2.1) (fun k r => match r with | .inl r => k (.inl (((), ()), ((((), (r.1, r.2, (), ())), ()), ()))) | .inr r => k (.inr ((r.1, ()), ((((), (r.2.1, r.2.2, (), ())), ()), ()))))
theorem sp_choose0_ok (N : Nat) : SpecOK Tryz.prog (sp_choose0 N) := mkF (R := Qw ⊕ Qx) (m0 := 1) (choose0_sp N) [choose0_l1_L N] (fun r => match r with | .inl r => some (.inl (r.2.1.1.2.1, r.2.1.1.2.2.1)) | .inr r => some (.inr (r.1.1, r.2.1.1.2.1, r.2.1.1.2.2.1))) [] Tryz.func63 (fun p => by kernel_rfl) (by kernel_rfl) (fun _ => by kernel_rfl) (by rintro _ _ (_ | _) <;> rfl) (by rintro (_ | _) z h <;> (cases h; rfl))

def least_l1 (N : Nat) : Nat → Int → Int → (Qa) → Int → Option (Qg ⊕ (Unit))
 | 0, _, _, _, _ => none
 | n_ + 1, u, u2, choose, choose2 =>
  br (decide (u2 < u))
   (chk (u2 + 1) <|
   ((choose0_S N 0 (u2 + 1) choose choose2 choose choose2).bind fun e => match e with
   | .inl (x_4, y_5) =>
    (chk (u2 + 1) <|
    least_l1 N n_ u (u2 + 1) x_4 y_5)
   | .inr (x_6, y_7, y_8) =>
    (grd (!x_6.isEmpty) <|
    some (.inl x_6))))
   (some (.inr ()))
def least_S (N : Nat) (t : List Qe) (t2 : List Qf) (t3 weight : Int) : Option (List Int × Int) :=
 ((opened_S N t t2 t3).bind fun e => match e with
 | .inl (x_1, y_2) =>
  (br (!decide (y_2 = 0))
   (some ([], y_2))
   (br (decide (weight < 0))
    (some ([], 3))
    ((end__S N x_1).bind fun x_3 =>
    (least_l1 N N x_3 0 x_1 weight).bind fun e => match e with
    | .inl l_9 =>
     some (l_9, 0)
    | .inr _ =>
     some ([], 6))))
 | .inr x_10 =>
  (br (!decide (x_10 = 0))
   (some ([], x_10))
   (br (decide (weight < 0))
    (some ([], 3))
    (none))))
noncomputable def least_sp (N : Nat) : Oks := [⟨_, sp_choose0_ok N⟩, ⟨_, sp_opened_ok N⟩, ⟨_, sp_end__ok N⟩]
abbrev least_o : List StSh := [⟨[.sl (.int .i64), .i .i64], []⟩]
noncomputable abbrev least_B : Body := mkB Tryz.f14 least_o 0
noncomputable def least_l1_L (N : Nat) {top : Bool} : LpQ least_B top := mkL (Z := Qg ⊕ (Unit)) (least_sp N) [] [.c [1, 1, 1, 1, 1, 1, 0, 1, 0, 0, 0], .c [1, 1, 1, 1, 1, 1, 0, 1, 0, 0, 1], .l [1, 1, 1, 1, 1, 1, 0, 1, 0, 0], .b 0, .c [1, 1, 1, 1, 1, 1, 1]] ⟨[8, 23, 24], ⟨[.own 0 0, .i .i64, .i .i64], [.segs [.fn 63 [] [.fe Qo, .fe (.int .i64), .own 0 0]]]⟩⟩ (fun m p => least_l1 N m p.1.2.1 p.1.2.2.1 p.2.1.1.2.1 p.2.1.1.2.2.1) [⟨[.c [1, 1, 1, 1, 1, 1, 0, 1, 0, 0, 1, 1, 0, 0, 1, 1, 1, 0, 0], .c [1, 1, 1, 1, 1, 1, 0, 1, 0, 0, 1, 1, 0, 0, 1, 1, 1, 0, 1], .b 1, .c [1, 1, 1, 1, 1, 1, 0, 1, 0, 0, 1, 1, 1], .l [1, 1, 1, 1, 1, 1, 0, 1, 0, 0], .b 0, .c [1, 1, 1, 1, 1, 1, 1]], ⟨[10], ⟨[.sl (.int .i64)], []⟩⟩, fun p => some (.inl p.1.1)⟩, ⟨[.c [1, 1, 1, 1, 1, 1, 1, 0], .c [1, 1, 1, 1, 1, 1, 1, 1]], ⟨[], ⟨[], []⟩⟩, fun p => some (.inr ())⟩] (fun _ => []) (fun k e => match e with | .inl x => k (.inl ((x, ()), ())) | .inr x => k (.inr (.inl ((), ())))) N (fun m p => by kernel_rfl) (hg := (by rintro _ _ (_ | _) <;> rfl))
noncomputable def sp_least (N : Nat) : Spec := mkS 14 ⟨[.agg [.sl Qd, .sl Qc, .i .i64], .i .i64], []⟩ least_o (fun p => least_S N p.1.1.1 p.1.1.2.1 p.1.1.2.2.1 p.1.2.1) (fun k r => k ((r.1, r.2, ()), ()))
theorem sp_least_ok (N : Nat) : SpecOK Tryz.prog (sp_least N) := mkF (R := List Int × Int) (m0 := 0) (least_sp N) [least_l1_L N] (fun r => some (r.1.1, r.1.2.1)) [] Tryz.func14 (fun p => by kernel_rfl) (by kernel_rfl) (fun _ => by kernel_rfl)

def even1_S (N : Nat) (from_ to : Int) (u : Qa) (u2 : Int) (u3 : Qa) : Option Bool :=
 (syllables_S N u from_ to).bind fun x_1 =>
 chk (u2 + 1) <|
 br (decide (x_1 ≤ (u2 + 1)))
  ((right_S N u3 from_ to).bind fun x_2 =>
  some x_2)
  (some false)
noncomputable def sp_even1 (N : Nat) : Spec := mkS 105 ⟨[.i .i64, .i .i64, .fe Qo, .fe (.int .i64), .fz [.fn 58 [.fe Qb] []]], []⟩ [⟨[.b], []⟩] (fun p => even1_S N p.1.1 p.1.2.1 p.1.2.2.1 p.1.2.2.2.1 p.1.2.2.2.2.1.1.1.1) (fun k r => k ((r, ()), ()))
theorem sp_even1_ok (N : Nat) : SpecOK Tryz.prog (sp_even1 N) := mkF (R := Bool) (m0 := 0) [⟨_, sp_syllables_ok N⟩, ⟨_, sp_right_ok N⟩] [] (fun r => some r.1.1) [] Tryz.func105 (fun p => by kernel_rfl) (by kernel_rfl) (fun _ => by kernel_rfl)

def feweste_j1 (N : Nat) (rec : (Qa) → Int → Int → (Qa) → Int → (Qa) → Qg → Qg → Option Qv) (d : Qa) (from_ to : Int) (r : Qa) (r2 : Int) (r3 : Qa) (least next : List Int) : Option Qv :=
 chk (to + 1) <|
 rec d from_ (to + 1) r r2 r3 least next
def feweste_l2 (N : Nat) : Nat → (Qa) → Int → Int → (Qa) → Int → (Qa) → Qg → Qg → Option Qv
 | 0, _, _, _, _, _, _, _, _ => none
 | n_ + 1, d, from_, to, r, r2, r3, least, next =>
  (end__S N d).bind fun x_2 =>
  br (decide (to ≤ x_2))
   ((end__S N d).bind fun x_3 =>
   br (decide (to < x_3))
    (rng to 13 <|
    get next to.toNat fun x_4 =>
    br (decide (x_4 = 0))
     (feweste_j1 N (feweste_l2 N n_) d from_ to r r2 r3 least next)
     ((even1_S N from_ to r r2 r3).bind fun x_5 =>
     br (!x_5)
      (feweste_j1 N (feweste_l2 N n_) d from_ to r r2 r3 least next)
      (rng from_ 13 <|
      get next from_.toNat fun x_6 =>
      br (decide (x_6 = 0))
       (rng to 13 <|
       get least to.toNat fun x_7 =>
       chk (x_7 + 1) <|
       rng from_ 13 <|
       get least from_.toNat fun _ =>
       rng from_ 13 <|
       get next from_.toNat fun _ =>
       feweste_j1 N (feweste_l2 N n_) d from_ to r r2 r3 (least.set from_.toNat (x_7 + 1)) (next.set from_.toNat to))
       (rng to 13 <|
       get least to.toNat fun x_10 =>
       chk (x_10 + 1) <|
       rng from_ 13 <|
       get least from_.toNat fun x_11 =>
       br (decide ((x_10 + 1) < x_11))
        (rng to 13 <|
        get least to.toNat fun x_12 =>
        chk (x_12 + 1) <|
        rng from_ 13 <|
        get least from_.toNat fun _ =>
        rng from_ 13 <|
        get next from_.toNat fun _ =>
        feweste_j1 N (feweste_l2 N n_) d from_ to r r2 r3 (least.set from_.toNat (x_12 + 1)) (next.set from_.toNat to))
        (feweste_j1 N (feweste_l2 N n_) d from_ to r r2 r3 least next)))))
    ((even1_S N from_ to r r2 r3).bind fun x_15 =>
    br (!x_15)
     (feweste_j1 N (feweste_l2 N n_) d from_ to r r2 r3 least next)
     (rng from_ 13 <|
     get next from_.toNat fun x_16 =>
     br (decide (x_16 = 0))
      (rng to 13 <|
      get least to.toNat fun x_17 =>
      chk (x_17 + 1) <|
      rng from_ 13 <|
      get least from_.toNat fun _ =>
      rng from_ 13 <|
      get next from_.toNat fun _ =>
      feweste_j1 N (feweste_l2 N n_) d from_ to r r2 r3 (least.set from_.toNat (x_17 + 1)) (next.set from_.toNat to))
      (rng to 13 <|
      get least to.toNat fun x_20 =>
      chk (x_20 + 1) <|
      rng from_ 13 <|
      get least from_.toNat fun x_21 =>
      br (decide ((x_20 + 1) < x_21))
       (rng to 13 <|
       get least to.toNat fun x_22 =>
       chk (x_22 + 1) <|
       rng from_ 13 <|
       get least from_.toNat fun _ =>
       rng from_ 13 <|
       get next from_.toNat fun _ =>
       feweste_j1 N (feweste_l2 N n_) d from_ to r r2 r3 (least.set from_.toNat (x_22 + 1)) (next.set from_.toNat to))
       (feweste_j1 N (feweste_l2 N n_) d from_ to r r2 r3 least next)))))
   (some ((d, from_, r, r2, r3, least, next)))
def feweste_l1 (N : Nat) : Nat → (Qa) → Int → (Qa) → Int → (Qa) → Qg → Qg → Option (Qa × List Int)
 | 0, _, _, _, _, _, _, _ => none
 | n_ + 1, d, from_, r, r2, r3, least, next =>
  br (decide (0 ≤ from_))
   (chk (from_ + 1) <|
   (feweste_l2 N N d from_ (from_ + 1) r r2 r3 least next).bind fun (d_25, from__26, r_27, r2_28, r3_29, least_30, next_31) =>
   chk (from__26 - 1) <|
   feweste_l1 N n_ d_25 (from__26 - 1) r_27 r2_28 r3_29 least_30 next_31)
   (some ((d, next)))
def feweste_l3 (N : Nat) : Nat → (Qa) → Int → Qg → Qg → Option Qg
 | 0, _, _, _, _ => none
 | n_ + 1, d, at_, next, out =>
  (end__S N d).bind fun x_35 =>
  br (decide (at_ < x_35))
   (rng at_ 13 <|
   get next at_.toNat fun x_36 =>
   chk (x_36 - at_) <|
   lim (out.length + [(x_36 - at_)].length) <|
   rng at_ 13 <|
   get next at_.toNat fun x_37 =>
   feweste_l3 N n_ d x_37 next (out ++ [(x_36 - at_)]))
   (some (out))
def feweste_S (N : Nat) (r : Qa) (r2 : Int) (r3 d : Qa) : Option (List Int × Bool) :=
 (end__S N d).bind fun x_1 =>
 chk (x_1 - 1) <|
 (feweste_l1 N N d (x_1 - 1) r r2 r3 (List.replicate 13 (0 : Int)) (List.replicate 13 (0 : Int))).bind fun (d_32, next_33) =>
 get next_33 0 fun x_34 =>
 br (decide (x_34 = 0))
  (some ([], false))
  ((feweste_l3 N N d_32 0 next_33 []).bind fun out_38 =>
  some (out_38, true))
noncomputable def feweste_sp (N : Nat) : Oks := [⟨_, sp_end__ok N⟩, ⟨_, sp_even1_ok N⟩]
abbrev feweste_o : List StSh := [⟨[.sl (.int .i64), .b], []⟩]
noncomputable abbrev feweste_B : Body := mkB Tryz.f59 feweste_o 0
abbrev feweste_l2_at : List PI := [.c [1, 1, 0, 1, 0, 0, 1, 0, 0, 1, 0, 0, 0, 0], .c [1, 1, 0, 1, 0, 0, 1, 0, 0, 1, 0, 0, 0, 1], .c [1, 1, 0, 1, 0, 0, 1, 0, 0, 1, 0, 0, 1], .l [1, 1, 0, 1, 0, 0, 1, 0, 0, 1, 0, 0], .b 2, .b 1, .c [1, 1, 0, 1, 0, 0, 1, 1], .l [1, 1, 0, 1, 0, 0], .b 0, .c [1, 1, 1]]
abbrev feweste_l2_st : Sta := ⟨[1, 2, 6, 7, 8, 9], ⟨[.fe Qb, .own 0 0, .own 1 0, .own 2 0, .i .i64, .i .i64], [.segs [.fn 105 [] [.fe Qo, .fe (.int .i64), .fz [.fn 58 [.fe Qb] []]]], .segs [.arr (.int .i64) 13], .segs [.arr (.int .i64) 13]]⟩⟩
abbrev feweste_l2_h (rec : (Qa) → Int → Int → (Qa) → Int → (Qa) → Qg → Qg → Option Qv) : Leaf Qv := ⟨feweste_l2_at, feweste_l2_st, fun p => rec p.1.1 p.1.2.2.2.2.1 p.1.2.2.2.2.2.1 p.2.1.1.2.1 p.2.1.1.2.2.1 p.2.1.1.2.2.2.1.1.1.1 p.2.2.1.1 p.2.2.2.1.1⟩
abbrev feweste_l2_e0 : Leaf Qv := ⟨[.c [1, 1, 0, 1, 0, 0, 1, 1], .l [1, 1, 0, 1, 0, 0], .b 0, .c [1, 1, 1]], ⟨[1, 2, 6, 7, 8], ⟨[.fe Qb, .own 0 0, .own 1 0, .own 2 0, .i .i64], [.segs [.fn 105 [] [.fe Qo, .fe (.int .i64), .fz [.fn 58 [.fe Qb] []]]], .segs [.arr (.int .i64) 13], .segs [.arr (.int .i64) 13]]⟩⟩, fun p => some ((p.1.1, p.1.2.2.2.2.1, p.2.1.1.2.1, p.2.1.1.2.2.1, p.2.1.1.2.2.2.1.1.1.1, p.2.2.1.1, p.2.2.2.1.1))⟩
noncomputable def feweste_j1_k (N : Nat) (rec : (Qa) → Int → Int → (Qa) → Int → (Qa) → Qg → Qg → Option Qv) {top : Bool} : JnQ (Z := Qa × Int × Qa × Int × Qa × List Int × List Int) feweste_B top none [feweste_l2_h rec, feweste_l2_e0] := mkJ (feweste_sp N) [] [] ⟨[.c [1, 1, 0, 1, 0, 0, 1, 0, 0, 1, 0, 0, 1, 1], .l [1, 1, 0, 1, 0, 0, 1, 0, 0, 1, 0, 0], .b 2, .b 1, .c [1, 1, 0, 1, 0, 0, 1, 1], .l [1, 1, 0, 1, 0, 0], .b 0, .c [1, 1, 1]], ⟨[1, 2, 6, 7, 8, 9], ⟨[.fe Qb, .own 0 0, .own 1 0, .own 2 0, .i .i64, .i .i64], [.segs [.fn 105 [] [.fe Qo, .fe (.int .i64), .fz [.fn 58 [.fe Qb] []]]], .segs [.arr (.int .i64) 13], .segs [.arr (.int .i64) 13]]⟩⟩, fun p => feweste_j1 N rec p.1.1 p.1.2.2.2.2.1 p.1.2.2.2.2.2.1 p.2.1.1.2.1 p.2.1.1.2.2.1 p.2.1.1.2.2.2.1.1.1.1 p.2.2.1.1 p.2.2.2.1.1⟩ (fun p => by kernel_rfl)
noncomputable def feweste_l2_L (N : Nat) {top : Bool} : LpQ feweste_B top := mkL (Z := Qa × Int × Qa × Int × Qa × List Int × List Int) (feweste_sp N) [] feweste_l2_at feweste_l2_st (fun m p => feweste_l2 N m p.1.1 p.1.2.2.2.2.1 p.1.2.2.2.2.2.1 p.2.1.1.2.1 p.2.1.1.2.2.1 p.2.1.1.2.2.2.1.1.1.1 p.2.2.1.1 p.2.2.2.1.1) [feweste_l2_e0] (fun m => [feweste_j1_k N (feweste_l2 N m)]) (fun k e => k (.inl ((e.1, (), (), (), e.2.1, ()), ((((), (e.2.2.1, e.2.2.2.1, (((e.2.2.2.2.1, ()), ()), ()), ())), ()), (e.2.2.2.2.2.1, ()), (e.2.2.2.2.2.2, ()), ())))) N (fun m p => by kernel_rfl)
noncomputable def feweste_l1_L (N : Nat) {top : Bool} : LpQ feweste_B top := mkL (Z := Qa × List Int) (feweste_sp N) [feweste_l2_L N] [.c [1, 1, 0, 1, 0, 0, 0, 0], .c [1, 1, 0, 1, 0, 0, 0, 1], .c [1, 1, 0, 1, 0, 0, 1], .l [1, 1, 0, 1, 0, 0], .b 0, .c [1, 1, 1]] ⟨[1, 2, 6, 7, 8], ⟨[.fe Qb, .own 0 0, .own 1 0, .own 2 0, .i .i64], [.segs [.fn 105 [] [.fe Qo, .fe (.int .i64), .fz [.fn 58 [.fe Qb] []]]], .segs [.arr (.int .i64) 13], .segs [.arr (.int .i64) 13]]⟩⟩ (fun m p => feweste_l1 N m p.1.1 p.1.2.2.2.2.1 p.2.1.1.2.1 p.2.1.1.2.2.1 p.2.1.1.2.2.2.1.1.1.1 p.2.2.1.1 p.2.2.2.1.1) [⟨[.c [1, 1, 1, 0, 0], .c [1, 1, 1, 0, 1], .c [1, 1, 1, 1]], ⟨[1, 7], ⟨[.fe Qb, .own 0 0], [.segs [.arr (.int .i64) 13]]⟩⟩, fun p => some ((p.1.1, p.2.1.1))⟩] (fun _ => []) (fun k e => k (.inl ((e.1, (), ()), ((e.2, ()), ())))) N (fun m p => by kernel_rfl)
noncomputable def feweste_l3_L (N : Nat) {top : Bool} : LpQ feweste_B top := mkL (Z := List Int) (feweste_sp N) [feweste_l2_L N, feweste_l1_L N] [.c [1, 1, 1, 1, 1, 0, 1, 0, 0, 0, 0], .c [1, 1, 1, 1, 1, 0, 1, 0, 0, 0, 1], .c [1, 1, 1, 1, 1, 0, 1, 0, 0, 1], .l [1, 1, 1, 1, 1, 0, 1, 0, 0], .b 4, .c [1, 1, 1, 1, 1, 1]] ⟨[1, 7, 10, 11], ⟨[.fe Qb, .own 0 0, .ols 1, .i .i64], [.segs [.arr (.int .i64) 13], .lst (.int .i64)]⟩⟩ (fun m p => feweste_l3 N m p.1.1 p.1.2.2.2.1 p.2.1.1 p.2.2.1) [⟨[.c [1, 1, 1, 1, 1, 1, 0], .c [1, 1, 1, 1, 1, 1, 1]], ⟨[10], ⟨[.ols 0], [.lst (.int .i64)]⟩⟩, fun p => some (p.2.1)⟩] (fun _ => []) (fun k e => k (.inl (((), ()), (e, ())))) N (fun m p => by kernel_rfl)
noncomputable def sp_feweste (N : Nat) : Spec := mkS 59 ⟨[.agg [.fn 105 [] [.fe Qo, .fe (.int .i64), .fz [.fn 58 [.fe Qb] []]]], .fe Qb], []⟩ feweste_o (fun p => feweste_S N p.1.1.1.2.1 p.1.1.1.2.2.1 p.1.1.1.2.2.2.1.1.1.1 p.1.2.1) (fun k r => k ((r.1, r.2, ()), ()))
theorem sp_feweste_ok (N : Nat) : SpecOK Tryz.prog (sp_feweste N) := mkF (R := List Int × Bool) (m0 := 0) (feweste_sp N) [feweste_l2_L N, feweste_l1_L N, feweste_l3_L N] (fun r => some (r.1.1, r.1.2.1)) [] Tryz.func59 (fun p => by kernel_rfl) (by kernel_rfl) (fun _ => by kernel_rfl)

def even_l1 (N : Nat) : Nat → (Qa) → (Qa) → Int → Int → Option ((Int × List Int) ⊕ (Unit))
 | 0, _, _, _, _ => none
 | n_ + 1, d, right, u, u2 =>
  br (decide (u2 < u))
   ((feweste_S N d u2 right d).bind fun (x_3, y_4) =>
   br y_4
    (some (.inl (u2, x_3)))
    (chk (u2 + 1) <|
    even_l1 N n_ d right u (u2 + 1)))
   (some (.inr ()))
def even_S (N : Nat) (t : List Qe) (t2 : List Qf) (t3 : Int) : Option (List Int × Int × Int) :=
 ((opened_S N t t2 t3).bind fun e => match e with
 | .inl (x_1, y_2) =>
  (br (!decide (y_2 = 0))
   (some ([], 0, y_2))
   ((even_l1 N N x_1 x_1 t3 0).bind fun e => match e with
   | .inl (most_5, l_6) =>
    chk (most_5 + 1) <|
    some (l_6, (most_5 + 1), 0)
   | .inr _ =>
    some ([], 0, 6)))
 | .inr x_7 =>
  (br (!decide (x_7 = 0))
   (some ([], 0, x_7))
   (none)))
noncomputable def even_sp (N : Nat) : Oks := [⟨_, sp_opened_ok N⟩, ⟨_, sp_feweste_ok N⟩]
abbrev even_o : List StSh := [⟨[.sl (.int .i64), .i .i64, .i .i64], []⟩]
noncomputable abbrev even_B : Body := mkB Tryz.f50 even_o 0
noncomputable def even_l1_L (N : Nat) {top : Bool} : LpQ even_B top := mkL (Z := (Int × List Int) ⊕ (Unit)) (even_sp N) [] [.c [1, 1, 1, 1, 0, 1, 0, 0, 0], .c [1, 1, 1, 1, 0, 1, 0, 0, 1], .l [1, 1, 1, 1, 0, 1, 0, 0], .b 0, .c [1, 1, 1, 1, 1]] ⟨[5, 7, 23, 24], ⟨[.fe Qo, .fz [.fn 58 [.fe Qb] []], .i .i64, .i .i64], []⟩⟩ (fun m p => even_l1 N m p.1.1 p.1.2.1.1.1.1 p.1.2.2.1 p.1.2.2.2.1) [⟨[.c [1, 1, 1, 1, 0, 1, 0, 0, 1, 1, 0, 0, 1, 1, 1, 1, 0, 0], .c [1, 1, 1, 1, 0, 1, 0, 0, 1, 1, 0, 0, 1, 1, 1, 1, 0, 1], .b 1, .c [1, 1, 1, 1, 0, 1, 0, 0, 1, 1, 1], .l [1, 1, 1, 1, 0, 1, 0, 0], .b 0, .c [1, 1, 1, 1, 1]], ⟨[8, 10], ⟨[.fe (.int .i64), .sl (.int .i64)], []⟩⟩, fun p => some (.inl (p.1.1, p.1.2.1))⟩, ⟨[.c [1, 1, 1, 1, 1, 0], .c [1, 1, 1, 1, 1, 1]], ⟨[], ⟨[], []⟩⟩, fun p => some (.inr ())⟩] (fun _ => []) (fun k e => match e with | .inl x => k (.inl ((x.1, x.2, ()), ())) | .inr x => k (.inr (.inl ((), ())))) N (fun m p => by kernel_rfl) (hg := (by rintro _ _ (_ | _) <;> rfl))
noncomputable def sp_even (N : Nat) : Spec := mkS 50 ⟨[.agg [.sl Qd, .sl Qc, .i .i64]], []⟩ even_o (fun p => even_S N p.1.1.1 p.1.1.2.1 p.1.1.2.2.1) (fun k r => k ((r.1, r.2.1, r.2.2, ()), ()))
theorem sp_even_ok (N : Nat) : SpecOK Tryz.prog (sp_even N) := mkF (R := List Int × Int × Int) (m0 := 0) (even_sp N) [even_l1_L N] (fun r => some (r.1.1, r.1.2.1, r.1.2.2.1)) [] Tryz.func50 (fun p => by kernel_rfl) (by kernel_rfl) (fun _ => by kernel_rfl)

def parted1_S (N : Nat) (x x2 x3 u : Int) : Option Bool :=
 br (decide (x < u))
  (br (decide (u ≤ x2))
   (some true)
   (br (decide (x3 < u))
    (some (decide (u ≤ x)))
    (some false)))
  (br (decide (x3 < u))
   (some (decide (u ≤ x)))
   (some false))
noncomputable def sp_parted1 (N : Nat) : Spec := mkS 127 ⟨[.agg [.i .i64, .i .i64, .i .i64], .fe (.int .i64)], []⟩ [⟨[.b], []⟩] (fun p => parted1_S N p.1.1.1 p.1.1.2.1 p.1.1.2.2.1 p.1.2.1) (fun k r => k ((r, ()), ()))
theorem sp_parted1_ok (N : Nat) : SpecOK Tryz.prog (sp_parted1 N) := mkF (R := Bool) (m0 := 0) [] [] (fun r => some r.1.1) [] Tryz.func127 (fun p => by kernel_rfl) (by kernel_rfl) (fun _ => by kernel_rfl)

def ixfpa_l1 (N : Nat) : Nat → Qi → Int → Int → Int → Option ((Int) ⊕ (Unit))
 | 0, _, _, _, _ => none
 | n_ + 1, s, f, u, u2 =>
  br (decide (u2 < u))
   (idx s u2 fun x_1 =>
   (parted1_S N x_1.1 x_1.2.1 x_1.2.2 f).bind fun x_2 =>
   br x_2
    (some (.inl u2))
    (chk (u2 + 1) <|
    ixfpa_l1 N n_ s f u (u2 + 1)))
   (some (.inr ()))
def ixfpa_S (N : Nat) (s : List Qf) (f : Int) : Option Int :=
 (ixfpa_l1 N N s f (s.length : Int) 0).bind fun e => match e with
 | .inl i_3 =>
  some i_3
 | .inr _ =>
  some (-1)
noncomputable def ixfpa_sp (N : Nat) : Oks := [⟨_, sp_parted1_ok N⟩]
abbrev ixfpa_o : List StSh := [⟨[.i .i64], []⟩]
noncomputable abbrev ixfpa_B : Body := mkB Tryz.f129 ixfpa_o 0
noncomputable def ixfpa_l1_L (N : Nat) {top : Bool} : LpQ ixfpa_B top := mkL (Z := (Int) ⊕ (Unit)) (ixfpa_sp N) [] [.c [1, 0, 1, 0, 0, 0], .c [1, 0, 1, 0, 0, 1], .l [1, 0, 1, 0, 0], .b 0, .c [1, 1]] ⟨[0, 1, 7, 8], ⟨[.sl Qc, .fn 127 [] [.fe (.int .i64)], .i .i64, .i .i64], []⟩⟩ (fun m p => ixfpa_l1 N m p.1.1 p.1.2.1.2.1 p.1.2.2.1 p.1.2.2.2.1) [⟨[.c [1, 0, 1, 0, 0, 1, 1, 0, 0, 1, 1, 0, 0], .c [1, 0, 1, 0, 0, 1, 1, 0, 0, 1, 1, 0, 1], .b 1, .c [1, 0, 1, 0, 0, 1, 1, 1], .l [1, 0, 1, 0, 0], .b 0, .c [1, 1]], ⟨[5], ⟨[.i .i64], []⟩⟩, fun p => some (.inl p.1.1)⟩, ⟨[.c [1, 1, 0], .c [1, 1, 1]], ⟨[], ⟨[], []⟩⟩, fun p => some (.inr ())⟩] (fun _ => []) (fun k e => match e with | .inl x => k (.inl ((x, ()), ())) | .inr x => k (.inr (.inl ((), ())))) N (fun m p => by kernel_rfl) (hg := (by rintro _ _ (_ | _) <;> rfl))
noncomputable def sp_ixfpa (N : Nat) : Spec := mkS 129 ⟨[.sl Qc, .fn 127 [] [.fe (.int .i64)]], []⟩ ixfpa_o (fun p => ixfpa_S N p.1.1 p.1.2.1.2.1) (fun k r => k ((r, ()), ()))
theorem sp_ixfpa_ok (N : Nat) : SpecOK Tryz.prog (sp_ixfpa N) := mkF (R := Int) (m0 := 0) (ixfpa_sp N) [ixfpa_l1_L N] (fun r => some r.1.1) [] Tryz.func129 (fun p => by kernel_rfl) (by kernel_rfl) (fun _ => by kernel_rfl)

def cofpa_S (N : Nat) (s : List Qf) (f : Int) : Option Bool :=
 (ixfpa_S N s f).bind fun x_1 =>
 some (decide (0 ≤ x_1))
noncomputable def sp_cofpa (N : Nat) : Spec := mkS 114 ⟨[.sl Qc, .fn 127 [] [.fe (.int .i64)]], []⟩ [⟨[.b], []⟩] (fun p => cofpa_S N p.1.1 p.1.2.1.2.1) (fun k r => k ((r, ()), ()))
theorem sp_cofpa_ok (N : Nat) : SpecOK Tryz.prog (sp_cofpa N) := mkF (R := Bool) (m0 := 0) [⟨_, sp_ixfpa_ok N⟩] [] (fun r => some r.1.1) [] Tryz.func114 (fun p => by kernel_rfl) (by kernel_rfl) (fun _ => by kernel_rfl)

def parted_S (N : Nat) (d : Qa) (place : Int) : Option Bool :=
 (cofpa_S N d.2.1 place).bind fun x_1 =>
 some x_1
noncomputable def sp_parted (N : Nat) : Spec := mkS 108 ⟨[.fe Qb, .i .i64], []⟩ [⟨[.b], []⟩] (fun p => parted_S N p.1.1 p.1.2.1) (fun k r => k ((r, ()), ()))
theorem sp_parted_ok (N : Nat) : SpecOK Tryz.prog (sp_parted N) := mkF (R := Bool) (m0 := 0) [⟨_, sp_cofpa_ok N⟩] [] (fun r => some r.1.1) [] Tryz.func108 (fun p => by kernel_rfl) (by kernel_rfl) (fun _ => by kernel_rfl)

def surest1_S (N : Nat) (from_ to : Int) (u : Qa) : Option Bool :=
 (right_S N u from_ to).bind fun x_1 =>
 br x_1
  ((end__S N u).bind fun x_2 =>
  br (decide (to = x_2))
   (some true)
   ((parted_S N u to).bind fun x_3 =>
   some (!x_3)))
  (some false)
noncomputable def sp_surest1 (N : Nat) : Spec := mkS 107 ⟨[.i .i64, .i .i64, .fe Qo], []⟩ [⟨[.b], []⟩] (fun p => surest1_S N p.1.1 p.1.2.1 p.1.2.2.1) (fun k r => k ((r, ()), ()))
theorem sp_surest1_ok (N : Nat) : SpecOK Tryz.prog (sp_surest1 N) := mkF (R := Bool) (m0 := 0) [⟨_, sp_end__ok N⟩, ⟨_, sp_right_ok N⟩, ⟨_, sp_parted_ok N⟩] [] (fun r => some r.1.1) [] Tryz.func107 (fun p => by kernel_rfl) (by kernel_rfl) (fun _ => by kernel_rfl)

def fewests_j1 (N : Nat) (rec : (Qa) → Int → Int → (Qa) → Qg → Qg → Option Qk) (d : Qa) (from_ to : Int) (r : Qa) (least next : List Int) : Option Qk :=
 chk (to + 1) <|
 rec d from_ (to + 1) r least next
def fewests_l2 (N : Nat) : Nat → (Qa) → Int → Int → (Qa) → Qg → Qg → Option Qk
 | 0, _, _, _, _, _, _ => none
 | n_ + 1, d, from_, to, r, least, next =>
  (end__S N d).bind fun x_2 =>
  br (decide (to ≤ x_2))
   ((end__S N d).bind fun x_3 =>
   br (decide (to < x_3))
    (rng to 13 <|
    get next to.toNat fun x_4 =>
    br (decide (x_4 = 0))
     (fewests_j1 N (fewests_l2 N n_) d from_ to r least next)
     ((surest1_S N from_ to r).bind fun x_5 =>
     br (!x_5)
      (fewests_j1 N (fewests_l2 N n_) d from_ to r least next)
      (rng from_ 13 <|
      get next from_.toNat fun x_6 =>
      br (decide (x_6 = 0))
       (rng to 13 <|
       get least to.toNat fun x_7 =>
       chk (x_7 + 1) <|
       rng from_ 13 <|
       get least from_.toNat fun _ =>
       rng from_ 13 <|
       get next from_.toNat fun _ =>
       fewests_j1 N (fewests_l2 N n_) d from_ to r (least.set from_.toNat (x_7 + 1)) (next.set from_.toNat to))
       (rng to 13 <|
       get least to.toNat fun x_10 =>
       chk (x_10 + 1) <|
       rng from_ 13 <|
       get least from_.toNat fun x_11 =>
       br (decide ((x_10 + 1) < x_11))
        (rng to 13 <|
        get least to.toNat fun x_12 =>
        chk (x_12 + 1) <|
        rng from_ 13 <|
        get least from_.toNat fun _ =>
        rng from_ 13 <|
        get next from_.toNat fun _ =>
        fewests_j1 N (fewests_l2 N n_) d from_ to r (least.set from_.toNat (x_12 + 1)) (next.set from_.toNat to))
        (fewests_j1 N (fewests_l2 N n_) d from_ to r least next)))))
    ((surest1_S N from_ to r).bind fun x_15 =>
    br (!x_15)
     (fewests_j1 N (fewests_l2 N n_) d from_ to r least next)
     (rng from_ 13 <|
     get next from_.toNat fun x_16 =>
     br (decide (x_16 = 0))
      (rng to 13 <|
      get least to.toNat fun x_17 =>
      chk (x_17 + 1) <|
      rng from_ 13 <|
      get least from_.toNat fun _ =>
      rng from_ 13 <|
      get next from_.toNat fun _ =>
      fewests_j1 N (fewests_l2 N n_) d from_ to r (least.set from_.toNat (x_17 + 1)) (next.set from_.toNat to))
      (rng to 13 <|
      get least to.toNat fun x_20 =>
      chk (x_20 + 1) <|
      rng from_ 13 <|
      get least from_.toNat fun x_21 =>
      br (decide ((x_20 + 1) < x_21))
       (rng to 13 <|
       get least to.toNat fun x_22 =>
       chk (x_22 + 1) <|
       rng from_ 13 <|
       get least from_.toNat fun _ =>
       rng from_ 13 <|
       get next from_.toNat fun _ =>
       fewests_j1 N (fewests_l2 N n_) d from_ to r (least.set from_.toNat (x_22 + 1)) (next.set from_.toNat to))
       (fewests_j1 N (fewests_l2 N n_) d from_ to r least next)))))
   (some ((d, from_, r, least, next)))
def fewests_l1 (N : Nat) : Nat → (Qa) → Int → (Qa) → Qg → Qg → Option (Qa × List Int)
 | 0, _, _, _, _, _ => none
 | n_ + 1, d, from_, r, least, next =>
  br (decide (0 ≤ from_))
   (chk (from_ + 1) <|
   (fewests_l2 N N d from_ (from_ + 1) r least next).bind fun (d_25, from__26, r_27, least_28, next_29) =>
   chk (from__26 - 1) <|
   fewests_l1 N n_ d_25 (from__26 - 1) r_27 least_28 next_29)
   (some ((d, next)))
def fewests_l3 (N : Nat) : Nat → (Qa) → Int → Qg → Qg → Option Qg
 | 0, _, _, _, _ => none
 | n_ + 1, d, at_, next, out =>
  (end__S N d).bind fun x_33 =>
  br (decide (at_ < x_33))
   (rng at_ 13 <|
   get next at_.toNat fun x_34 =>
   chk (x_34 - at_) <|
   lim (out.length + [(x_34 - at_)].length) <|
   rng at_ 13 <|
   get next at_.toNat fun x_35 =>
   fewests_l3 N n_ d x_35 next (out ++ [(x_34 - at_)]))
   (some (out))
def fewests_S (N : Nat) (r d : Qa) : Option (List Int × Bool) :=
 (end__S N d).bind fun x_1 =>
 chk (x_1 - 1) <|
 (fewests_l1 N N d (x_1 - 1) r (List.replicate 13 (0 : Int)) (List.replicate 13 (0 : Int))).bind fun (d_30, next_31) =>
 get next_31 0 fun x_32 =>
 br (decide (x_32 = 0))
  (some ([], false))
  ((fewests_l3 N N d_30 0 next_31 []).bind fun out_36 =>
  some (out_36, true))
noncomputable def fewests_sp (N : Nat) : Oks := [⟨_, sp_end__ok N⟩, ⟨_, sp_surest1_ok N⟩]
abbrev fewests_o : List StSh := [⟨[.sl (.int .i64), .b], []⟩]
noncomputable abbrev fewests_B : Body := mkB Tryz.f59 fewests_o 0
abbrev fewests_l2_at : List PI := [.c [1, 1, 0, 1, 0, 0, 1, 0, 0, 1, 0, 0, 0, 0], .c [1, 1, 0, 1, 0, 0, 1, 0, 0, 1, 0, 0, 0, 1], .c [1, 1, 0, 1, 0, 0, 1, 0, 0, 1, 0, 0, 1], .l [1, 1, 0, 1, 0, 0, 1, 0, 0, 1, 0, 0], .b 2, .b 1, .c [1, 1, 0, 1, 0, 0, 1, 1], .l [1, 1, 0, 1, 0, 0], .b 0, .c [1, 1, 1]]
abbrev fewests_l2_st : Sta := ⟨[1, 2, 6, 7, 8, 9], ⟨[.fe Qb, .own 0 0, .own 1 0, .own 2 0, .i .i64, .i .i64], [.segs [.fn 107 [] [.fe Qo]], .segs [.arr (.int .i64) 13], .segs [.arr (.int .i64) 13]]⟩⟩
abbrev fewests_l2_h (rec : (Qa) → Int → Int → (Qa) → Qg → Qg → Option Qk) : Leaf Qk := ⟨fewests_l2_at, fewests_l2_st, fun p => rec p.1.1 p.1.2.2.2.2.1 p.1.2.2.2.2.2.1 p.2.1.1.2.1 p.2.2.1.1 p.2.2.2.1.1⟩
abbrev fewests_l2_e0 : Leaf Qk := ⟨[.c [1, 1, 0, 1, 0, 0, 1, 1], .l [1, 1, 0, 1, 0, 0], .b 0, .c [1, 1, 1]], ⟨[1, 2, 6, 7, 8], ⟨[.fe Qb, .own 0 0, .own 1 0, .own 2 0, .i .i64], [.segs [.fn 107 [] [.fe Qo]], .segs [.arr (.int .i64) 13], .segs [.arr (.int .i64) 13]]⟩⟩, fun p => some ((p.1.1, p.1.2.2.2.2.1, p.2.1.1.2.1, p.2.2.1.1, p.2.2.2.1.1))⟩
noncomputable def fewests_j1_k (N : Nat) (rec : (Qa) → Int → Int → (Qa) → Qg → Qg → Option Qk) {top : Bool} : JnQ (Z := Qa × Int × Qa × List Int × List Int) fewests_B top none [fewests_l2_h rec, fewests_l2_e0] := mkJ (fewests_sp N) [] [] ⟨[.c [1, 1, 0, 1, 0, 0, 1, 0, 0, 1, 0, 0, 1, 1], .l [1, 1, 0, 1, 0, 0, 1, 0, 0, 1, 0, 0], .b 2, .b 1, .c [1, 1, 0, 1, 0, 0, 1, 1], .l [1, 1, 0, 1, 0, 0], .b 0, .c [1, 1, 1]], ⟨[1, 2, 6, 7, 8, 9], ⟨[.fe Qb, .own 0 0, .own 1 0, .own 2 0, .i .i64, .i .i64], [.segs [.fn 107 [] [.fe Qo]], .segs [.arr (.int .i64) 13], .segs [.arr (.int .i64) 13]]⟩⟩, fun p => fewests_j1 N rec p.1.1 p.1.2.2.2.2.1 p.1.2.2.2.2.2.1 p.2.1.1.2.1 p.2.2.1.1 p.2.2.2.1.1⟩ (fun p => by kernel_rfl)
noncomputable def fewests_l2_L (N : Nat) {top : Bool} : LpQ fewests_B top := mkL (Z := Qa × Int × Qa × List Int × List Int) (fewests_sp N) [] fewests_l2_at fewests_l2_st (fun m p => fewests_l2 N m p.1.1 p.1.2.2.2.2.1 p.1.2.2.2.2.2.1 p.2.1.1.2.1 p.2.2.1.1 p.2.2.2.1.1) [fewests_l2_e0] (fun m => [fewests_j1_k N (fewests_l2 N m)]) (fun k e => k (.inl ((e.1, (), (), (), e.2.1, ()), ((((), (e.2.2.1, ())), ()), (e.2.2.2.1, ()), (e.2.2.2.2, ()), ())))) N (fun m p => by kernel_rfl)
noncomputable def fewests_l1_L (N : Nat) {top : Bool} : LpQ fewests_B top := mkL (Z := Qa × List Int) (fewests_sp N) [fewests_l2_L N] [.c [1, 1, 0, 1, 0, 0, 0, 0], .c [1, 1, 0, 1, 0, 0, 0, 1], .c [1, 1, 0, 1, 0, 0, 1], .l [1, 1, 0, 1, 0, 0], .b 0, .c [1, 1, 1]] ⟨[1, 2, 6, 7, 8], ⟨[.fe Qb, .own 0 0, .own 1 0, .own 2 0, .i .i64], [.segs [.fn 107 [] [.fe Qo]], .segs [.arr (.int .i64) 13], .segs [.arr (.int .i64) 13]]⟩⟩ (fun m p => fewests_l1 N m p.1.1 p.1.2.2.2.2.1 p.2.1.1.2.1 p.2.2.1.1 p.2.2.2.1.1) [⟨[.c [1, 1, 1, 0, 0], .c [1, 1, 1, 0, 1], .c [1, 1, 1, 1]], ⟨[1, 7], ⟨[.fe Qb, .own 0 0], [.segs [.arr (.int .i64) 13]]⟩⟩, fun p => some ((p.1.1, p.2.1.1))⟩] (fun _ => []) (fun k e => k (.inl ((e.1, (), ()), ((e.2, ()), ())))) N (fun m p => by kernel_rfl)
noncomputable def fewests_l3_L (N : Nat) {top : Bool} : LpQ fewests_B top := mkL (Z := List Int) (fewests_sp N) [fewests_l2_L N, fewests_l1_L N] [.c [1, 1, 1, 1, 1, 0, 1, 0, 0, 0, 0], .c [1, 1, 1, 1, 1, 0, 1, 0, 0, 0, 1], .c [1, 1, 1, 1, 1, 0, 1, 0, 0, 1], .l [1, 1, 1, 1, 1, 0, 1, 0, 0], .b 4, .c [1, 1, 1, 1, 1, 1]] ⟨[1, 7, 10, 11], ⟨[.fe Qb, .own 0 0, .ols 1, .i .i64], [.segs [.arr (.int .i64) 13], .lst (.int .i64)]⟩⟩ (fun m p => fewests_l3 N m p.1.1 p.1.2.2.2.1 p.2.1.1 p.2.2.1) [⟨[.c [1, 1, 1, 1, 1, 1, 0], .c [1, 1, 1, 1, 1, 1, 1]], ⟨[10], ⟨[.ols 0], [.lst (.int .i64)]⟩⟩, fun p => some (p.2.1)⟩] (fun _ => []) (fun k e => k (.inl (((), ()), (e, ())))) N (fun m p => by kernel_rfl)
noncomputable def sp_fewests (N : Nat) : Spec := mkS 59 ⟨[.agg [.fn 107 [] [.fe Qo]], .fe Qb], []⟩ fewests_o (fun p => fewests_S N p.1.1.1.2.1 p.1.2.1) (fun k r => k ((r.1, r.2, ()), ()))
theorem sp_fewests_ok (N : Nat) : SpecOK Tryz.prog (sp_fewests N) := mkF (R := List Int × Bool) (m0 := 0) (fewests_sp N) [fewests_l2_L N, fewests_l1_L N, fewests_l3_L N] (fun r => some (r.1.1, r.1.2.1)) [] Tryz.func59 (fun p => by kernel_rfl) (by kernel_rfl) (fun _ => by kernel_rfl)

def surest_S (N : Nat) (t : List Qe) (t2 : List Qf) (t3 : Int) : Option (List Int × Int) :=
 ((opened_S N t t2 t3).bind fun e => match e with
 | .inl (x_1, y_2) =>
  (br (!decide (y_2 = 0))
   (some ([], y_2))
   ((fewests_S N x_1 x_1).bind fun (x_3, y_4) =>
   br (!y_4)
    (some ([], 6))
    (some (x_3, 0))))
 | .inr x_5 =>
  (br (!decide (x_5 = 0))
   (some ([], x_5))
   (none)))
noncomputable def sp_surest (N : Nat) : Spec := mkS 51 ⟨[.agg [.sl Qd, .sl Qc, .i .i64]], []⟩ [⟨[.sl (.int .i64), .i .i64], []⟩] (fun p => surest_S N p.1.1.1 p.1.1.2.1 p.1.1.2.2.1) (fun k r => k ((r.1, r.2, ()), ()))
theorem sp_surest_ok (N : Nat) : SpecOK Tryz.prog (sp_surest N) := mkF (R := List Int × Int) (m0 := 0) [⟨_, sp_opened_ok N⟩, ⟨_, sp_fewests_ok N⟩] [] (fun r => some (r.1.1, r.1.2.1)) [] Tryz.func51 (fun p => by kernel_rfl) (by kernel_rfl) (fun _ => by kernel_rfl)

def equali_l1 (N : Nat) : Nat → Qg → Qg → Int → Int → Option ((Unit) ⊕ (Unit))
 | 0, _, _, _, _ => none
 | n_ + 1, s1, s2, u, u2 =>
  br (decide (u2 < u))
   (idx s1 u2 fun x_1 =>
   idx s2 u2 fun x_2 =>
   br (!decide (x_1 = x_2))
    (some (.inl ()))
    (chk (u2 + 1) <|
    equali_l1 N n_ s1 s2 u (u2 + 1)))
   (some (.inr ()))
def equali_S (N : Nat) (s1 s2 : List Int) : Option Bool :=
 br (!decide ((s1.length : Int) = (s2.length : Int)))
  (some false)
  ((equali_l1 N N s1 s2 (s1.length : Int) 0).bind fun e => match e with
  | .inl _ =>
   some false
  | .inr _ =>
   some true)
noncomputable def equali_sp (N : Nat) : Oks := []
abbrev equali_o : List StSh := [⟨[.b], []⟩]
noncomputable abbrev equali_B : Body := mkB Tryz.f80 equali_o 0
noncomputable def equali_l1_L (N : Nat) {top : Bool} : LpQ equali_B top := mkL (Z := (Unit) ⊕ (Unit)) (equali_sp N) [] [.c [1, 1, 0, 1, 0, 0, 0], .c [1, 1, 0, 1, 0, 0, 1], .l [1, 1, 0, 1, 0, 0], .b 0, .c [1, 1, 1]] ⟨[0, 1, 12, 13], ⟨[.sl (.int .i64), .sl (.int .i64), .i .i64, .i .i64], []⟩⟩ (fun m p => equali_l1 N m p.1.1 p.1.2.1 p.1.2.2.1 p.1.2.2.2.1) [⟨[.c [1, 1, 0, 1, 0, 0, 1, 1, 0, 0, 1, 1, 0, 0], .c [1, 1, 0, 1, 0, 0, 1, 1, 0, 0, 1, 1, 0, 1], .b 1, .c [1, 1, 0, 1, 0, 0, 1, 1, 1], .l [1, 1, 0, 1, 0, 0], .b 0, .c [1, 1, 1]], ⟨[], ⟨[], []⟩⟩, fun p => some (.inl ())⟩, ⟨[.c [1, 1, 1, 0], .c [1, 1, 1, 1]], ⟨[], ⟨[], []⟩⟩, fun p => some (.inr ())⟩] (fun _ => []) (fun k e => match e with | .inl x => k (.inl ((), ())) | .inr x => k (.inr (.inl ((), ())))) N (fun m p => by kernel_rfl) (hg := (by rintro _ _ (_ | _) <;> rfl))
noncomputable def sp_equali (N : Nat) : Spec := mkS 80 ⟨[.sl (.int .i64), .sl (.int .i64)], []⟩ equali_o (fun p => equali_S N p.1.1 p.1.2.1) (fun k r => k ((r, ()), ()))
theorem sp_equali_ok (N : Nat) : SpecOK Tryz.prog (sp_equali N) := mkF (R := Bool) (m0 := 0) (equali_sp N) [equali_l1_L N] (fun r => some r.1.1) [] Tryz.func80 (fun p => by kernel_rfl) (by kernel_rfl) (fun _ => by kernel_rfl)

def likei_S (N : Nat) (a b : List Int) : Option Bool :=
 (equali_S N a b).bind fun x_1 =>
 some x_1
noncomputable def sp_likei (N : Nat) : Spec := mkS 25 ⟨[.sl (.int .i64), .sl (.int .i64)], []⟩ [⟨[.b], []⟩] (fun p => likei_S N p.1.1 p.1.2.1) (fun k r => k ((r, ()), ()))
theorem sp_likei_ok (N : Nat) : SpecOK Tryz.prog (sp_likei N) := mkF (R := Bool) (m0 := 0) [⟨_, sp_equali_ok N⟩] [] (fun r => some r.1.1) [] Tryz.func25 (fun p => by kernel_rfl) (by kernel_rfl) (fun _ => by kernel_rfl)

def equalw_l1 (N : Nat) : Nat → Qh → Qh → Int → Int → Option ((Unit) ⊕ (Unit))
 | 0, _, _, _, _ => none
 | n_ + 1, s1, s2, u, u2 =>
  br (decide (u2 < u))
   (idx s1 u2 fun x_1 =>
   idx s2 u2 fun x_2 =>
   br (!(decide (x_1.1 = x_2.1) && (decide (x_1.2.1 = x_2.2.1) && (x_1.2.2 == x_2.2.2))))
    (some (.inl ()))
    (chk (u2 + 1) <|
    equalw_l1 N n_ s1 s2 u (u2 + 1)))
   (some (.inr ()))
def equalw_S (N : Nat) (s1 s2 : List Qe) : Option Bool :=
 br (!decide ((s1.length : Int) = (s2.length : Int)))
  (some false)
  ((equalw_l1 N N s1 s2 (s1.length : Int) 0).bind fun e => match e with
  | .inl _ =>
   some false
  | .inr _ =>
   some true)
noncomputable def equalw_sp (N : Nat) : Oks := []
abbrev equalw_o : List StSh := [⟨[.b], []⟩]
noncomputable abbrev equalw_B : Body := mkB Tryz.f118 equalw_o 0
noncomputable def equalw_l1_L (N : Nat) {top : Bool} : LpQ equalw_B top := mkL (Z := (Unit) ⊕ (Unit)) (equalw_sp N) [] [.c [1, 1, 0, 1, 0, 0, 0], .c [1, 1, 0, 1, 0, 0, 1], .l [1, 1, 0, 1, 0, 0], .b 0, .c [1, 1, 1]] ⟨[0, 1, 12, 13], ⟨[.sl Qd, .sl Qd, .i .i64, .i .i64], []⟩⟩ (fun m p => equalw_l1 N m p.1.1 p.1.2.1 p.1.2.2.1 p.1.2.2.2.1) [⟨[.c [1, 1, 0, 1, 0, 0, 1, 1, 0, 0, 1, 1, 0, 0], .c [1, 1, 0, 1, 0, 0, 1, 1, 0, 0, 1, 1, 0, 1], .b 1, .c [1, 1, 0, 1, 0, 0, 1, 1, 1], .l [1, 1, 0, 1, 0, 0], .b 0, .c [1, 1, 1]], ⟨[], ⟨[], []⟩⟩, fun p => some (.inl ())⟩, ⟨[.c [1, 1, 1, 0], .c [1, 1, 1, 1]], ⟨[], ⟨[], []⟩⟩, fun p => some (.inr ())⟩] (fun _ => []) (fun k e => match e with | .inl x => k (.inl ((), ())) | .inr x => k (.inr (.inl ((), ())))) N (fun m p => by kernel_rfl) (hg := (by rintro _ _ (_ | _) <;> rfl))
noncomputable def sp_equalw (N : Nat) : Spec := mkS 118 ⟨[.sl Qd, .sl Qd], []⟩ equalw_o (fun p => equalw_S N p.1.1 p.1.2.1) (fun k r => k ((r, ()), ()))
theorem sp_equalw_ok (N : Nat) : SpecOK Tryz.prog (sp_equalw N) := mkF (R := Bool) (m0 := 0) (equalw_sp N) [equalw_l1_L N] (fun r => some r.1.1) [] Tryz.func118 (fun p => by kernel_rfl) (by kernel_rfl) (fun _ => by kernel_rfl)

def likew_S (N : Nat) (a b : List Qe) : Option Bool :=
 (equalw_S N a b).bind fun x_1 =>
 some x_1
noncomputable def sp_likew (N : Nat) : Spec := mkS 84 ⟨[.sl Qd, .sl Qd], []⟩ [⟨[.b], []⟩] (fun p => likew_S N p.1.1 p.1.2.1) (fun k r => k ((r, ()), ()))
theorem sp_likew_ok (N : Nat) : SpecOK Tryz.prog (sp_likew N) := mkF (R := Bool) (m0 := 0) [⟨_, sp_equalw_ok N⟩] [] (fun r => some r.1.1) [] Tryz.func84 (fun p => by kernel_rfl) (by kernel_rfl) (fun _ => by kernel_rfl)

def equalt_l1 (N : Nat) : Nat → Qi → Qi → Int → Int → Option ((Unit) ⊕ (Unit))
 | 0, _, _, _, _ => none
 | n_ + 1, s1, s2, u, u2 =>
  br (decide (u2 < u))
   (idx s1 u2 fun x_1 =>
   idx s2 u2 fun x_2 =>
   br (!(decide (x_1.1 = x_2.1) && (decide (x_1.2.1 = x_2.2.1) && decide (x_1.2.2 = x_2.2.2))))
    (some (.inl ()))
    (chk (u2 + 1) <|
    equalt_l1 N n_ s1 s2 u (u2 + 1)))
   (some (.inr ()))
def equalt_S (N : Nat) (s1 s2 : List Qf) : Option Bool :=
 br (!decide ((s1.length : Int) = (s2.length : Int)))
  (some false)
  ((equalt_l1 N N s1 s2 (s1.length : Int) 0).bind fun e => match e with
  | .inl _ =>
   some false
  | .inr _ =>
   some true)
noncomputable def equalt_sp (N : Nat) : Oks := []
abbrev equalt_o : List StSh := [⟨[.b], []⟩]
noncomputable abbrev equalt_B : Body := mkB Tryz.f119 equalt_o 0
noncomputable def equalt_l1_L (N : Nat) {top : Bool} : LpQ equalt_B top := mkL (Z := (Unit) ⊕ (Unit)) (equalt_sp N) [] [.c [1, 1, 0, 1, 0, 0, 0], .c [1, 1, 0, 1, 0, 0, 1], .l [1, 1, 0, 1, 0, 0], .b 0, .c [1, 1, 1]] ⟨[0, 1, 12, 13], ⟨[.sl Qc, .sl Qc, .i .i64, .i .i64], []⟩⟩ (fun m p => equalt_l1 N m p.1.1 p.1.2.1 p.1.2.2.1 p.1.2.2.2.1) [⟨[.c [1, 1, 0, 1, 0, 0, 1, 1, 0, 0, 1, 1, 0, 0], .c [1, 1, 0, 1, 0, 0, 1, 1, 0, 0, 1, 1, 0, 1], .b 1, .c [1, 1, 0, 1, 0, 0, 1, 1, 1], .l [1, 1, 0, 1, 0, 0], .b 0, .c [1, 1, 1]], ⟨[], ⟨[], []⟩⟩, fun p => some (.inl ())⟩, ⟨[.c [1, 1, 1, 0], .c [1, 1, 1, 1]], ⟨[], ⟨[], []⟩⟩, fun p => some (.inr ())⟩] (fun _ => []) (fun k e => match e with | .inl x => k (.inl ((), ())) | .inr x => k (.inr (.inl ((), ())))) N (fun m p => by kernel_rfl) (hg := (by rintro _ _ (_ | _) <;> rfl))
noncomputable def sp_equalt (N : Nat) : Spec := mkS 119 ⟨[.sl Qc, .sl Qc], []⟩ equalt_o (fun p => equalt_S N p.1.1 p.1.2.1) (fun k r => k ((r, ()), ()))
theorem sp_equalt_ok (N : Nat) : SpecOK Tryz.prog (sp_equalt N) := mkF (R := Bool) (m0 := 0) (equalt_sp N) [equalt_l1_L N] (fun r => some r.1.1) [] Tryz.func119 (fun p => by kernel_rfl) (by kernel_rfl) (fun _ => by kernel_rfl)

def liket_S (N : Nat) (a b : List Qf) : Option Bool :=
 (equalt_S N a b).bind fun x_1 =>
 some x_1
noncomputable def sp_liket (N : Nat) : Spec := mkS 85 ⟨[.sl Qc, .sl Qc], []⟩ [⟨[.b], []⟩] (fun p => liket_S N p.1.1 p.1.2.1) (fun k r => k ((r, ()), ()))
theorem sp_liket_ok (N : Nat) : SpecOK Tryz.prog (sp_liket N) := mkF (R := Bool) (m0 := 0) [⟨_, sp_equalt_ok N⟩] [] (fun r => some r.1.1) [] Tryz.func85 (fun p => by kernel_rfl) (by kernel_rfl) (fun _ => by kernel_rfl)

def word__S (N : Nat) (weight : Int) (stop : Bool) : Option (Int × Int × Bool) :=
 some (1, weight, stop)
noncomputable def sp_word_ (N : Nat) : Spec := mkS 15 ⟨[.i .i64, .b], []⟩ [⟨[.agg [.i .i64, .i .i64, .b]], []⟩] (fun p => word__S N p.1.1 p.1.2.1) (fun k r => k (((r.1, r.2.1, r.2.2, ()), ()), ()))
theorem sp_word__ok (N : Nat) : SpecOK Tryz.prog (sp_word_ N) := mkF (R := Int × Int × Bool) (m0 := 0) [] [] (fun r => some (r.1.1.1, r.1.1.2.1, r.1.1.2.2.1)) [] Tryz.func15 (fun p => by kernel_rfl) (by kernel_rfl) (fun _ => by kernel_rfl)

def gate_S (N : Nat) (last : Int) : Option (Qh × Qi × Int) :=
 (word__S N 0 false).bind fun (x_1, y_2, y_3) =>
 (word__S N 4 true).bind fun (x_4, y_5, y_6) =>
 (word__S N 0 false).bind fun (x_7, y_8, y_9) =>
 (word__S N 3 true).bind fun (x_10, y_11, y_12) =>
 (word__S N 3 false).bind fun (x_13, y_14, y_15) =>
 (word__S N 3 true).bind fun (x_16, y_17, y_18) =>
 (word__S N 0 false).bind fun (x_19, y_20, y_21) =>
 (word__S N 2 true).bind fun (x_22, y_23, y_24) =>
 some ([(x_1, y_2, y_3), (x_4, y_5, y_6), (x_7, y_8, y_9), (x_10, y_11, y_12), (x_13, y_14, y_15), (x_16, y_17, y_18), (x_19, y_20, y_21), (x_22, y_23, y_24)], [(3, 4, last)], 5)
noncomputable def sp_gate (N : Nat) : Spec := mkS 4 ⟨[.i .i64], []⟩ [⟨[.agg [.sl Qd, .sl Qc, .i .i64]], []⟩] (fun p => gate_S N p.1.1) (fun k r => k (((r.1, r.2.1, r.2.2, ()), ()), ()))
theorem sp_gate_ok (N : Nat) : SpecOK Tryz.prog (sp_gate N) := mkF (R := Qh × Qi × Int) (m0 := 0) [⟨_, sp_word__ok N⟩] [] (fun r => some (r.1.1.1, r.1.1.2.1, r.1.1.2.2.1)) [] Tryz.func4 (fun p => by kernel_rfl) (by kernel_rfl) (fun _ => by kernel_rfl)

def awake_S (N : Nat)  : Option Bool :=
 (gate_S N 5).bind fun (x_1, y_2, y_3) =>
 (fewest_S N x_1 y_2 y_3).bind fun (x_4, y_5) =>
 (gate_S N 5).bind fun (x_6, y_7, y_8) =>
 (count_S N x_6 y_7 y_8).bind fun (x_9, y_10) =>
 (gate_S N 5).bind fun (x_11, y_12, y_13) =>
 (never_S N x_11 y_12 y_13).bind fun (x_14, y_15) =>
 (gate_S N 5).bind fun (x_16, y_17, y_18) =>
 (least_S N x_16 y_17 y_18 7).bind fun (x_19, y_20) =>
 br (!decide (y_5 = 0))
  (some false)
  (br (!decide (y_10 = 0))
   (some false)
   (br (!decide (y_15 = 0))
    (some false)
    (br (!decide (y_20 = 0))
     (some false)
     ((likei_S N x_4 [2, 4, 2]).bind fun x_21 =>
     br (!x_21)
      (some false)
      (br (!decide (x_9 = 1))
       (some false)
       ((likei_S N x_14 [1, 3, 4, 5, 7]).bind fun x_22 =>
       br (!x_22)
        (some false)
        ((likei_S N x_19 [1, 3]).bind fun x_23 =>
        br (!x_23)
         (some false)
         ((gate_S N 5).bind fun (x_24, y_25, y_26) =>
         (lwrong_S N x_24 y_25 y_26 [4, 4]).bind fun (x_27, y_28, y_29) =>
         (gate_S N 7).bind fun (x_30, y_31, y_32) =>
         (astray_S N x_30 y_31 y_32 [4, 2, 2]).bind fun (x_33, y_34, y_35, y_36) =>
         (gate_S N 5).bind fun (x_37, y_38, y_39) =>
         (shows_S N x_37 y_38 y_39 [0, 1, 1, 1, 1, 1, 2, 2, 3]).bind fun (x_40, y_41) =>
         (gate_S N 5).bind fun (x_42, y_43, y_44) =>
         (astray_S N x_42 y_43 y_44 [2, 4, 2]).bind fun (x_45, y_46, y_47, y_48) =>
         br (decide (y_29 = 0))
          (br (decide (y_36 = 0))
           (br (decide (y_41 = 0))
            (br (decide (y_48 = 6))
             (br (decide (x_27 = 1))
              (br (decide (y_28 = 2))
               (br (decide (x_33 = 0))
                (br (decide (y_34 = 1) && decide (y_35 = 2))
                 (some (decide (x_40 = 3)))
                 (some false))
                (some false))
               (some false))
              (some false))
             (some false))
            (some false))
           (some false))
          (some false)))))))))
noncomputable def sp_awake (N : Nat) : Spec := mkS 17 ⟨[], []⟩ [⟨[.b], []⟩] (fun p => awake_S N) (fun k r => k ((r, ()), ()))
theorem sp_awake_ok (N : Nat) : SpecOK Tryz.prog (sp_awake N) := mkF (R := Bool) (m0 := 0) [⟨_, sp_lwrong_ok N⟩, ⟨_, sp_astray_ok N⟩, ⟨_, sp_fewest_ok N⟩, ⟨_, sp_count_ok N⟩, ⟨_, sp_never_ok N⟩, ⟨_, sp_shows_ok N⟩, ⟨_, sp_least_ok N⟩, ⟨_, sp_likei_ok N⟩, ⟨_, sp_gate_ok N⟩] [] (fun r => some r.1.1) [] Tryz.func17 (fun p => by kernel_rfl) (by kernel_rfl) (fun _ => by kernel_rfl)

end Go.Proofs.YtfamlpbdhhikdaaGreat

namespace Go.Proofs.YtfamlpbdhhikdaaGreat
set_option linter.all false
open Go

def copyi_S (N : Nat) (l : List Int) : Option Qg :=
 grd (lmI (l.length : Int)) <|
 some (l.take (min l.length (List.replicate (l.length : Int).toNat (0 : Int)).length) ++ (List.replicate (l.length : Int).toNat (0 : Int)).drop (min l.length (List.replicate (l.length : Int).toNat (0 : Int)).length))
noncomputable def sp_copyi (N : Nat) : Spec := mkS 21 ⟨[.sl (.int .i64)], []⟩ [⟨[.sl (.int .i64)], []⟩] (fun p => copyi_S N p.1.1) (fun k r => k ((r, ()), ()))
theorem sp_copyi_ok (N : Nat) : SpecOK Tryz.prog (sp_copyi N) := mkF (R := List Int) (m0 := 0) [] [] (fun r => some r.1.1) [] Tryz.func21 (fun p => by kernel_rfl) (by kernel_rfl) (fun _ => by kernel_rfl)

def copyw_S (N : Nat) (l : List Qe) : Option Qh :=
 grd (lmI (l.length : Int)) <|
 some (l.take (min l.length (List.replicate (l.length : Int).toNat ((0, (0, false)) : Qe)).length) ++ (List.replicate (l.length : Int).toNat ((0, (0, false)) : Qe)).drop (min l.length (List.replicate (l.length : Int).toNat ((0, (0, false)) : Qe)).length))
noncomputable def sp_copyw (N : Nat) : Spec := mkS 74 ⟨[.sl Qd], []⟩ [⟨[.sl Qd], []⟩] (fun p => copyw_S N p.1.1) (fun k r => k ((r, ()), ()))
theorem sp_copyw_ok (N : Nat) : SpecOK Tryz.prog (sp_copyw N) := mkF (R := Qh) (m0 := 0) [] [] (fun r => some r.1.1) [] Tryz.func74 (fun p => by kernel_rfl) (by kernel_rfl) (fun _ => by kernel_rfl)

def copyt_S (N : Nat) (l : List Qf) : Option Qi :=
 grd (lmI (l.length : Int)) <|
 some (l.take (min l.length (List.replicate (l.length : Int).toNat ((0, (0, 0)) : Qf)).length) ++ (List.replicate (l.length : Int).toNat ((0, (0, 0)) : Qf)).drop (min l.length (List.replicate (l.length : Int).toNat ((0, (0, 0)) : Qf)).length))
noncomputable def sp_copyt (N : Nat) : Spec := mkS 75 ⟨[.sl Qc], []⟩ [⟨[.sl Qc], []⟩] (fun p => copyt_S N p.1.1) (fun k r => k ((r, ()), ()))
theorem sp_copyt_ok (N : Nat) : SpecOK Tryz.prog (sp_copyt N) := mkF (R := Qi) (m0 := 0) [] [] (fun r => some r.1.1) [] Tryz.func75 (fun p => by kernel_rfl) (by kernel_rfl) (fun _ => by kernel_rfl)

def copyx_S (N : Nat) (t : List Qe) (t2 : List Qf) (t3 : Int) : Option (Qh × Qi × Int) :=
 (copyw_S N t).bind fun x_1 =>
 (copyt_S N t2).bind fun x_2 =>
 some (x_1, x_2, t3)
noncomputable def sp_copyx (N : Nat) : Spec := mkS 19 ⟨[.agg [.sl Qd, .sl Qc, .i .i64]], []⟩ [⟨[.agg [.sl Qd, .sl Qc, .i .i64]], []⟩] (fun p => copyx_S N p.1.1.1 p.1.1.2.1 p.1.1.2.2.1) (fun k r => k (((r.1, r.2.1, r.2.2, ()), ()), ()))
theorem sp_copyx_ok (N : Nat) : SpecOK Tryz.prog (sp_copyx N) := mkF (R := Qh × Qi × Int) (m0 := 0) [⟨_, sp_copyw_ok N⟩, ⟨_, sp_copyt_ok N⟩] [] (fun r => some (r.1.1.1, r.1.1.2.1, r.1.1.2.2.1)) [] Tryz.func19 (fun p => by kernel_rfl) (by kernel_rfl) (fun _ => by kernel_rfl)

def same_S (N : Nat) (a : List Qe) (a2 : List Qf) (a3 : Int) (b : List Qe) (b2 : List Qf) (b3 : Int) : Option Bool :=
 (likew_S N a b).bind fun x_1 =>
 br x_1
  ((liket_S N a2 b2).bind fun x_2 =>
  br x_2
   (some (decide (a3 = b3)))
   (some false))
  (some false)
noncomputable def sp_same (N : Nat) : Spec := mkS 28 ⟨[.agg [.sl Qd, .sl Qc, .i .i64], .agg [.sl Qd, .sl Qc, .i .i64]], []⟩ [⟨[.b], []⟩] (fun p => same_S N p.1.1.1 p.1.1.2.1 p.1.1.2.2.1 p.1.2.1.1 p.1.2.1.2.1 p.1.2.1.2.2.1) (fun k r => k ((r, ()), ()))
theorem sp_same_ok (N : Nat) : SpecOK Tryz.prog (sp_same N) := mkF (R := Bool) (m0 := 0) [⟨_, sp_likew_ok N⟩, ⟨_, sp_liket_ok N⟩] [] (fun r => some r.1.1) [] Tryz.func28 (fun p => by kernel_rfl) (by kernel_rfl) (fun _ => by kernel_rfl)

def theirs_l1 (N : Nat) : Nat → Qh → Int → Int → Qh → Qi → Int → Int → Int → Qh → Option (Qh × Qi × Int × Int × Int × Qh)
 | 0, _, _, _, _, _, _, _, _, _ => none
 | n_ + 1, u, u2, u3, t, t2, t3, g, out, out2 =>
  br (decide (u3 < u2))
   (idx u u3 fun x_1 =>
   lim (out2.length + [(x_1.1, x_1.2.1, x_1.2.2)].length) <|
   chk (u3 + 1) <|
   theirs_l1 N n_ u u2 (u3 + 1) t t2 t3 g out (out2 ++ [(x_1.1, x_1.2.1, x_1.2.2)]))
   (some ((t, t2, t3, g, out, out2)))
def theirs_l2 (N : Nat) : Nat → Qi → Int → Int → Int → Int → Qh → Qi → Option Qu
 | 0, _, _, _, _, _, _, _ => none
 | n_ + 1, u, u2, u3, g, out, out2, out3 =>
  br (decide (u3 < u2))
   (idx u u3 fun x_8 =>
   lim (out3.length + [(x_8.1, x_8.2.1, x_8.2.2)].length) <|
   chk (u3 + 1) <|
   theirs_l2 N n_ u u2 (u3 + 1) g out out2 (out3 ++ [(x_8.1, x_8.2.1, x_8.2.2)]))
   (some ((g, out, out2, out3)))
def theirs_S (N : Nat) (t : List Qe) (t2 : List Qf) (t3 : Int) : Option (Qh × Qi × Int) :=
 (theirs_l1 N N t (t.length : Int) 0 t t2 t3 0 t3 []).bind fun (t_2, t2_3, t3_4, g_5, out_6, out2_7) =>
 (theirs_l2 N N t2_3 (t2_3.length : Int) 0 g_5 out_6 out2_7 []).bind fun (g_9, out_10, out2_11, out3_12) =>
 some (out2_11, out3_12, out_10)
noncomputable def theirs_sp (N : Nat) : Oks := []
abbrev theirs_o : List StSh := [⟨[.agg [.sl Qd, .sl Qc, .i .i64]], []⟩]
noncomputable abbrev theirs_B : Body := mkB Tryz.f20 theirs_o 0
noncomputable def theirs_l1_L (N : Nat) {top : Bool} : LpQ theirs_B top := mkL (Z := Qh × Qi × Int × Int × Int × Qh) (theirs_sp N) [] [.c [1, 1, 0, 1, 0, 0, 0], .c [1, 1, 0, 1, 0, 0, 1], .l [1, 1, 0, 1, 0, 0], .b 0, .c [1, 1, 1]] ⟨[1, 2, 3, 12, 13, 14], ⟨[.own 0 0, .own 1 0, .own 2 0, .sl Qd, .i .i64, .i .i64], [.segs [.sl Qd, .sl Qc, .i .i64], .segs [.nils, .nils, .i .i64], .segs [.ols 3, .nils, .i .i64], .lst Qd]⟩⟩ (fun m p => theirs_l1 N m p.1.2.2.2.1 p.1.2.2.2.2.1 p.1.2.2.2.2.2.1 p.2.1.1 p.2.1.2.1 p.2.1.2.2.1 p.2.2.1.2.2.1 p.2.2.2.1.2.2.1 p.2.2.2.2.1) [⟨[.c [1, 1, 1, 0, 0], .c [1, 1, 1, 0, 1], .c [1, 1, 1, 1]], ⟨[1, 2, 3], ⟨[.own 0 0, .own 1 0, .own 2 0], [.segs [.sl Qd, .sl Qc, .i .i64], .segs [.nils, .nils, .i .i64], .segs [.ols 3, .nils, .i .i64], .lst Qd]⟩⟩, fun p => some ((p.2.1.1, p.2.1.2.1, p.2.1.2.2.1, p.2.2.1.2.2.1, p.2.2.2.1.2.2.1, p.2.2.2.2.1))⟩] (fun _ => []) (fun k e => k (.inl (((), (), (), ()), ((e.1, e.2.1, e.2.2.1, ()), ((), (), e.2.2.2.1, ()), ((), (), e.2.2.2.2.1, ()), e.2.2.2.2.2, ())))) N (fun m p => by kernel_rfl)
noncomputable def theirs_l2_L (N : Nat) {top : Bool} : LpQ theirs_B top := mkL (Z := Int × Int × Qh × Qi) (theirs_sp N) [theirs_l1_L N] [.c [1, 1, 1, 0, 1, 0, 0, 0], .c [1, 1, 1, 0, 1, 0, 0, 1], .l [1, 1, 1, 0, 1, 0, 0], .b 2, .c [1, 1, 1, 1]] ⟨[2, 3, 26, 27, 28], ⟨[.own 0 0, .own 1 0, .sl Qc, .i .i64, .i .i64], [.segs [.nils, .nils, .i .i64], .segs [.ols 2, .ols 3, .i .i64], .lst Qd, .lst Qc]⟩⟩ (fun m p => theirs_l2 N m p.1.2.2.1 p.1.2.2.2.1 p.1.2.2.2.2.1 p.2.1.2.2.1 p.2.2.1.2.2.1 p.2.2.2.1 p.2.2.2.2.1) [⟨[.c [1, 1, 1, 1, 0], .c [1, 1, 1, 1, 1]], ⟨[2, 3], ⟨[.own 0 0, .own 1 0], [.segs [.nils, .nils, .i .i64], .segs [.ols 2, .ols 3, .i .i64], .lst Qd, .lst Qc]⟩⟩, fun p => some ((p.2.1.2.2.1, p.2.2.1.2.2.1, p.2.2.2.1, p.2.2.2.2.1))⟩] (fun _ => []) (fun k e => k (.inl (((), (), ()), (((), (), e.1, ()), ((), (), e.2.1, ()), e.2.2.1, e.2.2.2, ())))) N (fun m p => by kernel_rfl)
noncomputable def sp_theirs (N : Nat) : Spec := mkS 20 ⟨[.agg [.sl Qd, .sl Qc, .i .i64]], []⟩ theirs_o (fun p => theirs_S N p.1.1.1 p.1.1.2.1 p.1.1.2.2.1) (fun k r => k (((r.1, r.2.1, r.2.2, ()), ()), ()))
theorem sp_theirs_ok (N : Nat) : SpecOK Tryz.prog (sp_theirs N) := mkF (R := Qh × Qi × Int) (m0 := 0) (theirs_sp N) [theirs_l1_L N, theirs_l2_L N] (fun r => some (r.1.1.1, r.1.1.2.1, r.1.1.2.2.1)) [] Tryz.func20 (fun p => by kernel_rfl) (by kernel_rfl) (fun _ => by kernel_rfl)

def great_S (N : Nat) (t : List Qe) (t2 : List Qf) (t3 words : Int) : Option Bool :=
 br (decide (20 < (t.length : Int)))
  (some true)
  (br (decide (20 < (t2.length : Int)))
   (some true)
   (br (decide (words < (t.length : Int)))
    (some (decide ((t.length : Int) ≤ 12)))
    (some false)))
noncomputable def sp_great (N : Nat) : Spec := mkS 18 ⟨[.agg [.sl Qd, .sl Qc, .i .i64], .i .i64], []⟩ [⟨[.b], []⟩] (fun p => great_S N p.1.1.1 p.1.1.2.1 p.1.1.2.2.1 p.1.2.1) (fun k r => k ((r, ()), ()))
theorem sp_great_ok (N : Nat) : SpecOK Tryz.prog (sp_great N) := mkF (R := Bool) (m0 := 0) [] [] (fun r => some r.1.1) [] Tryz.func18 (fun p => by kernel_rfl) (by kernel_rfl) (fun _ => by kernel_rfl)

def off_S (N : Nat) (n lo hi : Int) : Option Bool :=
 br (decide (n < lo))
  (some true)
  (some (decide (hi < n)))
noncomputable def sp_off (N : Nat) : Spec := mkS 76 ⟨[.i .i64, .i .i64, .i .i64], []⟩ [⟨[.b], []⟩] (fun p => off_S N p.1.1 p.1.2.1 p.1.2.2.1) (fun k r => k ((r, ()), ()))
theorem sp_off_ok (N : Nat) : SpecOK Tryz.prog (sp_off N) := mkF (R := Bool) (m0 := 0) [] [] (fun r => some r.1.1) [] Tryz.func76 (fun p => by kernel_rfl) (by kernel_rfl) (fun _ => by kernel_rfl)

def rcheck_l1 (N : Nat) : Nat → Int → Int → Qh → Qi → Int → Option ((Unit) ⊕ (Int × Qh × Qi × Int))
 | 0, _, _, _, _, _ => none
 | n_ + 1, many, i, t, t2, t3 =>
  br (decide (i < many))
   (idx t i fun x_3 =>
   (off_S N x_3.1 1 9).bind fun x_4 =>
   br x_4
    (some (.inl ()))
    (idx t i fun x_5 =>
    (off_S N x_5.2.1 0 20).bind fun x_6 =>
    br x_6
     (some (.inl ()))
     (chk (i + 1) <|
     rcheck_l1 N n_ many (i + 1) t t2 t3)))
   (some (.inr (many, t, t2, t3)))
def rcheck_l2 (N : Nat) : Nat → Int → Int → Qh → Qi → Int → Option ((Unit) ⊕ (Qh × Qi × Int))
 | 0, _, _, _, _, _ => none
 | n_ + 1, many, i, t, t2, t3 =>
  br (decide (i < (t2.length : Int)))
   (idx t2 i fun x_11 =>
   chk (many - 1) <|
   (off_S N x_11.1 0 (many - 1)).bind fun x_12 =>
   br x_12
    (some (.inl ()))
    (idx t2 i fun x_13 =>
    chk (many - 1) <|
    (off_S N x_13.2.1 0 (many - 1)).bind fun x_14 =>
    br x_14
     (some (.inl ()))
     (idx t2 i fun x_15 =>
     chk (many - 1) <|
     (off_S N x_15.2.2 0 (many - 1)).bind fun x_16 =>
     br x_16
      (some (.inl ()))
      (chk (i + 1) <|
      rcheck_l2 N n_ many (i + 1) t t2 t3))))
   (some (.inr (t, t2, t3)))
def rcheck_l3 (N : Nat) : Nat → Int → Qh → Qi → Int → Option ((Unit) ⊕ (Qh × Qi × Int))
 | 0, _, _, _, _ => none
 | n_ + 1, i, t, t2, t3 =>
  br (decide (i < (t2.length : Int)))
   (idx t2 i fun x_20 =>
   idx t2 i fun x_21 =>
   br (decide (x_21.2.2 < x_20.2.1))
    (some (.inl ()))
    (chk (i + 1) <|
    rcheck_l3 N n_ (i + 1) t t2 t3))
   (some (.inr (t, t2, t3)))
def rcheck_l4 (N : Nat) : Nat → Int → Qh → Qi → Int → Option ((Unit) ⊕ (Unit))
 | 0, _, _, _, _ => none
 | n_ + 1, i, t, t2, t3 =>
  br (decide (i < (t2.length : Int)))
   (idx t2 i fun x_25 =>
   idx t2 i fun x_26 =>
   idx t2 i fun x_27 =>
   (off_S N x_25.1 x_26.2.1 x_27.2.2).bind fun x_28 =>
   br (!x_28)
    (some (.inl ()))
    (chk (i + 1) <|
    rcheck_l4 N n_ (i + 1) t t2 t3))
   (some (.inr ()))
def rcheck_S (N : Nat) (t : List Qe) (t2 : List Qf) (t3 : Int) : Option Int :=
 (off_S N (t.length : Int) 1 12).bind fun x_1 =>
 br x_1
  (some 2)
  (br (decide (6 < (t2.length : Int)))
   (some 2)
   ((off_S N t3 1 40).bind fun x_2 =>
   br x_2
    (some 3)
    ((rcheck_l1 N N (t.length : Int) 0 t t2 t3).bind fun e => match e with
    | .inl _ =>
     some 3
    | .inr (many_7, t_8, t2_9, t3_10) =>
     (rcheck_l2 N N many_7 0 t_8 t2_9 t3_10).bind fun e => match e with
     | .inl _ =>
      some 1
     | .inr (t_17, t2_18, t3_19) =>
      (rcheck_l3 N N 0 t_17 t2_18 t3_19).bind fun e => match e with
      | .inl _ =>
       some 4
      | .inr (t_22, t2_23, t3_24) =>
       (rcheck_l4 N N 0 t_22 t2_23 t3_24).bind fun e => match e with
       | .inl _ =>
        some 7
       | .inr _ =>
        some 0)))
noncomputable def rcheck_sp (N : Nat) : Oks := [⟨_, sp_off_ok N⟩]
abbrev rcheck_o : List StSh := [⟨[.i .i64], []⟩]
noncomputable abbrev rcheck_B : Body := mkB Tryz.f22 rcheck_o 0
noncomputable def rcheck_l1_L (N : Nat) {top : Bool} : LpQ rcheck_B top := mkL (Z := (Unit) ⊕ (Int × Qh × Qi × Int)) (rcheck_sp N) [] [.c [1, 1, 1, 1, 0, 1, 0, 0, 0, 0], .c [1, 1, 1, 1, 0, 1, 0, 0, 0, 1], .c [1, 1, 1, 1, 0, 1, 0, 0, 1], .l [1, 1, 1, 1, 0, 1, 0, 0], .b 0, .c [1, 1, 1, 1, 1]] ⟨[1, 3, 4], ⟨[.own 0 0, .i .i64, .i .i64], [.segs [.sl Qd, .sl Qc, .i .i64]]⟩⟩ (fun m p => rcheck_l1 N m p.1.2.1 p.1.2.2.1 p.2.1.1 p.2.1.2.1 p.2.1.2.2.1) [⟨[.c [1, 1, 1, 1, 0, 1, 0, 0, 1, 0, 0, 1, 0, 0], .c [1, 1, 1, 1, 0, 1, 0, 0, 1, 0, 0, 1, 0, 1], .b 1, .c [1, 1, 1, 1, 0, 1, 0, 0, 1, 1], .l [1, 1, 1, 1, 0, 1, 0, 0], .b 0, .c [1, 1, 1, 1, 1]], ⟨[], ⟨[], []⟩⟩, fun p => some (.inl ())⟩, ⟨[.c [1, 1, 1, 1, 1, 0, 0], .c [1, 1, 1, 1, 1, 0, 1], .c [1, 1, 1, 1, 1, 1]], ⟨[1, 3], ⟨[.own 0 0, .i .i64], [.segs [.sl Qd, .sl Qc, .i .i64]]⟩⟩, fun p => some (.inr (p.1.2.1, p.2.1.1, p.2.1.2.1, p.2.1.2.2.1))⟩] (fun _ => []) (fun k e => match e with | .inl x => k (.inl ((), ())) | .inr x => k (.inr (.inl (((), x.1, ()), ((x.2.1, x.2.2.1, x.2.2.2, ()), ()))))) N (fun m p => by kernel_rfl) (hg := (by rintro _ _ (_ | _) <;> rfl))
noncomputable def rcheck_l2_L (N : Nat) {top : Bool} : LpQ rcheck_B top := mkL (Z := (Unit) ⊕ (Qh × Qi × Int)) (rcheck_sp N) [rcheck_l1_L N] [.c [1, 1, 1, 1, 1, 0, 1, 0, 0, 0, 0], .c [1, 1, 1, 1, 1, 0, 1, 0, 0, 0, 1], .c [1, 1, 1, 1, 1, 0, 1, 0, 0, 1], .l [1, 1, 1, 1, 1, 0, 1, 0, 0], .b 2, .c [1, 1, 1, 1, 1, 1]] ⟨[1, 3, 5], ⟨[.own 0 0, .i .i64, .i .i64], [.segs [.sl Qd, .sl Qc, .i .i64]]⟩⟩ (fun m p => rcheck_l2 N m p.1.2.1 p.1.2.2.1 p.2.1.1 p.2.1.2.1 p.2.1.2.2.1) [⟨[.c [1, 1, 1, 1, 1, 0, 1, 0, 0, 1, 0, 0, 1, 0, 0], .c [1, 1, 1, 1, 1, 0, 1, 0, 0, 1, 0, 0, 1, 0, 1], .b 3, .c [1, 1, 1, 1, 1, 0, 1, 0, 0, 1, 1], .l [1, 1, 1, 1, 1, 0, 1, 0, 0], .b 2, .c [1, 1, 1, 1, 1, 1]], ⟨[], ⟨[], []⟩⟩, fun p => some (.inl ())⟩, ⟨[.c [1, 1, 1, 1, 1, 1, 0, 0], .c [1, 1, 1, 1, 1, 1, 0, 1], .c [1, 1, 1, 1, 1, 1, 1]], ⟨[1], ⟨[.own 0 0], [.segs [.sl Qd, .sl Qc, .i .i64]]⟩⟩, fun p => some (.inr (p.2.1.1, p.2.1.2.1, p.2.1.2.2.1))⟩] (fun _ => []) (fun k e => match e with | .inl x => k (.inl ((), ())) | .inr x => k (.inr (.inl (((), ()), ((x.1, x.2.1, x.2.2, ()), ()))))) N (fun m p => by kernel_rfl) (hg := (by rintro _ _ (_ | _) <;> rfl))
noncomputable def rcheck_l3_L (N : Nat) {top : Bool} : LpQ rcheck_B top := mkL (Z := (Unit) ⊕ (Qh × Qi × Int)) (rcheck_sp N) [rcheck_l1_L N, rcheck_l2_L N] [.c [1, 1, 1, 1, 1, 1, 0, 1, 0, 0, 0, 0], .c [1, 1, 1, 1, 1, 1, 0, 1, 0, 0, 0, 1], .c [1, 1, 1, 1, 1, 1, 0, 1, 0, 0, 1], .l [1, 1, 1, 1, 1, 1, 0, 1, 0, 0], .b 4, .c [1, 1, 1, 1, 1, 1, 1]] ⟨[1, 6], ⟨[.own 0 0, .i .i64], [.segs [.sl Qd, .sl Qc, .i .i64]]⟩⟩ (fun m p => rcheck_l3 N m p.1.2.1 p.2.1.1 p.2.1.2.1 p.2.1.2.2.1) [⟨[.c [1, 1, 1, 1, 1, 1, 0, 1, 0, 0, 1, 0, 0, 1, 0, 0], .c [1, 1, 1, 1, 1, 1, 0, 1, 0, 0, 1, 0, 0, 1, 0, 1], .b 5, .c [1, 1, 1, 1, 1, 1, 0, 1, 0, 0, 1, 1], .l [1, 1, 1, 1, 1, 1, 0, 1, 0, 0], .b 4, .c [1, 1, 1, 1, 1, 1, 1]], ⟨[], ⟨[], []⟩⟩, fun p => some (.inl ())⟩, ⟨[.c [1, 1, 1, 1, 1, 1, 1, 0, 0], .c [1, 1, 1, 1, 1, 1, 1, 0, 1], .c [1, 1, 1, 1, 1, 1, 1, 1]], ⟨[1], ⟨[.own 0 0], [.segs [.sl Qd, .sl Qc, .i .i64]]⟩⟩, fun p => some (.inr (p.2.1.1, p.2.1.2.1, p.2.1.2.2.1))⟩] (fun _ => []) (fun k e => match e with | .inl x => k (.inl ((), ())) | .inr x => k (.inr (.inl (((), ()), ((x.1, x.2.1, x.2.2, ()), ()))))) N (fun m p => by kernel_rfl) (hg := (by rintro _ _ (_ | _) <;> rfl))
noncomputable def rcheck_l4_L (N : Nat) {top : Bool} : LpQ rcheck_B top := mkL (Z := (Unit) ⊕ (Unit)) (rcheck_sp N) [rcheck_l1_L N, rcheck_l2_L N, rcheck_l3_L N] [.c [1, 1, 1, 1, 1, 1, 1, 0, 1, 0, 0, 0, 0], .c [1, 1, 1, 1, 1, 1, 1, 0, 1, 0, 0, 0, 1], .c [1, 1, 1, 1, 1, 1, 1, 0, 1, 0, 0, 1], .l [1, 1, 1, 1, 1, 1, 1, 0, 1, 0, 0], .b 6, .c [1, 1, 1, 1, 1, 1, 1, 1]] ⟨[1, 7], ⟨[.own 0 0, .i .i64], [.segs [.sl Qd, .sl Qc, .i .i64]]⟩⟩ (fun m p => rcheck_l4 N m p.1.2.1 p.2.1.1 p.2.1.2.1 p.2.1.2.2.1) [⟨[.c [1, 1, 1, 1, 1, 1, 1, 0, 1, 0, 0, 1, 0, 0, 1, 0, 0], .c [1, 1, 1, 1, 1, 1, 1, 0, 1, 0, 0, 1, 0, 0, 1, 0, 1], .b 7, .c [1, 1, 1, 1, 1, 1, 1, 0, 1, 0, 0, 1, 1], .l [1, 1, 1, 1, 1, 1, 1, 0, 1, 0, 0], .b 6, .c [1, 1, 1, 1, 1, 1, 1, 1]], ⟨[], ⟨[], []⟩⟩, fun p => some (.inl ())⟩, ⟨[.c [1, 1, 1, 1, 1, 1, 1, 1, 0], .c [1, 1, 1, 1, 1, 1, 1, 1, 1]], ⟨[], ⟨[], []⟩⟩, fun p => some (.inr ())⟩] (fun _ => []) (fun k e => match e with | .inl x => k (.inl ((), ())) | .inr x => k (.inr (.inl ((), ())))) N (fun m p => by kernel_rfl) (hg := (by rintro _ _ (_ | _) <;> rfl))
noncomputable def sp_rcheck (N : Nat) : Spec := mkS 22 ⟨[.agg [.sl Qd, .sl Qc, .i .i64]], []⟩ rcheck_o (fun p => rcheck_S N p.1.1.1 p.1.1.2.1 p.1.1.2.2.1) (fun k r => k ((r, ()), ()))
theorem sp_rcheck_ok (N : Nat) : SpecOK Tryz.prog (sp_rcheck N) := mkF (R := Int) (m0 := 0) (rcheck_sp N) [rcheck_l1_L N, rcheck_l2_L N, rcheck_l3_L N, rcheck_l4_L N] (fun r => some r.1.1) [] Tryz.func22 (fun p => by kernel_rfl) (by kernel_rfl) (fun _ => by kernel_rfl)

def has_l1 (N : Nat) : Nat → Qg → Int → Int → Option ((Unit) ⊕ (Unit))
 | 0, _, _, _ => none
 | n_ + 1, l, n, i =>
  br (decide (i < (l.length : Int)))
   (idx l i fun x_1 =>
   br (decide (x_1 = n))
    (some (.inl ()))
    (chk (i + 1) <|
    has_l1 N n_ l n (i + 1)))
   (some (.inr ()))
def has_S (N : Nat) (l : List Int) (n : Int) : Option Bool :=
 (has_l1 N N l n 0).bind fun e => match e with
 | .inl _ =>
  some true
 | .inr _ =>
  some false
noncomputable def has_sp (N : Nat) : Oks := []
abbrev has_o : List StSh := [⟨[.b], []⟩]
noncomputable abbrev has_B : Body := mkB Tryz.f103 has_o 0
noncomputable def has_l1_L (N : Nat) {top : Bool} : LpQ has_B top := mkL (Z := (Unit) ⊕ (Unit)) (has_sp N) [] [.c [1, 0, 1, 0, 0, 0, 0], .c [1, 0, 1, 0, 0, 0, 1], .c [1, 0, 1, 0, 0, 1], .l [1, 0, 1, 0, 0], .b 0, .c [1, 1]] ⟨[0, 1, 5], ⟨[.sl (.int .i64), .i .i64, .i .i64], []⟩⟩ (fun m p => has_l1 N m p.1.1 p.1.2.1 p.1.2.2.1) [⟨[.c [1, 0, 1, 0, 0, 1, 0, 0, 1, 0, 0], .c [1, 0, 1, 0, 0, 1, 0, 0, 1, 0, 1], .b 1, .c [1, 0, 1, 0, 0, 1, 1], .l [1, 0, 1, 0, 0], .b 0, .c [1, 1]], ⟨[], ⟨[], []⟩⟩, fun p => some (.inl ())⟩, ⟨[.c [1, 1, 0], .c [1, 1, 1]], ⟨[], ⟨[], []⟩⟩, fun p => some (.inr ())⟩] (fun _ => []) (fun k e => match e with | .inl x => k (.inl ((), ())) | .inr x => k (.inr (.inl ((), ())))) N (fun m p => by kernel_rfl) (hg := (by rintro _ _ (_ | _) <;> rfl))
noncomputable def sp_has (N : Nat) : Spec := mkS 103 ⟨[.sl (.int .i64), .i .i64], []⟩ has_o (fun p => has_S N p.1.1 p.1.2.1) (fun k r => k ((r, ()), ()))
theorem sp_has_ok (N : Nat) : SpecOK Tryz.prog (sp_has N) := mkF (R := Bool) (m0 := 0) (has_sp N) [has_l1_L N] (fun r => some r.1.1) [] Tryz.func103 (fun p => by kernel_rfl) (by kernel_rfl) (fun _ => by kernel_rfl)

def words_l1 (N : Nat) : Nat → Int → Int → Qg → Option Qg
 | 0, _, _, _ => none
 | n_ + 1, to, w, out =>
  br (decide (w < to))
   (lim (out.length + [w].length) <|
   chk (w + 1) <|
   words_l1 N n_ to (w + 1) (out ++ [w]))
   (some (out))
def words_S (N : Nat) (from_ to : Int) : Option Qg :=
 (words_l1 N N to from_ []).bind fun out_1 =>
 some out_1
noncomputable def words_sp (N : Nat) : Oks := []
abbrev words_o : List StSh := [⟨[.sl (.int .i64)], []⟩]
noncomputable abbrev words_B : Body := mkB Tryz.f79 words_o 0
noncomputable def words_l1_L (N : Nat) {top : Bool} : LpQ words_B top := mkL (Z := List Int) (words_sp N) [] [.c [1, 1, 0, 1, 0, 0, 0, 0], .c [1, 1, 0, 1, 0, 0, 0, 1], .c [1, 1, 0, 1, 0, 0, 1], .l [1, 1, 0, 1, 0, 0], .b 0, .c [1, 1, 1]] ⟨[1, 5, 6], ⟨[.i .i64, .ols 0, .i .i64], [.lst (.int .i64)]⟩⟩ (fun m p => words_l1 N m p.1.1 p.1.2.2.1 p.2.1) [⟨[.c [1, 1, 1, 0], .c [1, 1, 1, 1]], ⟨[5], ⟨[.ols 0], [.lst (.int .i64)]⟩⟩, fun p => some (p.2.1)⟩] (fun _ => []) (fun k e => k (.inl (((), ()), (e, ())))) N (fun m p => by kernel_rfl)
noncomputable def sp_words (N : Nat) : Spec := mkS 79 ⟨[.i .i64, .i .i64], []⟩ words_o (fun p => words_S N p.1.1 p.1.2.1) (fun k r => k ((r, ()), ()))
theorem sp_words_ok (N : Nat) : SpecOK Tryz.prog (sp_words N) := mkF (R := List Int) (m0 := 0) (words_sp N) [words_l1_L N] (fun r => some r.1.1) [] Tryz.func79 (fun p => by kernel_rfl) (by kernel_rfl) (fun _ => by kernel_rfl)

def otherwise_l1 (N : Nat) : Nat → Qg → Int → Int → Int → Int → Option ((Unit) ⊕ (List Int × Int × Int × Int))
 | 0, _, _, _, _, _ => none
 | n_ + 1, l, w, x, x2, x3 =>
  br (decide (w ≤ x3))
   ((has_S N l w).bind fun x_1 =>
   br (!x_1)
    (some (.inl ()))
    (chk (w + 1) <|
    otherwise_l1 N n_ l (w + 1) x x2 x3))
   (some (.inr (l, x, x2, x3)))
def otherwise_S (N : Nat) (x x2 x3 : Int) (l : List Int) : Option Bool :=
 (otherwise_l1 N N l x2 x x2 x3).bind fun e => match e with
 | .inl _ =>
  some false
 | .inr (l_2, x_3, x2_4, x3_5) =>
  (has_S N l_2 x_3).bind fun x_6 =>
  some (!x_6)
noncomputable def otherwise_sp (N : Nat) : Oks := [⟨_, sp_has_ok N⟩]
abbrev otherwise_o : List StSh := [⟨[.b], []⟩]
noncomputable abbrev otherwise_B : Body := mkB Tryz.f96 otherwise_o 0
noncomputable def otherwise_l1_L (N : Nat) {top : Bool} : LpQ otherwise_B top := mkL (Z := (Unit) ⊕ (List Int × Int × Int × Int)) (otherwise_sp N) [] [.c [1, 0, 1, 0, 0, 0, 0], .c [1, 0, 1, 0, 0, 0, 1], .c [1, 0, 1, 0, 0, 1], .l [1, 0, 1, 0, 0], .b 0, .c [1, 1]] ⟨[1, 2, 5], ⟨[.sl (.int .i64), .own 0 0, .i .i64], [.segs [.i .i64, .i .i64, .i .i64]]⟩⟩ (fun m p => otherwise_l1 N m p.1.1 p.1.2.2.1 p.2.1.1 p.2.1.2.1 p.2.1.2.2.1) [⟨[.c [1, 0, 1, 0, 0, 1, 0, 0, 1, 0, 0], .c [1, 0, 1, 0, 0, 1, 0, 0, 1, 0, 1], .b 1, .c [1, 0, 1, 0, 0, 1, 1], .l [1, 0, 1, 0, 0], .b 0, .c [1, 1]], ⟨[], ⟨[], []⟩⟩, fun p => some (.inl ())⟩, ⟨[.c [1, 1, 0], .c [1, 1, 1]], ⟨[1, 2], ⟨[.sl (.int .i64), .own 0 0], [.segs [.i .i64, .i .i64, .i .i64]]⟩⟩, fun p => some (.inr (p.1.1, p.2.1.1, p.2.1.2.1, p.2.1.2.2.1))⟩] (fun _ => []) (fun k e => match e with | .inl x => k (.inl ((), ())) | .inr x => k (.inr (.inl ((x.1, (), ()), ((x.2.1, x.2.2.1, x.2.2.2, ()), ()))))) N (fun m p => by kernel_rfl) (hg := (by rintro _ _ (_ | _) <;> rfl))
noncomputable def sp_otherwise (N : Nat) : Spec := mkS 96 ⟨[.agg [.i .i64, .i .i64, .i .i64], .sl (.int .i64)], []⟩ otherwise_o (fun p => otherwise_S N p.1.1.1 p.1.1.2.1 p.1.1.2.2.1 p.1.2.1) (fun k r => k ((r, ()), ()))
theorem sp_otherwise_ok (N : Nat) : SpecOK Tryz.prog (sp_otherwise N) := mkF (R := Bool) (m0 := 0) (otherwise_sp N) [otherwise_l1_L N] (fun r => some r.1.1) [] Tryz.func96 (fun p => by kernel_rfl) (by kernel_rfl) (fun _ => by kernel_rfl)

def said_j1 (N : Nat) (rec : Qg → Int → Qh → Qi → Int → Qg → Option Qg) (l : List Int) (i : Int) (t : List Qe) (t2 : List Qf) (t3 : Int) (out : List Int) : Option Qg :=
 chk (i + 1) <|
 rec l (i + 1) t t2 t3 out
def said_l1 (N : Nat) : Nat → Qg → Int → Qh → Qi → Int → Qg → Option Qg
 | 0, _, _, _, _, _, _ => none
 | n_ + 1, l, i, t, t2, t3, out =>
  br (decide (i < (t2.length : Int)))
   (idx t2 i fun x_1 =>
   (otherwise_S N x_1.1 x_1.2.1 x_1.2.2 l).bind fun x_2 =>
   br x_2
    (lim (out.length + [i].length) <|
    said_j1 N (said_l1 N n_) l i t t2 t3 (out ++ [i]))
    (said_j1 N (said_l1 N n_) l i t t2 t3 out))
   (some (out))
def said_S (N : Nat) (t : List Qe) (t2 : List Qf) (t3 : Int) (l : List Int) : Option Qg :=
 (said_l1 N N l 0 t t2 t3 []).bind fun out_3 =>
 some out_3
noncomputable def said_sp (N : Nat) : Oks := [⟨_, sp_otherwise_ok N⟩]
abbrev said_o : List StSh := [⟨[.sl (.int .i64)], []⟩]
noncomputable abbrev said_B : Body := mkB Tryz.f78 said_o 0
abbrev said_l1_at : List PI := [.c [1, 1, 0, 1, 0, 0, 0, 0], .c [1, 1, 0, 1, 0, 0, 0, 1], .c [1, 1, 0, 1, 0, 0, 1], .l [1, 1, 0, 1, 0, 0], .b 0, .c [1, 1, 1]]
abbrev said_l1_st : Sta := ⟨[1, 2, 5, 6], ⟨[.sl (.int .i64), .own 0 0, .ols 1, .i .i64], [.segs [.sl Qd, .sl Qc, .i .i64], .lst (.int .i64)]⟩⟩
abbrev said_l1_h (rec : Qg → Int → Qh → Qi → Int → Qg → Option Qg) : Leaf Qg := ⟨said_l1_at, said_l1_st, fun p => rec p.1.1 p.1.2.2.2.1 p.2.1.1 p.2.1.2.1 p.2.1.2.2.1 p.2.2.1⟩
abbrev said_l1_e0 : Leaf Qg := ⟨[.c [1, 1, 1, 0], .c [1, 1, 1, 1]], ⟨[5], ⟨[.ols 0], [.lst (.int .i64)]⟩⟩, fun p => some (p.2.1)⟩
noncomputable def said_j1_k (N : Nat) (rec : Qg → Int → Qh → Qi → Int → Qg → Option Qg) {top : Bool} : JnQ (Z := List Int) said_B top none [said_l1_h rec, said_l1_e0] := mkJ (said_sp N) [] [] ⟨[.c [1, 1, 0, 1, 0, 0, 1, 1], .l [1, 1, 0, 1, 0, 0], .b 0, .c [1, 1, 1]], ⟨[1, 2, 5, 6], ⟨[.sl (.int .i64), .own 0 0, .ols 1, .i .i64], [.segs [.sl Qd, .sl Qc, .i .i64], .lst (.int .i64)]⟩⟩, fun p => said_j1 N rec p.1.1 p.1.2.2.2.1 p.2.1.1 p.2.1.2.1 p.2.1.2.2.1 p.2.2.1⟩ (fun p => by kernel_rfl)
noncomputable def said_l1_L (N : Nat) {top : Bool} : LpQ said_B top := mkL (Z := List Int) (said_sp N) [] said_l1_at said_l1_st (fun m p => said_l1 N m p.1.1 p.1.2.2.2.1 p.2.1.1 p.2.1.2.1 p.2.1.2.2.1 p.2.2.1) [said_l1_e0] (fun m => [said_j1_k N (said_l1 N m)]) (fun k e => k (.inl (((), ()), (e, ())))) N (fun m p => by kernel_rfl)
noncomputable def sp_said (N : Nat) : Spec := mkS 78 ⟨[.agg [.sl Qd, .sl Qc, .i .i64], .sl (.int .i64)], []⟩ said_o (fun p => said_S N p.1.1.1 p.1.1.2.1 p.1.1.2.2.1 p.1.2.1) (fun k r => k ((r, ()), ()))
theorem sp_said_ok (N : Nat) : SpecOK Tryz.prog (sp_said N) := mkF (R := List Int) (m0 := 0) (said_sp N) [said_l1_L N] (fun r => some r.1.1) [] Tryz.func78 (fun p => by kernel_rfl) (by kernel_rfl) (fun _ => by kernel_rfl)

def rsays_S (N : Nat) (t : List Qe) (t2 : List Qf) (t3 part part2 : Int) : Option (List Int × Int) :=
 (rcheck_S N t t2 t3).bind fun x_1 =>
 br (!decide (x_1 = 0))
  (some ([], x_1))
  (chk ((t.length : Int) - 1) <|
  (off_S N part 0 ((t.length : Int) - 1)).bind fun x_2 =>
  br x_2
   (some ([], 1))
   (chk ((t.length : Int) - 1) <|
   (off_S N part2 0 ((t.length : Int) - 1)).bind fun x_3 =>
   br x_3
    (some ([], 1))
    (br (decide (part2 < part))
     (some ([], 4))
     (chk (part2 + 1) <|
     (words_S N part (part2 + 1)).bind fun x_4 =>
     (said_S N t t2 t3 x_4).bind fun x_5 =>
     some (x_5, 0)))))
noncomputable def sp_rsays (N : Nat) : Spec := mkS 24 ⟨[.agg [.sl Qd, .sl Qc, .i .i64], .agg [.i .i64, .i .i64]], []⟩ [⟨[.sl (.int .i64), .i .i64], []⟩] (fun p => rsays_S N p.1.1.1 p.1.1.2.1 p.1.1.2.2.1 p.1.2.1.1 p.1.2.1.2.1) (fun k r => k ((r.1, r.2, ()), ()))
theorem sp_rsays_ok (N : Nat) : SpecOK Tryz.prog (sp_rsays N) := mkF (R := List Int × Int) (m0 := 0) [⟨_, sp_off_ok N⟩, ⟨_, sp_rcheck_ok N⟩, ⟨_, sp_words_ok N⟩, ⟨_, sp_said_ok N⟩] [] (fun r => some (r.1.1, r.1.2.1)) [] Tryz.func24 (fun p => by kernel_rfl) (by kernel_rfl) (fun _ => by kernel_rfl)

def stop_S (N : Nat) (t : List Qe) (t2 : List Qf) (t3 place : Int) : Option Bool :=
 br (decide (place = 0))
  (some true)
  (br (decide (place = (t.length : Int)))
   (some true)
   (chk (place - 1) <|
   idx t (place - 1) fun x_1 =>
   some x_1.2.2))
noncomputable def sp_stop (N : Nat) : Spec := mkS 117 ⟨[.agg [.sl Qd, .sl Qc, .i .i64], .i .i64], []⟩ [⟨[.b], []⟩] (fun p => stop_S N p.1.1.1 p.1.1.2.1 p.1.1.2.2.1 p.1.2.1) (fun k r => k ((r, ()), ()))
theorem sp_stop_ok (N : Nat) : SpecOK Tryz.prog (sp_stop N) := mkF (R := Bool) (m0 := 0) [] [] (fun r => some r.1.1) [] Tryz.func117 (fun p => by kernel_rfl) (by kernel_rfl) (fun _ => by kernel_rfl)

def rfault_l1 (N : Nat) : Nat → Int → Int → Int → Int → Qh → Qi → Int → Option (Int × Int × Int × Qh × Qi × Int)
 | 0, _, _, _, _, _, _, _ => none
 | n_ + 1, from_, to, n, w, t, t2, t3 =>
  br (decide (w < to))
   (idx t w fun x_1 =>
   chk (n + x_1.1) <|
   chk (w + 1) <|
   rfault_l1 N n_ from_ to (n + x_1.1) (w + 1) t t2 t3)
   (some ((from_, to, n, t, t2, t3)))
def rfault_S (N : Nat) (t : List Qe) (t2 : List Qf) (t3 from_ to : Int) : Option Int :=
 (rfault_l1 N N from_ to 0 from_ t t2 t3).bind fun (from__2, to_3, n_4, t_5, t2_6, t3_7) =>
 br (decide (t3_7 < n_4))
  (some 0)
  ((stop_S N t_5 t2_6 t3_7 from__2).bind fun x_8 =>
  br (!x_8)
   (some 1)
   ((stop_S N t_5 t2_6 t3_7 to_3).bind fun x_9 =>
   br (!x_9)
    (some 1)
    ((words_S N from__2 to_3).bind fun x_10 =>
    (said_S N t_5 t2_6 t3_7 x_10).bind fun x_11 =>
    br (decide (0 < (x_11.length : Int)))
     (some 2)
     (some (-1)))))
noncomputable def rfault_sp (N : Nat) : Oks := [⟨_, sp_words_ok N⟩, ⟨_, sp_said_ok N⟩, ⟨_, sp_stop_ok N⟩]
abbrev rfault_o : List StSh := [⟨[.i .i64], []⟩]
noncomputable abbrev rfault_B : Body := mkB Tryz.f83 rfault_o 0
noncomputable def rfault_l1_L (N : Nat) {top : Bool} : LpQ rfault_B top := mkL (Z := Int × Int × Int × Qh × Qi × Int) (rfault_sp N) [] [.c [1, 1, 0, 1, 0, 0, 0, 0], .c [1, 1, 0, 1, 0, 0, 0, 1], .c [1, 1, 0, 1, 0, 0, 1], .l [1, 1, 0, 1, 0, 0], .b 0, .c [1, 1, 1]] ⟨[1, 2, 3, 7, 8], ⟨[.i .i64, .i .i64, .own 0 0, .i .i64, .i .i64], [.segs [.sl Qd, .sl Qc, .i .i64]]⟩⟩ (fun m p => rfault_l1 N m p.1.1 p.1.2.1 p.1.2.2.2.1 p.1.2.2.2.2.1 p.2.1.1 p.2.1.2.1 p.2.1.2.2.1) [⟨[.c [1, 1, 1, 0, 0], .c [1, 1, 1, 0, 1], .c [1, 1, 1, 1]], ⟨[1, 2, 3, 7], ⟨[.i .i64, .i .i64, .own 0 0, .i .i64], [.segs [.sl Qd, .sl Qc, .i .i64]]⟩⟩, fun p => some ((p.1.1, p.1.2.1, p.1.2.2.2.1, p.2.1.1, p.2.1.2.1, p.2.1.2.2.1))⟩] (fun _ => []) (fun k e => k (.inl ((e.1, e.2.1, (), e.2.2.1, ()), ((e.2.2.2.1, e.2.2.2.2.1, e.2.2.2.2.2, ()), ())))) N (fun m p => by kernel_rfl)
noncomputable def sp_rfault (N : Nat) : Spec := mkS 83 ⟨[.agg [.sl Qd, .sl Qc, .i .i64], .i .i64, .i .i64], []⟩ rfault_o (fun p => rfault_S N p.1.1.1 p.1.1.2.1 p.1.1.2.2.1 p.1.2.1 p.1.2.2.1) (fun k r => k ((r, ()), ()))
theorem sp_rfault_ok (N : Nat) : SpecOK Tryz.prog (sp_rfault N) := mkF (R := Int) (m0 := 0) (rfault_sp N) [rfault_l1_L N] (fun r => some r.1.1) [] Tryz.func83 (fun p => by kernel_rfl) (by kernel_rfl) (fun _ => by kernel_rfl)

def rreading_l1 (N : Nat) : Nat → Qg → Int → Int → Qh → Qi → Int → Option ((Unit) ⊕ (Int × Qh × Qi × Int))
 | 0, _, _, _, _, _, _ => none
 | n_ + 1, l, n, i, t, t2, t3 =>
  br (decide (i < (l.length : Int)))
   (idx l i fun x_2 =>
   (off_S N x_2 1 12).bind fun x_3 =>
   br x_3
    (some (.inl ()))
    (idx l i fun x_4 =>
    chk (n + x_4) <|
    chk (i + 1) <|
    rreading_l1 N n_ l (min (n + x_4) 100) (i + 1) t t2 t3))
   (some (.inr (n, t, t2, t3)))
def rreading_S (N : Nat) (t : List Qe) (t2 : List Qf) (t3 : Int) (l : List Int) : Option Int :=
 (rcheck_S N t t2 t3).bind fun x_1 =>
 br (!decide (x_1 = 0))
  (some x_1)
  ((rreading_l1 N N l 0 0 t t2 t3).bind fun e => match e with
  | .inl _ =>
   some 3
  | .inr (n_5, t_6, t2_7, t3_8) =>
   br (!decide (n_5 = (t_6.length : Int)))
    (some 2)
    (some 0))
noncomputable def rreading_sp (N : Nat) : Oks := [⟨_, sp_off_ok N⟩, ⟨_, sp_rcheck_ok N⟩]
abbrev rreading_o : List StSh := [⟨[.i .i64], []⟩]
noncomputable abbrev rreading_B : Body := mkB Tryz.f36 rreading_o 0
noncomputable def rreading_l1_L (N : Nat) {top : Bool} : LpQ rreading_B top := mkL (Z := (Unit) ⊕ (Int × Qh × Qi × Int)) (rreading_sp N) [] [.c [1, 1, 1, 0, 1, 0, 0, 0, 0], .c [1, 1, 1, 0, 1, 0, 0, 0, 1], .c [1, 1, 1, 0, 1, 0, 0, 1], .l [1, 1, 1, 0, 1, 0, 0], .b 0, .c [1, 1, 1, 1]] ⟨[1, 2, 6, 7], ⟨[.sl (.int .i64), .own 0 0, .i .i64, .i .i64], [.segs [.sl Qd, .sl Qc, .i .i64]]⟩⟩ (fun m p => rreading_l1 N m p.1.1 p.1.2.2.1 p.1.2.2.2.1 p.2.1.1 p.2.1.2.1 p.2.1.2.2.1) [⟨[.c [1, 1, 1, 0, 1, 0, 0, 1, 0, 0, 0, 1, 0, 0], .c [1, 1, 1, 0, 1, 0, 0, 1, 0, 0, 0, 1, 0, 1], .c [1, 1, 1, 0, 1, 0, 0, 1, 0, 0, 1], .b 1, .c [1, 1, 1, 0, 1, 0, 0, 1, 1], .l [1, 1, 1, 0, 1, 0, 0], .b 0, .c [1, 1, 1, 1]], ⟨[], ⟨[], []⟩⟩, fun p => some (.inl ())⟩, ⟨[.c [1, 1, 1, 1, 0, 0], .c [1, 1, 1, 1, 0, 1], .c [1, 1, 1, 1, 1]], ⟨[2, 6], ⟨[.own 0 0, .i .i64], [.segs [.sl Qd, .sl Qc, .i .i64]]⟩⟩, fun p => some (.inr (p.1.2.1, p.2.1.1, p.2.1.2.1, p.2.1.2.2.1))⟩] (fun _ => []) (fun k e => match e with | .inl x => k (.inl ((), ())) | .inr x => k (.inr (.inl (((), x.1, ()), ((x.2.1, x.2.2.1, x.2.2.2, ()), ()))))) N (fun m p => by kernel_rfl) (hg := (by rintro _ _ (_ | _) <;> rfl))
noncomputable def sp_rreading (N : Nat) : Spec := mkS 36 ⟨[.agg [.sl Qd, .sl Qc, .i .i64], .sl (.int .i64)], []⟩ rreading_o (fun p => rreading_S N p.1.1.1 p.1.1.2.1 p.1.1.2.2.1 p.1.2.1) (fun k r => k ((r, ()), ()))
theorem sp_rreading_ok (N : Nat) : SpecOK Tryz.prog (sp_rreading N) := mkF (R := Int) (m0 := 0) (rreading_sp N) [rreading_l1_L N] (fun r => some r.1.1) [] Tryz.func36 (fun p => by kernel_rfl) (by kernel_rfl) (fun _ => by kernel_rfl)

def rwrong_l1 (N : Nat) : Nat → Qg → Int → Int → Qh → Qi → Int → Option (Qn ⊕ (Unit))
 | 0, _, _, _, _, _, _ => none
 | n_ + 1, l, place, i, t, t2, t3 =>
  br (decide (i < (l.length : Int)))
   (idx l i fun x_2 =>
   chk (place + x_2) <|
   (rfault_S N t t2 t3 place (place + x_2)).bind fun x_3 =>
   br (decide (0 ≤ x_3))
    (some (.inl (i, x_3)))
    (idx l i fun x_4 =>
    chk (place + x_4) <|
    chk (i + 1) <|
    rwrong_l1 N n_ l (place + x_4) (i + 1) t t2 t3))
   (some (.inr ()))
def rwrong_S (N : Nat) (t : List Qe) (t2 : List Qf) (t3 : Int) (l : List Int) : Option (Int × Int × Int) :=
 (rreading_S N t t2 t3 l).bind fun x_1 =>
 br (!decide (x_1 = 0))
  (some (0, 0, x_1))
  ((rwrong_l1 N N l 0 0 t t2 t3).bind fun e => match e with
  | .inl (i_5, k_6) =>
   some (i_5, k_6, 0)
  | .inr _ =>
   some (0, 0, 6))
noncomputable def rwrong_sp (N : Nat) : Oks := [⟨_, sp_rfault_ok N⟩, ⟨_, sp_rreading_ok N⟩]
abbrev rwrong_o : List StSh := [⟨[.i .i64, .i .i64, .i .i64], []⟩]
noncomputable abbrev rwrong_B : Body := mkB Tryz.f27 rwrong_o 0
noncomputable def rwrong_l1_L (N : Nat) {top : Bool} : LpQ rwrong_B top := mkL (Z := Qn ⊕ (Unit)) (rwrong_sp N) [] [.c [1, 1, 1, 0, 1, 0, 0, 0, 0], .c [1, 1, 1, 0, 1, 0, 0, 0, 1], .c [1, 1, 1, 0, 1, 0, 0, 1], .l [1, 1, 1, 0, 1, 0, 0], .b 0, .c [1, 1, 1, 1]] ⟨[1, 2, 8, 9], ⟨[.sl (.int .i64), .own 0 0, .i .i64, .i .i64], [.segs [.sl Qd, .sl Qc, .i .i64]]⟩⟩ (fun m p => rwrong_l1 N m p.1.1 p.1.2.2.1 p.1.2.2.2.1 p.2.1.1 p.2.1.2.1 p.2.1.2.2.1) [⟨[.c [1, 1, 1, 0, 1, 0, 0, 1, 0, 0, 0, 1, 1, 0, 0], .c [1, 1, 1, 0, 1, 0, 0, 1, 0, 0, 0, 1, 1, 0, 1], .c [1, 1, 1, 0, 1, 0, 0, 1, 0, 0, 1], .b 1, .c [1, 1, 1, 0, 1, 0, 0, 1, 1], .l [1, 1, 1, 0, 1, 0, 0], .b 0, .c [1, 1, 1, 1]], ⟨[9, 10], ⟨[.i .i64, .i .i64], []⟩⟩, fun p => some (.inl (p.1.1, p.1.2.1))⟩, ⟨[.c [1, 1, 1, 1, 0], .c [1, 1, 1, 1, 1]], ⟨[], ⟨[], []⟩⟩, fun p => some (.inr ())⟩] (fun _ => []) (fun k e => match e with | .inl x => k (.inl ((x.1, x.2, ()), ())) | .inr x => k (.inr (.inl ((), ())))) N (fun m p => by kernel_rfl) (hg := (by rintro _ _ (_ | _) <;> rfl))
noncomputable def sp_rwrong (N : Nat) : Spec := mkS 27 ⟨[.agg [.sl Qd, .sl Qc, .i .i64], .sl (.int .i64)], []⟩ rwrong_o (fun p => rwrong_S N p.1.1.1 p.1.1.2.1 p.1.1.2.2.1 p.1.2.1) (fun k r => k ((r.1, r.2.1, r.2.2, ()), ()))
theorem sp_rwrong_ok (N : Nat) : SpecOK Tryz.prog (sp_rwrong N) := mkF (R := Int × Int × Int) (m0 := 0) (rwrong_sp N) [rwrong_l1_L N] (fun r => some (r.1.1, r.1.2.1, r.1.2.2.1)) [] Tryz.func27 (fun p => by kernel_rfl) (by kernel_rfl) (fun _ => by kernel_rfl)

def tparts_S (N : Nat) (t : List Qe) (t2 : List Qf) (t3 part part2 : Int) (reading : List Int) : Option Bool :=
 (great_S N t t2 t3 20).bind fun x_1 =>
 br x_1
  ((awake_S N).bind fun x_2 =>
  some x_2)
  (br (decide (20 < (reading.length : Int)))
   ((awake_S N).bind fun x_3 =>
   some x_3)
   ((copyx_S N t t2 t3).bind fun (x_4, y_5, y_6) =>
   (theirs_S N t t2 t3).bind fun (x_7, y_8, y_9) =>
   (copyi_S N reading).bind fun x_10 =>
   (check_S N x_4 y_5 y_6).bind fun x_11 =>
   (rcheck_S N x_7 y_8 y_9).bind fun x_12 =>
   br (!decide (x_11 = x_12))
    (some false)
    ((says__S N x_4 y_5 y_6 part part2).bind fun (x_13, y_14) =>
    (rsays_S N x_7 y_8 y_9 part part2).bind fun (x_15, y_16) =>
    br (!decide (y_14 = y_16))
     (some false)
     ((likei_S N x_13 x_15).bind fun x_17 =>
     br (!x_17)
      (some false)
      ((lwrong_S N x_4 y_5 y_6 x_10).bind fun (x_18, y_19, y_20) =>
      (rwrong_S N x_7 y_8 y_9 reading).bind fun (x_21, y_22, y_23) =>
      br (decide (x_18 = x_21))
       (br (decide (y_19 = y_22))
        (br (decide (y_20 = y_23))
         ((same_S N x_4 y_5 y_6 t t2 t3).bind fun x_24 =>
         br x_24
          ((likei_S N x_10 reading).bind fun x_25 =>
          br x_25
           ((awake_S N).bind fun x_26 =>
           some x_26)
           (some false))
          (some false))
         (some false))
        (some false))
       (some false))))))
noncomputable def sp_tparts (N : Nat) : Spec := mkS 5 ⟨[.agg [.sl Qd, .sl Qc, .i .i64], .agg [.i .i64, .i .i64], .sl (.int .i64)], []⟩ [⟨[.b], []⟩] (fun p => tparts_S N p.1.1.1 p.1.1.2.1 p.1.1.2.2.1 p.1.2.1.1 p.1.2.1.2.1 p.1.2.2.1) (fun k r => k ((r, ()), ()))
theorem sp_tparts_ok (N : Nat) : SpecOK Tryz.prog (sp_tparts N) := mkF (R := Bool) (m0 := 0) [⟨_, sp_check_ok N⟩, ⟨_, sp_lwrong_ok N⟩, ⟨_, sp_says__ok N⟩, ⟨_, sp_likei_ok N⟩, ⟨_, sp_awake_ok N⟩, ⟨_, sp_copyi_ok N⟩, ⟨_, sp_copyx_ok N⟩, ⟨_, sp_same_ok N⟩, ⟨_, sp_theirs_ok N⟩, ⟨_, sp_great_ok N⟩, ⟨_, sp_rcheck_ok N⟩, ⟨_, sp_rsays_ok N⟩, ⟨_, sp_rwrong_ok N⟩] [] (fun r => some r.1.1) [] Tryz.func5 (fun p => by kernel_rfl) (by kernel_rfl) (fun _ => by kernel_rfl)

def rastray_l3 (N : Nat) : Nat → Qg → Int → Int → Int → Int → Int → Qh → Qi → Int → Int → Int → Option (Qt ⊕ (List Int × Int × Int × Int × Qh × Qi × Int × Int × Int))
 | 0, _, _, _, _, _, _, _, _, _, _, _ => none
 | n_ + 1, l, turn, from_, a, to, b, t, t2, t3, g, g2 =>
  br (decide (b < (l.length : Int)))
   (idx l b fun x_1 =>
   chk (to + x_1) <|
   idx t2 turn fun x_2 =>
   (words_S N from_ (to + x_1)).bind fun x_3 =>
   (otherwise_S N x_2.1 x_2.2.1 x_2.2.2 x_3).bind fun x_4 =>
   br x_4
    (some (.inl (turn, a, b, g, g2)))
    (chk (b + 1) <|
    rastray_l3 N n_ l turn from_ a (to + x_1) (b + 1) t t2 t3 g g2))
   (some (.inr (l, turn, from_, a, t, t2, t3, g, g2)))
def rastray_l2 (N : Nat) : Nat → Qg → Int → Int → Int → Qh → Qi → Int → Int → Int → Option (Qt ⊕ (List Int × Int × Qh × Qi × Int × Int × Int))
 | 0, _, _, _, _, _, _, _, _, _ => none
 | n_ + 1, l, turn, from_, a, t, t2, t3, g, g2 =>
  br (decide (a < (l.length : Int)))
   ((rastray_l3 N N l turn from_ a from_ a t t2 t3 g g2).bind fun e => match e with
   | .inl (turn_5, a_6, b_7, g_8, g2_9) =>
    some (.inl (turn_5, a_6, b_7, g_8, g2_9))
   | .inr (l_10, turn_11, from__12, a_13, t_14, t2_15, t3_16, g_17, g2_18) =>
    idx l_10 a_13 fun x_19 =>
    chk (from__12 + x_19) <|
    chk (a_13 + 1) <|
    rastray_l2 N n_ l_10 turn_11 (from__12 + x_19) (a_13 + 1) t_14 t2_15 t3_16 g_17 g2_18)
   (some (.inr (l, turn, t, t2, t3, g, g2)))
def rastray_l1 (N : Nat) : Nat → Qg → Int → Qh → Qi → Int → Int → Int → Option (Qt ⊕ Qn)
 | 0, _, _, _, _, _, _, _ => none
 | n_ + 1, l, turn, t, t2, t3, g, g2 =>
  br (decide (turn < (t2.length : Int)))
   ((rastray_l2 N N l turn 0 0 t t2 t3 g g2).bind fun e => match e with
   | .inl (turn_20, a_21, b_22, g_23, g2_24) =>
    some (.inl (turn_20, a_21, b_22, g_23, g2_24))
   | .inr (l_25, turn_26, t_27, t2_28, t3_29, g_30, g2_31) =>
    chk (turn_26 + 1) <|
    rastray_l1 N n_ l_25 (turn_26 + 1) t_27 t2_28 t3_29 g_30 g2_31)
   (some (.inr (g, g2)))
def rastray_S (N : Nat) (t : List Qe) (t2 : List Qf) (t3 : Int) (l : List Int) : Option (Int × Int × Int × Bool) :=
 (rastray_l1 N N l 0 t t2 t3 0 0).bind fun e => match e with
 | .inl (turn_32, a_33, b_34, g_35, g2_36) =>
  some (turn_32, a_33, b_34, true)
 | .inr (g_37, g2_38) =>
  some (0, 0, 0, false)
noncomputable def rastray_sp (N : Nat) : Oks := [⟨_, sp_words_ok N⟩, ⟨_, sp_otherwise_ok N⟩]
abbrev rastray_o : List StSh := [⟨[.i .i64, .agg [.i .i64, .i .i64], .b], []⟩]
noncomputable abbrev rastray_B : Body := mkB Tryz.f37 rastray_o 0
noncomputable def rastray_l3_L (N : Nat) {top : Bool} : LpQ rastray_B top := mkL (Z := Qt ⊕ (List Int × Int × Int × Int × Qh × Qi × Int × Int × Int)) (rastray_sp N) [] [.c [1, 0, 1, 0, 0, 1, 0, 0, 1, 1, 0, 0, 1, 0, 0, 1, 0, 1, 0, 0, 0, 0], .c [1, 0, 1, 0, 0, 1, 0, 0, 1, 1, 0, 0, 1, 0, 0, 1, 0, 1, 0, 0, 0, 1], .c [1, 0, 1, 0, 0, 1, 0, 0, 1, 1, 0, 0, 1, 0, 0, 1, 0, 1, 0, 0, 1], .l [1, 0, 1, 0, 0, 1, 0, 0, 1, 1, 0, 0, 1, 0, 0, 1, 0, 1, 0, 0], .b 4, .c [1, 0, 1, 0, 0, 1, 0, 0, 1, 1, 0, 0, 1, 0, 0, 1, 1], .b 3, .c [1, 0, 1, 0, 0, 1, 0, 0, 1, 1, 0, 0, 1, 1], .l [1, 0, 1, 0, 0, 1, 0, 0, 1, 1, 0, 0], .b 2, .b 1, .c [1, 0, 1, 0, 0, 1, 1], .l [1, 0, 1, 0, 0], .b 0, .c [1, 1]] ⟨[1, 2, 5, 7, 8, 9, 10, 11], ⟨[.sl (.int .i64), .own 0 0, .own 1 0, .i .i64, .i .i64, .i .i64, .i .i64, .i .i64], [.segs [.sl Qd, .sl Qc, .i .i64], .segs [.i .i64, .i .i64]]⟩⟩ (fun m p => rastray_l3 N m p.1.1 p.1.2.2.2.1 p.1.2.2.2.2.1 p.1.2.2.2.2.2.1 p.1.2.2.2.2.2.2.1 p.1.2.2.2.2.2.2.2.1 p.2.1.1 p.2.1.2.1 p.2.1.2.2.1 p.2.2.1.1 p.2.2.1.2.1) [⟨[.c [1, 0, 1, 0, 0, 1, 0, 0, 1, 1, 0, 0, 1, 0, 0, 1, 0, 1, 0, 0, 1, 0, 0, 1, 1, 0, 0], .c [1, 0, 1, 0, 0, 1, 0, 0, 1, 1, 0, 0, 1, 0, 0, 1, 0, 1, 0, 0, 1, 0, 0, 1, 1, 0, 1], .b 5, .c [1, 0, 1, 0, 0, 1, 0, 0, 1, 1, 0, 0, 1, 0, 0, 1, 0, 1, 0, 0, 1, 1], .l [1, 0, 1, 0, 0, 1, 0, 0, 1, 1, 0, 0, 1, 0, 0, 1, 0, 1, 0, 0], .b 4, .c [1, 0, 1, 0, 0, 1, 0, 0, 1, 1, 0, 0, 1, 0, 0, 1, 1], .b 3, .c [1, 0, 1, 0, 0, 1, 0, 0, 1, 1, 0, 0, 1, 1], .l [1, 0, 1, 0, 0, 1, 0, 0, 1, 1, 0, 0], .b 2, .b 1, .c [1, 0, 1, 0, 0, 1, 1], .l [1, 0, 1, 0, 0], .b 0, .c [1, 1]], ⟨[5, 7, 9, 11], ⟨[.own 0 0, .i .i64, .i .i64, .i .i64], [.segs [.i .i64, .i .i64]]⟩⟩, fun p => some (.inl (p.1.2.1, p.1.2.2.1, p.1.2.2.2.1, p.2.1.1, p.2.1.2.1))⟩, ⟨[.c [1, 0, 1, 0, 0, 1, 0, 0, 1, 1, 0, 0, 1, 0, 0, 1, 1], .b 3, .c [1, 0, 1, 0, 0, 1, 0, 0, 1, 1, 0, 0, 1, 1], .l [1, 0, 1, 0, 0, 1, 0, 0, 1, 1, 0, 0], .b 2, .b 1, .c [1, 0, 1, 0, 0, 1, 1], .l [1, 0, 1, 0, 0], .b 0, .c [1, 1]], ⟨[1, 2, 5, 7, 8, 9], ⟨[.sl (.int .i64), .own 0 0, .own 1 0, .i .i64, .i .i64, .i .i64], [.segs [.sl Qd, .sl Qc, .i .i64], .segs [.i .i64, .i .i64]]⟩⟩, fun p => some (.inr (p.1.1, p.1.2.2.2.1, p.1.2.2.2.2.1, p.1.2.2.2.2.2.1, p.2.1.1, p.2.1.2.1, p.2.1.2.2.1, p.2.2.1.1, p.2.2.1.2.1))⟩] (fun _ => []) (fun k e => match e with | .inl x => k (.inl (((), x.1, x.2.1, x.2.2.1, ()), ((x.2.2.2.1, x.2.2.2.2, ()), ()))) | .inr x => k (.inr (.inl ((x.1, (), (), x.2.1, x.2.2.1, x.2.2.2.1, ()), ((x.2.2.2.2.1, x.2.2.2.2.2.1, x.2.2.2.2.2.2.1, ()), (x.2.2.2.2.2.2.2.1, x.2.2.2.2.2.2.2.2, ()), ()))))) N (fun m p => by kernel_rfl) (hg := (by rintro _ _ (_ | _) <;> rfl))
noncomputable def rastray_l2_L (N : Nat) {top : Bool} : LpQ rastray_B top := mkL (Z := Qt ⊕ (List Int × Int × Qh × Qi × Int × Int × Int)) (rastray_sp N) [rastray_l3_L N] [.c [1, 0, 1, 0, 0, 1, 0, 0, 1, 1, 0, 0, 0, 0], .c [1, 0, 1, 0, 0, 1, 0, 0, 1, 1, 0, 0, 0, 1], .c [1, 0, 1, 0, 0, 1, 0, 0, 1, 1, 0, 0, 1], .l [1, 0, 1, 0, 0, 1, 0, 0, 1, 1, 0, 0], .b 2, .b 1, .c [1, 0, 1, 0, 0, 1, 1], .l [1, 0, 1, 0, 0], .b 0, .c [1, 1]] ⟨[1, 2, 5, 7, 8, 9], ⟨[.sl (.int .i64), .own 0 0, .own 1 0, .i .i64, .i .i64, .i .i64], [.segs [.sl Qd, .sl Qc, .i .i64], .segs [.i .i64, .i .i64]]⟩⟩ (fun m p => rastray_l2 N m p.1.1 p.1.2.2.2.1 p.1.2.2.2.2.1 p.1.2.2.2.2.2.1 p.2.1.1 p.2.1.2.1 p.2.1.2.2.1 p.2.2.1.1 p.2.2.1.2.1) [⟨[.c [1, 0, 1, 0, 0, 1, 0, 0, 1, 1, 0, 0, 1, 0, 0, 1, 0, 1, 0, 0, 1, 0, 0, 1, 1, 0, 0], .c [1, 0, 1, 0, 0, 1, 0, 0, 1, 1, 0, 0, 1, 0, 0, 1, 0, 1, 0, 0, 1, 0, 0, 1, 1, 0, 1], .b 5, .c [1, 0, 1, 0, 0, 1, 0, 0, 1, 1, 0, 0, 1, 0, 0, 1, 0, 1, 0, 0, 1, 1], .l [1, 0, 1, 0, 0, 1, 0, 0, 1, 1, 0, 0, 1, 0, 0, 1, 0, 1, 0, 0], .b 4, .c [1, 0, 1, 0, 0, 1, 0, 0, 1, 1, 0, 0, 1, 0, 0, 1, 1], .b 3, .c [1, 0, 1, 0, 0, 1, 0, 0, 1, 1, 0, 0, 1, 1], .l [1, 0, 1, 0, 0, 1, 0, 0, 1, 1, 0, 0], .b 2, .b 1, .c [1, 0, 1, 0, 0, 1, 1], .l [1, 0, 1, 0, 0], .b 0, .c [1, 1]], ⟨[5, 7, 9, 11], ⟨[.own 0 0, .i .i64, .i .i64, .i .i64], [.segs [.i .i64, .i .i64]]⟩⟩, fun p => some (.inl (p.1.2.1, p.1.2.2.1, p.1.2.2.2.1, p.2.1.1, p.2.1.2.1))⟩, ⟨[.c [1, 0, 1, 0, 0, 1, 1], .l [1, 0, 1, 0, 0], .b 0, .c [1, 1]], ⟨[1, 2, 5, 7], ⟨[.sl (.int .i64), .own 0 0, .own 1 0, .i .i64], [.segs [.sl Qd, .sl Qc, .i .i64], .segs [.i .i64, .i .i64]]⟩⟩, fun p => some (.inr (p.1.1, p.1.2.2.2.1, p.2.1.1, p.2.1.2.1, p.2.1.2.2.1, p.2.2.1.1, p.2.2.1.2.1))⟩] (fun _ => []) (fun k e => match e with | .inl x => k (.inl (((), x.1, x.2.1, x.2.2.1, ()), ((x.2.2.2.1, x.2.2.2.2, ()), ()))) | .inr x => k (.inr (.inl ((x.1, (), (), x.2.1, ()), ((x.2.2.1, x.2.2.2.1, x.2.2.2.2.1, ()), (x.2.2.2.2.2.1, x.2.2.2.2.2.2, ()), ()))))) N (fun m p => by kernel_rfl) (hg := (by rintro _ _ (_ | _) <;> rfl))
noncomputable def rastray_l1_L (N : Nat) {top : Bool} : LpQ rastray_B top := mkL (Z := Qt ⊕ Qn) (rastray_sp N) [rastray_l3_L N, rastray_l2_L N] [.c [1, 0, 1, 0, 0, 0, 0], .c [1, 0, 1, 0, 0, 0, 1], .c [1, 0, 1, 0, 0, 1], .l [1, 0, 1, 0, 0], .b 0, .c [1, 1]] ⟨[1, 2, 5, 7], ⟨[.sl (.int .i64), .own 0 0, .own 1 0, .i .i64], [.segs [.sl Qd, .sl Qc, .i .i64], .segs [.i .i64, .i .i64]]⟩⟩ (fun m p => rastray_l1 N m p.1.1 p.1.2.2.2.1 p.2.1.1 p.2.1.2.1 p.2.1.2.2.1 p.2.2.1.1 p.2.2.1.2.1) [⟨[.c [1, 0, 1, 0, 0, 1, 0, 0, 1, 1, 0, 0, 1, 0, 0, 1, 0, 1, 0, 0, 1, 0, 0, 1, 1, 0, 0], .c [1, 0, 1, 0, 0, 1, 0, 0, 1, 1, 0, 0, 1, 0, 0, 1, 0, 1, 0, 0, 1, 0, 0, 1, 1, 0, 1], .b 5, .c [1, 0, 1, 0, 0, 1, 0, 0, 1, 1, 0, 0, 1, 0, 0, 1, 0, 1, 0, 0, 1, 1], .l [1, 0, 1, 0, 0, 1, 0, 0, 1, 1, 0, 0, 1, 0, 0, 1, 0, 1, 0, 0], .b 4, .c [1, 0, 1, 0, 0, 1, 0, 0, 1, 1, 0, 0, 1, 0, 0, 1, 1], .b 3, .c [1, 0, 1, 0, 0, 1, 0, 0, 1, 1, 0, 0, 1, 1], .l [1, 0, 1, 0, 0, 1, 0, 0, 1, 1, 0, 0], .b 2, .b 1, .c [1, 0, 1, 0, 0, 1, 1], .l [1, 0, 1, 0, 0], .b 0, .c [1, 1]], ⟨[5, 7, 9, 11], ⟨[.own 0 0, .i .i64, .i .i64, .i .i64], [.segs [.i .i64, .i .i64]]⟩⟩, fun p => some (.inl (p.1.2.1, p.1.2.2.1, p.1.2.2.2.1, p.2.1.1, p.2.1.2.1))⟩, ⟨[.c [1, 1, 0], .c [1, 1, 1]], ⟨[5], ⟨[.own 0 0], [.segs [.i .i64, .i .i64]]⟩⟩, fun p => some (.inr (p.2.1.1, p.2.1.2.1))⟩] (fun _ => []) (fun k e => match e with | .inl x => k (.inl (((), x.1, x.2.1, x.2.2.1, ()), ((x.2.2.2.1, x.2.2.2.2, ()), ()))) | .inr x => k (.inr (.inl (((), ()), ((x.1, x.2, ()), ()))))) N (fun m p => by kernel_rfl) (hg := (by rintro _ _ (_ | _) <;> rfl))
noncomputable def sp_rastray (N : Nat) : Spec := mkS 37 ⟨[.agg [.sl Qd, .sl Qc, .i .i64], .sl (.int .i64)], []⟩ rastray_o (fun p => rastray_S N p.1.1.1 p.1.1.2.1 p.1.1.2.2.1 p.1.2.1) (fun k r => k ((r.1, (r.2.1, r.2.2.1, ()), r.2.2.2, ()), ()))
theorem sp_rastray_ok (N : Nat) : SpecOK Tryz.prog (sp_rastray N) := mkF (R := Int × Int × Int × Bool) (m0 := 0) (rastray_sp N) [rastray_l3_L N, rastray_l2_L N, rastray_l1_L N] (fun r => some (r.1.1, r.1.2.1.1, r.1.2.1.2.1, r.1.2.2.1)) [] Tryz.func37 (fun p => by kernel_rfl) (by kernel_rfl) (fun _ => by kernel_rfl)

def tastray_j2 (N : Nat) (reading l : List Int) (turn e w n : Int) (t : List Qe) (t2 : List Qf) (t3 : Int) (own : List Qe) (own2 : List Qf) (own3 run run2 span span2 : Int) : Option Bool :=
 br (decide (turn = n))
  (br (decide (run = span) && decide (run2 = span2))
   (br (decide (e = w))
    ((same_S N own own2 own3 t t2 t3).bind fun x_23 =>
    br x_23
     ((likei_S N l reading).bind fun x_24 =>
     br x_24
      ((awake_S N).bind fun x_25 =>
      some x_25)
      (some false))
     (some false))
    (some false))
   (some false))
  (some false)
def tastray_j1 (N : Nat) (reading l : List Int) (turn e w : Int) (t : List Qe) (t2 : List Qf) (t3 : Int) (own : List Qe) (own2 : List Qf) (own3 : Int) (x : List Qe) (x2 : List Qf) (x3 run run2 : Int) : Option Bool :=
 br (decide (w = 0))
  ((rastray_S N x x2 x3 reading).bind fun (x_19, y_20, y_21, y_22) =>
  br (!y_22)
   (tastray_j2 N reading l turn e 6 x_19 t t2 t3 own own2 own3 run run2 y_20 y_21)
   (tastray_j2 N reading l turn e w x_19 t t2 t3 own own2 own3 run run2 y_20 y_21))
  (tastray_j2 N reading l turn e w 0 t t2 t3 own own2 own3 run run2 0 0)
def tastray_S (N : Nat) (t : List Qe) (t2 : List Qf) (t3 : Int) (reading : List Int) : Option Bool :=
 (great_S N t t2 t3 20).bind fun x_1 =>
 br x_1
  ((awake_S N).bind fun x_2 =>
  some x_2)
  (br (decide (20 < (reading.length : Int)))
   ((awake_S N).bind fun x_3 =>
   some x_3)
   ((copyx_S N t t2 t3).bind fun (x_4, y_5, y_6) =>
   (theirs_S N t t2 t3).bind fun (x_7, y_8, y_9) =>
   (copyi_S N reading).bind fun x_10 =>
   (astray_S N x_4 y_5 y_6 x_10).bind fun (x_11, y_12, y_13, y_14) =>
   (rreading_S N x_7 y_8 y_9 reading).bind fun x_15 =>
   br (decide (x_15 = 0))
    ((rwrong_S N x_7 y_8 y_9 reading).bind fun (x_16, y_17, y_18) =>
    br (!decide (y_18 = 6))
     (tastray_j1 N reading x_10 x_11 y_14 8 t t2 t3 x_4 y_5 y_6 x_7 y_8 y_9 y_12 y_13)
     (tastray_j1 N reading x_10 x_11 y_14 x_15 t t2 t3 x_4 y_5 y_6 x_7 y_8 y_9 y_12 y_13))
    (tastray_j1 N reading x_10 x_11 y_14 x_15 t t2 t3 x_4 y_5 y_6 x_7 y_8 y_9 y_12 y_13)))
noncomputable def tastray_sp (N : Nat) : Oks := [⟨_, sp_astray_ok N⟩, ⟨_, sp_likei_ok N⟩, ⟨_, sp_awake_ok N⟩, ⟨_, sp_copyi_ok N⟩, ⟨_, sp_copyx_ok N⟩, ⟨_, sp_same_ok N⟩, ⟨_, sp_theirs_ok N⟩, ⟨_, sp_great_ok N⟩, ⟨_, sp_rreading_ok N⟩, ⟨_, sp_rwrong_ok N⟩, ⟨_, sp_rastray_ok N⟩]
abbrev tastray_o : List StSh := [⟨[.b], []⟩]
noncomputable abbrev tastray_B : Body := mkB Tryz.f7 tastray_o 0
abbrev tastray_rt : altD tastray_o → Option Bool := fun r => some r.1.1
noncomputable def tastray_j2_k (N : Nat) : JnQ (Z := Bool) tastray_B true (some tastray_rt) [] := mkJ (tastray_sp N) [] [] ⟨[.c [1, 1, 1, 1, 1, 1, 1, 1, 0], .c [1, 1, 1, 1, 1, 1, 1, 1, 1]], ⟨[1, 2, 5, 7, 8, 9, 10, 11, 15, 16], ⟨[.sl (.int .i64), .own 0 0, .own 1 0, .sl (.int .i64), .i .i64, .own 2 0, .i .i64, .i .i64, .i .i64, .own 3 0], [.segs [.sl Qd, .sl Qc, .i .i64], .segs [.sl Qd, .sl Qc, .i .i64], .segs [.i .i64, .i .i64], .segs [.i .i64, .i .i64]]⟩⟩, fun p => tastray_j2 N p.1.1 p.1.2.2.2.1 p.1.2.2.2.2.1 p.1.2.2.2.2.2.2.1 p.1.2.2.2.2.2.2.2.1 p.1.2.2.2.2.2.2.2.2.1 p.2.1.1 p.2.1.2.1 p.2.1.2.2.1 p.2.2.1.1 p.2.2.1.2.1 p.2.2.1.2.2.1 p.2.2.2.1.1 p.2.2.2.1.2.1 p.2.2.2.2.1.1 p.2.2.2.2.1.2.1⟩ (fun p => by kernel_rfl)
noncomputable def tastray_j1_k (N : Nat) : JnQ (Z := Bool) tastray_B true (some tastray_rt) [] := mkJ (tastray_sp N) [] [tastray_j2_k N] ⟨[.c [1, 1, 1, 1, 1, 1, 0], .c [1, 1, 1, 1, 1, 1, 1]], ⟨[1, 2, 5, 6, 7, 8, 9, 10, 11], ⟨[.sl (.int .i64), .own 0 0, .own 1 0, .own 2 0, .sl (.int .i64), .i .i64, .own 3 0, .i .i64, .i .i64], [.segs [.sl Qd, .sl Qc, .i .i64], .segs [.sl Qd, .sl Qc, .i .i64], .segs [.sl Qd, .sl Qc, .i .i64], .segs [.i .i64, .i .i64]]⟩⟩, fun p => tastray_j1 N p.1.1 p.1.2.2.2.2.1 p.1.2.2.2.2.2.1 p.1.2.2.2.2.2.2.2.1 p.1.2.2.2.2.2.2.2.2.1 p.2.1.1 p.2.1.2.1 p.2.1.2.2.1 p.2.2.1.1 p.2.2.1.2.1 p.2.2.1.2.2.1 p.2.2.2.1.1 p.2.2.2.1.2.1 p.2.2.2.1.2.2.1 p.2.2.2.2.1.1 p.2.2.2.2.1.2.1⟩ (fun p => by kernel_rfl)
noncomputable def sp_tastray (N : Nat) : Spec := mkS 7 ⟨[.agg [.sl Qd, .sl Qc, .i .i64], .sl (.int .i64)], []⟩ tastray_o (fun p => tastray_S N p.1.1.1 p.1.1.2.1 p.1.1.2.2.1 p.1.2.1) (fun k r => k ((r, ()), ()))
theorem sp_tastray_ok (N : Nat) : SpecOK Tryz.prog (sp_tastray N) := mkF (R := Bool) (m0 := 0) (tastray_sp N) [] (tastray_rt) [tastray_j2_k N, tastray_j1_k N] Tryz.func7 (fun p => by kernel_rfl) (by kernel_rfl) (fun _ => by kernel_rfl)

def rkept_l1 (N : Nat) : Nat → Qg → Int → Qh → Qi → Int → Option ((Unit) ⊕ Qg)
 | 0, _, _, _, _, _ => none
 | n_ + 1, l, i, t, t2, t3 =>
  br (decide (i < (l.length : Int)))
   (idx l i fun x_2 =>
   chk ((t.length : Int) - 1) <|
   (off_S N x_2 0 ((t.length : Int) - 1)).bind fun x_3 =>
   br x_3
    (some (.inl ()))
    (chk (i + 1) <|
    rkept_l1 N n_ l (i + 1) t t2 t3))
   (some (.inr l))
def rkept_l2 (N : Nat) : Nat → Qg → Int → Option ((Unit) ⊕ (Unit))
 | 0, _, _ => none
 | n_ + 1, l, i =>
  br (decide (i < (l.length : Int)))
   (chk (i - 1) <|
   idx l (i - 1) fun x_5 =>
   idx l i fun x_6 =>
   br (decide (x_6 ≤ x_5))
    (some (.inl ()))
    (chk (i + 1) <|
    rkept_l2 N n_ l (i + 1)))
   (some (.inr ()))
def rkept_S (N : Nat) (t : List Qe) (t2 : List Qf) (t3 : Int) (l : List Int) : Option Int :=
 (rcheck_S N t t2 t3).bind fun x_1 =>
 br (!decide (x_1 = 0))
  (some x_1)
  (br (decide ((l.length : Int) = 0))
   (some 2)
   ((rkept_l1 N N l 0 t t2 t3).bind fun e => match e with
   | .inl _ =>
    some 1
   | .inr l_4 =>
    (rkept_l2 N N l_4 1).bind fun e => match e with
    | .inl _ =>
     some 4
    | .inr _ =>
     some 0))
noncomputable def rkept_sp (N : Nat) : Oks := [⟨_, sp_off_ok N⟩, ⟨_, sp_rcheck_ok N⟩]
abbrev rkept_o : List StSh := [⟨[.i .i64], []⟩]
noncomputable abbrev rkept_B : Body := mkB Tryz.f98 rkept_o 0
noncomputable def rkept_l1_L (N : Nat) {top : Bool} : LpQ rkept_B top := mkL (Z := (Unit) ⊕ Qg) (rkept_sp N) [] [.c [1, 1, 1, 0, 1, 0, 0, 0, 0], .c [1, 1, 1, 0, 1, 0, 0, 0, 1], .c [1, 1, 1, 0, 1, 0, 0, 1], .l [1, 1, 1, 0, 1, 0, 0], .b 0, .c [1, 1, 1, 1]] ⟨[1, 2, 6], ⟨[.sl (.int .i64), .own 0 0, .i .i64], [.segs [.sl Qd, .sl Qc, .i .i64]]⟩⟩ (fun m p => rkept_l1 N m p.1.1 p.1.2.2.1 p.2.1.1 p.2.1.2.1 p.2.1.2.2.1) [⟨[.c [1, 1, 1, 0, 1, 0, 0, 1, 0, 0, 1, 0, 0], .c [1, 1, 1, 0, 1, 0, 0, 1, 0, 0, 1, 0, 1], .b 1, .c [1, 1, 1, 0, 1, 0, 0, 1, 1], .l [1, 1, 1, 0, 1, 0, 0], .b 0, .c [1, 1, 1, 1]], ⟨[], ⟨[], []⟩⟩, fun p => some (.inl ())⟩, ⟨[.c [1, 1, 1, 1, 0, 0], .c [1, 1, 1, 1, 0, 1], .c [1, 1, 1, 1, 1]], ⟨[1], ⟨[.sl (.int .i64)], []⟩⟩, fun p => some (.inr p.1.1)⟩] (fun _ => []) (fun k e => match e with | .inl x => k (.inl ((), ())) | .inr x => k (.inr (.inl ((x, ()), ())))) N (fun m p => by kernel_rfl) (hg := (by rintro _ _ (_ | _) <;> rfl))
noncomputable def rkept_l2_L (N : Nat) {top : Bool} : LpQ rkept_B top := mkL (Z := (Unit) ⊕ (Unit)) (rkept_sp N) [rkept_l1_L N] [.c [1, 1, 1, 1, 0, 1, 0, 0, 0, 0], .c [1, 1, 1, 1, 0, 1, 0, 0, 0, 1], .c [1, 1, 1, 1, 0, 1, 0, 0, 1], .l [1, 1, 1, 1, 0, 1, 0, 0], .b 2, .c [1, 1, 1, 1, 1]] ⟨[1, 7], ⟨[.sl (.int .i64), .i .i64], []⟩⟩ (fun m p => rkept_l2 N m p.1.1 p.1.2.1) [⟨[.c [1, 1, 1, 1, 0, 1, 0, 0, 1, 0, 0, 1, 0, 0], .c [1, 1, 1, 1, 0, 1, 0, 0, 1, 0, 0, 1, 0, 1], .b 3, .c [1, 1, 1, 1, 0, 1, 0, 0, 1, 1], .l [1, 1, 1, 1, 0, 1, 0, 0], .b 2, .c [1, 1, 1, 1, 1]], ⟨[], ⟨[], []⟩⟩, fun p => some (.inl ())⟩, ⟨[.c [1, 1, 1, 1, 1, 0], .c [1, 1, 1, 1, 1, 1]], ⟨[], ⟨[], []⟩⟩, fun p => some (.inr ())⟩] (fun _ => []) (fun k e => match e with | .inl x => k (.inl ((), ())) | .inr x => k (.inr (.inl ((), ())))) N (fun m p => by kernel_rfl) (hg := (by rintro _ _ (_ | _) <;> rfl))
noncomputable def sp_rkept (N : Nat) : Spec := mkS 98 ⟨[.agg [.sl Qd, .sl Qc, .i .i64], .sl (.int .i64)], []⟩ rkept_o (fun p => rkept_S N p.1.1.1 p.1.1.2.1 p.1.1.2.2.1 p.1.2.1) (fun k r => k ((r, ()), ()))
theorem sp_rkept_ok (N : Nat) : SpecOK Tryz.prog (sp_rkept N) := mkF (R := Int) (m0 := 0) (rkept_sp N) [rkept_l1_L N, rkept_l2_L N] (fun r => some r.1.1) [] Tryz.func98 (fun p => by kernel_rfl) (by kernel_rfl) (fun _ => by kernel_rfl)

def rweight_l1 (N : Nat) : Nat → Qg → Int → Int → Qh → Qi → Int → Option Int
 | 0, _, _, _, _, _, _ => none
 | n_ + 1, l, n, i, t, t2, t3 =>
  br (decide (i < (l.length : Int)))
   (idx l i fun x_1 =>
   idx t x_1 fun x_2 =>
   chk (n + x_2.2.1) <|
   chk (i + 1) <|
   rweight_l1 N n_ l (n + x_2.2.1) (i + 1) t t2 t3)
   (some (n))
def rweight_S (N : Nat) (t : List Qe) (t2 : List Qf) (t3 : Int) (l : List Int) : Option Int :=
 (rweight_l1 N N l 0 0 t t2 t3).bind fun n_3 =>
 some n_3
noncomputable def rweight_sp (N : Nat) : Oks := []
abbrev rweight_o : List StSh := [⟨[.i .i64], []⟩]
noncomputable abbrev rweight_B : Body := mkB Tryz.f99 rweight_o 0
noncomputable def rweight_l1_L (N : Nat) {top : Bool} : LpQ rweight_B top := mkL (Z := Int) (rweight_sp N) [] [.c [1, 1, 0, 1, 0, 0, 0, 0], .c [1, 1, 0, 1, 0, 0, 0, 1], .c [1, 1, 0, 1, 0, 0, 1], .l [1, 1, 0, 1, 0, 0], .b 0, .c [1, 1, 1]] ⟨[1, 2, 5, 6], ⟨[.sl (.int .i64), .own 0 0, .i .i64, .i .i64], [.segs [.sl Qd, .sl Qc, .i .i64]]⟩⟩ (fun m p => rweight_l1 N m p.1.1 p.1.2.2.1 p.1.2.2.2.1 p.2.1.1 p.2.1.2.1 p.2.1.2.2.1) [⟨[.c [1, 1, 1, 0], .c [1, 1, 1, 1]], ⟨[5], ⟨[.i .i64], []⟩⟩, fun p => some (p.1.1)⟩] (fun _ => []) (fun k e => k (.inl ((e, ()), ()))) N (fun m p => by kernel_rfl)
noncomputable def sp_rweight (N : Nat) : Spec := mkS 99 ⟨[.agg [.sl Qd, .sl Qc, .i .i64], .sl (.int .i64)], []⟩ rweight_o (fun p => rweight_S N p.1.1.1 p.1.1.2.1 p.1.1.2.2.1 p.1.2.1) (fun k r => k ((r, ()), ()))
theorem sp_rweight_ok (N : Nat) : SpecOK Tryz.prog (sp_rweight N) := mkF (R := Int) (m0 := 0) (rweight_sp N) [rweight_l1_L N] (fun r => some r.1.1) [] Tryz.func99 (fun p => by kernel_rfl) (by kernel_rfl) (fun _ => by kernel_rfl)

def rkeeps_S (N : Nat) (t : List Qe) (t2 : List Qf) (t3 : Int) (l : List Int) : Option (Bool × Int × Int) :=
 (rkept_S N t t2 t3 l).bind fun x_1 =>
 br (!decide (x_1 = 0))
  (some (false, 0, x_1))
  ((said_S N t t2 t3 l).bind fun x_2 =>
  (rweight_S N t t2 t3 l).bind fun x_3 =>
  some ((decide ((x_2.length : Int) = 0)), x_3, 0))
noncomputable def sp_rkeeps (N : Nat) : Spec := mkS 39 ⟨[.agg [.sl Qd, .sl Qc, .i .i64], .sl (.int .i64)], []⟩ [⟨[.b, .i .i64, .i .i64], []⟩] (fun p => rkeeps_S N p.1.1.1 p.1.1.2.1 p.1.1.2.2.1 p.1.2.1) (fun k r => k ((r.1, r.2.1, r.2.2, ()), ()))
theorem sp_rkeeps_ok (N : Nat) : SpecOK Tryz.prog (sp_rkeeps N) := mkF (R := Bool × Int × Int) (m0 := 0) [⟨_, sp_said_ok N⟩, ⟨_, sp_rkept_ok N⟩, ⟨_, sp_rweight_ok N⟩] [] (fun r => some (r.1.1, r.1.2.1, r.1.2.2.1)) [] Tryz.func39 (fun p => by kernel_rfl) (by kernel_rfl) (fun _ => by kernel_rfl)

def rshorter_j1 (N : Nat) (rec : Qg → Int → Int → Qh → Qi → Int → Int → Int → Qg → Qh → Option QA) (l : List Int) (at_ w : Int) (t : List Qe) (t2 : List Qf) (t3 g out : Int) (now : List Int) (out2 : List Qe) : Option QA :=
 chk (w + 1) <|
 rec l at_ (w + 1) t t2 t3 g out now out2
def rshorter_l1 (N : Nat) : Nat → Qg → Int → Int → Qh → Qi → Int → Int → Int → Qg → Qh → Option QA
 | 0, _, _, _, _, _, _, _, _, _, _ => none
 | n_ + 1, l, at_, w, t, t2, t3, g, out, now, out2 =>
  br (decide (w < (t.length : Int)))
   (rng w now.length <|
   get now w.toNat fun _ =>
   (has_S N l w).bind fun x_5 =>
   br x_5
    (chk (at_ + 1) <|
    rng w (now.set w.toNat (-1)).length <|
    get (now.set w.toNat (-1)) w.toNat fun _ =>
    idx t w fun x_7 =>
    lim (out2.length + [(x_7.1, x_7.2.1, x_7.2.2)].length) <|
    rshorter_j1 N (rshorter_l1 N n_) l (at_ + 1) w t t2 t3 g out ((now.set w.toNat (-1)).set w.toNat (at_ + 1)) (out2 ++ [(x_7.1, x_7.2.1, x_7.2.2)]))
    (br (decide (0 ≤ at_))
     (idx t w fun x_8 =>
     br x_8.2.2
      (rng at_ out2.length <|
      get out2 at_.toNat fun z_9 =>
      rshorter_j1 N (rshorter_l1 N n_) l at_ w t t2 t3 g out (now.set w.toNat (-1)) (out2.set at_.toNat (z_9.1, z_9.2.1, true)))
      (rshorter_j1 N (rshorter_l1 N n_) l at_ w t t2 t3 g out (now.set w.toNat (-1)) out2))
     (rshorter_j1 N (rshorter_l1 N n_) l at_ w t t2 t3 g out (now.set w.toNat (-1)) out2)))
   (some ((t, t2, t3, g, out, now, out2)))
def rshorter_l3 (N : Nat) : Nat → Int → Bool → Int → Qh → Qi → Int → Int → Int → Qg → Int → Int → Int → Qh → Qi → Option (Int × Bool × Qh × Qi × Int × Int × Int × List Int × Int × Int × Int × Qh × Qi)
 | 0, _, _, _, _, _, _, _, _, _, _, _, _, _, _ => none
 | n_ + 1, i, all, w, t, t2, t3, g, out, now, x, x2, x3, out2, out3 =>
  br (decide (w ≤ x3))
   (br all
    (rng w now.length <|
    get now w.toNat fun x_19 =>
    chk (w + 1) <|
    rshorter_l3 N n_ i (decide (0 ≤ x_19)) (w + 1) t t2 t3 g out now x x2 x3 out2 out3)
    (chk (w + 1) <|
    rshorter_l3 N n_ i false (w + 1) t t2 t3 g out now x x2 x3 out2 out3))
   (some ((i, all, t, t2, t3, g, out, now, x, x2, x3, out2, out3)))
def rshorter_j2 (N : Nat) (rec : Int → Qh → Qi → Int → Int → Int → Qg → Qh → Qi → Option Qu) (i : Int) (t : List Qe) (t2 : List Qf) (t3 g out : Int) (now : List Int) (out2 : List Qe) (out3 : List Qf) : Option Qu :=
 chk (i + 1) <|
 rec (i + 1) t t2 t3 g out now out2 out3
def rshorter_l2 (N : Nat) : Nat → Int → Qh → Qi → Int → Int → Int → Qg → Qh → Qi → Option Qu
 | 0, _, _, _, _, _, _, _, _, _ => none
 | n_ + 1, i, t, t2, t3, g, out, now, out2, out3 =>
  br (decide (i < (t2.length : Int)))
   (idx t2 i fun x_17 =>
   rng x_17.1 now.length <|
   get now x_17.1.toNat fun x_18 =>
   (rshorter_l3 N N i (decide (0 ≤ x_18)) x_17.2.1 t t2 t3 g out now x_17.1 x_17.2.1 x_17.2.2 out2 out3).bind fun (i_20, all_21, t_22, t2_23, t3_24, g_25, out_26, now_27, x_28, x2_29, x3_30, out2_31, out3_32) =>
   br all_21
    (rng x_28 now_27.length <|
    get now_27 x_28.toNat fun x_33 =>
    rng x2_29 now_27.length <|
    get now_27 x2_29.toNat fun x_34 =>
    rng x3_30 now_27.length <|
    get now_27 x3_30.toNat fun x_35 =>
    lim (out3_32.length + [(x_33, x_34, x_35)].length) <|
    rshorter_j2 N (rshorter_l2 N n_) i_20 t_22 t2_23 t3_24 g_25 out_26 now_27 out2_31 (out3_32 ++ [(x_33, x_34, x_35)]))
    (rshorter_j2 N (rshorter_l2 N n_) i_20 t_22 t2_23 t3_24 g_25 out_26 now_27 out2_31 out3_32))
   (some ((g, out, out2, out3)))
def rshorter_S (N : Nat) (t : List Qe) (t2 : List Qf) (t3 : Int) (l : List Int) : Option (Qh × Qi × Int × Int) :=
 (rkeeps_S N t t2 t3 l).bind fun (x_1, y_2, y_3) =>
 br (!decide (y_3 = 0))
  (some ([], [], 0, y_3))
  (br (!x_1)
   (some ([], [], 0, 8))
   (grd (lmI (t.length : Int)) <|
   (rshorter_l1 N N l (-1) 0 t t2 t3 0 t3 (List.replicate (t.length : Int).toNat (0 : Int)) []).bind fun (t_10, t2_11, t3_12, g_13, out_14, now_15, out2_16) =>
   (rshorter_l2 N N 0 t_10 t2_11 t3_12 g_13 out_14 now_15 out2_16 []).bind fun (g_36, out_37, out2_38, out3_39) =>
   some (out2_38, out3_39, out_37, 0)))
noncomputable def rshorter_sp (N : Nat) : Oks := [⟨_, sp_has_ok N⟩, ⟨_, sp_rkeeps_ok N⟩]
abbrev rshorter_o : List StSh := [⟨[.agg [.sl Qd, .sl Qc, .i .i64], .i .i64], []⟩]
noncomputable abbrev rshorter_B : Body := mkB Tryz.f41 rshorter_o 0
abbrev rshorter_l1_at : List PI := [.c [1, 1, 1, 1, 1, 1, 1, 0, 1, 0, 0, 0, 0], .c [1, 1, 1, 1, 1, 1, 1, 0, 1, 0, 0, 0, 1], .c [1, 1, 1, 1, 1, 1, 1, 0, 1, 0, 0, 1], .l [1, 1, 1, 1, 1, 1, 1, 0, 1, 0, 0], .b 0, .c [1, 1, 1, 1, 1, 1, 1, 1]]
abbrev rshorter_l1_st : Sta := ⟨[1, 2, 4, 9, 10, 11, 12], ⟨[.sl (.int .i64), .own 0 0, .own 1 0, .own 2 0, .ols 3, .i .i64, .i .i64], [.segs [.sl Qd, .sl Qc, .i .i64], .segs [.nils, .nils, .i .i64], .segs [.ols 4, .nils, .i .i64], .lst (.int .i64), .lst Qd]⟩⟩
abbrev rshorter_l1_h (rec : Qg → Int → Int → Qh → Qi → Int → Int → Int → Qg → Qh → Option QA) : Leaf QA := ⟨rshorter_l1_at, rshorter_l1_st, fun p => rec p.1.1 p.1.2.2.2.2.2.1 p.1.2.2.2.2.2.2.1 p.2.1.1 p.2.1.2.1 p.2.1.2.2.1 p.2.2.1.2.2.1 p.2.2.2.1.2.2.1 p.2.2.2.2.1 p.2.2.2.2.2.1⟩
abbrev rshorter_l1_e0 : Leaf QA := ⟨[.c [1, 1, 1, 1, 1, 1, 1, 1, 0, 0], .c [1, 1, 1, 1, 1, 1, 1, 1, 0, 1], .c [1, 1, 1, 1, 1, 1, 1, 1, 1]], ⟨[2, 4, 9, 10], ⟨[.own 0 0, .own 1 0, .own 2 0, .ols 3], [.segs [.sl Qd, .sl Qc, .i .i64], .segs [.nils, .nils, .i .i64], .segs [.ols 4, .nils, .i .i64], .lst (.int .i64), .lst Qd]⟩⟩, fun p => some ((p.2.1.1, p.2.1.2.1, p.2.1.2.2.1, p.2.2.1.2.2.1, p.2.2.2.1.2.2.1, p.2.2.2.2.1, p.2.2.2.2.2.1))⟩
noncomputable def rshorter_j1_k (N : Nat) (rec : Qg → Int → Int → Qh → Qi → Int → Int → Int → Qg → Qh → Option QA) {top : Bool} : JnQ (Z := Qh × Qi × Int × Int × Int × List Int × Qh) rshorter_B top none [rshorter_l1_h rec, rshorter_l1_e0] := mkJ (rshorter_sp N) [] [] ⟨[.c [1, 1, 1, 1, 1, 1, 1, 0, 1, 0, 0, 1, 1], .l [1, 1, 1, 1, 1, 1, 1, 0, 1, 0, 0], .b 0, .c [1, 1, 1, 1, 1, 1, 1, 1]], ⟨[1, 2, 4, 9, 10, 11, 12], ⟨[.sl (.int .i64), .own 0 0, .own 1 0, .own 2 0, .ols 3, .i .i64, .i .i64], [.segs [.sl Qd, .sl Qc, .i .i64], .segs [.nils, .nils, .i .i64], .segs [.ols 4, .nils, .i .i64], .lst (.int .i64), .lst Qd]⟩⟩, fun p => rshorter_j1 N rec p.1.1 p.1.2.2.2.2.2.1 p.1.2.2.2.2.2.2.1 p.2.1.1 p.2.1.2.1 p.2.1.2.2.1 p.2.2.1.2.2.1 p.2.2.2.1.2.2.1 p.2.2.2.2.1 p.2.2.2.2.2.1⟩ (fun p => by kernel_rfl)
noncomputable def rshorter_l1_L (N : Nat) {top : Bool} : LpQ rshorter_B top := mkL (Z := Qh × Qi × Int × Int × Int × List Int × Qh) (rshorter_sp N) [] rshorter_l1_at rshorter_l1_st (fun m p => rshorter_l1 N m p.1.1 p.1.2.2.2.2.2.1 p.1.2.2.2.2.2.2.1 p.2.1.1 p.2.1.2.1 p.2.1.2.2.1 p.2.2.1.2.2.1 p.2.2.2.1.2.2.1 p.2.2.2.2.1 p.2.2.2.2.2.1) [rshorter_l1_e0] (fun m => [rshorter_j1_k N (rshorter_l1 N m)]) (fun k e => k (.inl (((), (), (), (), ()), ((e.1, e.2.1, e.2.2.1, ()), ((), (), e.2.2.2.1, ()), ((), (), e.2.2.2.2.1, ()), e.2.2.2.2.2.1, e.2.2.2.2.2.2, ())))) N (fun m p => by kernel_rfl)
noncomputable def rshorter_l3_L (N : Nat) {top : Bool} : LpQ rshorter_B top := mkL (Z := Int × Bool × Qh × Qi × Int × Int × Int × List Int × Int × Int × Int × Qh × Qi) (rshorter_sp N) [rshorter_l1_L N] [.c [1, 1, 1, 1, 1, 1, 1, 1, 0, 1, 0, 0, 1, 0, 0, 1, 1, 0, 1, 0, 0, 0, 0], .c [1, 1, 1, 1, 1, 1, 1, 1, 0, 1, 0, 0, 1, 0, 0, 1, 1, 0, 1, 0, 0, 0, 1], .c [1, 1, 1, 1, 1, 1, 1, 1, 0, 1, 0, 0, 1, 0, 0, 1, 1, 0, 1, 0, 0, 1], .l [1, 1, 1, 1, 1, 1, 1, 1, 0, 1, 0, 0, 1, 0, 0, 1, 1, 0, 1, 0, 0], .b 4, .c [1, 1, 1, 1, 1, 1, 1, 1, 0, 1, 0, 0, 1, 0, 0, 1, 1, 1], .b 3, .c [1, 1, 1, 1, 1, 1, 1, 1, 0, 1, 0, 0, 1, 1], .l [1, 1, 1, 1, 1, 1, 1, 1, 0, 1, 0, 0], .b 2, .c [1, 1, 1, 1, 1, 1, 1, 1, 1]] ⟨[2, 4, 9, 10, 13, 14, 15, 16], ⟨[.own 0 0, .own 1 0, .own 2 0, .ols 3, .i .i64, .own 4 0, .b, .i .i64], [.segs [.sl Qd, .sl Qc, .i .i64], .segs [.nils, .nils, .i .i64], .segs [.ols 5, .ols 6, .i .i64], .lst (.int .i64), .segs [.i .i64, .i .i64, .i .i64], .lst Qd, .lst Qc]⟩⟩ (fun m p => rshorter_l3 N m p.1.2.2.2.2.1 p.1.2.2.2.2.2.2.1 p.1.2.2.2.2.2.2.2.1 p.2.1.1 p.2.1.2.1 p.2.1.2.2.1 p.2.2.1.2.2.1 p.2.2.2.1.2.2.1 p.2.2.2.2.1 p.2.2.2.2.2.1.1 p.2.2.2.2.2.1.2.1 p.2.2.2.2.2.1.2.2.1 p.2.2.2.2.2.2.1 p.2.2.2.2.2.2.2.1) [⟨[.c [1, 1, 1, 1, 1, 1, 1, 1, 0, 1, 0, 0, 1, 0, 0, 1, 1, 1, 0], .c [1, 1, 1, 1, 1, 1, 1, 1, 0, 1, 0, 0, 1, 0, 0, 1, 1, 1, 1], .b 3, .c [1, 1, 1, 1, 1, 1, 1, 1, 0, 1, 0, 0, 1, 1], .l [1, 1, 1, 1, 1, 1, 1, 1, 0, 1, 0, 0], .b 2, .c [1, 1, 1, 1, 1, 1, 1, 1, 1]], ⟨[2, 4, 9, 10, 13, 14, 15], ⟨[.own 0 0, .own 1 0, .own 2 0, .ols 3, .i .i64, .own 4 0, .b], [.segs [.sl Qd, .sl Qc, .i .i64], .segs [.nils, .nils, .i .i64], .segs [.ols 5, .ols 6, .i .i64], .lst (.int .i64), .segs [.i .i64, .i .i64, .i .i64], .lst Qd, .lst Qc]⟩⟩, fun p => some ((p.1.2.2.2.2.1, p.1.2.2.2.2.2.2.1, p.2.1.1, p.2.1.2.1, p.2.1.2.2.1, p.2.2.1.2.2.1, p.2.2.2.1.2.2.1, p.2.2.2.2.1, p.2.2.2.2.2.1.1, p.2.2.2.2.2.1.2.1, p.2.2.2.2.2.1.2.2.1, p.2.2.2.2.2.2.1, p.2.2.2.2.2.2.2.1))⟩] (fun _ => []) (fun k e => k (.inl (((), (), (), (), e.1, (), e.2.1, ()), ((e.2.2.1, e.2.2.2.1, e.2.2.2.2.1, ()), ((), (), e.2.2.2.2.2.1, ()), ((), (), e.2.2.2.2.2.2.1, ()), e.2.2.2.2.2.2.2.1, (e.2.2.2.2.2.2.2.2.1, e.2.2.2.2.2.2.2.2.2.1, e.2.2.2.2.2.2.2.2.2.2.1, ()), e.2.2.2.2.2.2.2.2.2.2.2.1, e.2.2.2.2.2.2.2.2.2.2.2.2, ())))) N (fun m p => by kernel_rfl)
abbrev rshorter_l2_at : List PI := [.c [1, 1, 1, 1, 1, 1, 1, 1, 0, 1, 0, 0, 0, 0], .c [1, 1, 1, 1, 1, 1, 1, 1, 0, 1, 0, 0, 0, 1], .c [1, 1, 1, 1, 1, 1, 1, 1, 0, 1, 0, 0, 1], .l [1, 1, 1, 1, 1, 1, 1, 1, 0, 1, 0, 0], .b 2, .c [1, 1, 1, 1, 1, 1, 1, 1, 1]]
abbrev rshorter_l2_st : Sta := ⟨[2, 4, 9, 10, 13], ⟨[.own 0 0, .own 1 0, .own 2 0, .ols 3, .i .i64], [.segs [.sl Qd, .sl Qc, .i .i64], .segs [.nils, .nils, .i .i64], .segs [.ols 4, .ols 5, .i .i64], .lst (.int .i64), .lst Qd, .lst Qc]⟩⟩
abbrev rshorter_l2_h (rec : Int → Qh → Qi → Int → Int → Int → Qg → Qh → Qi → Option Qu) : Leaf Qu := ⟨rshorter_l2_at, rshorter_l2_st, fun p => rec p.1.2.2.2.2.1 p.2.1.1 p.2.1.2.1 p.2.1.2.2.1 p.2.2.1.2.2.1 p.2.2.2.1.2.2.1 p.2.2.2.2.1 p.2.2.2.2.2.1 p.2.2.2.2.2.2.1⟩
abbrev rshorter_l2_e0 : Leaf Qu := ⟨[.c [1, 1, 1, 1, 1, 1, 1, 1, 1, 0], .c [1, 1, 1, 1, 1, 1, 1, 1, 1, 1]], ⟨[4, 9], ⟨[.own 0 0, .own 1 0], [.segs [.nils, .nils, .i .i64], .segs [.ols 2, .ols 3, .i .i64], .lst Qd, .lst Qc]⟩⟩, fun p => some ((p.2.1.2.2.1, p.2.2.1.2.2.1, p.2.2.2.1, p.2.2.2.2.1))⟩
noncomputable def rshorter_j2_k (N : Nat) (rec : Int → Qh → Qi → Int → Int → Int → Qg → Qh → Qi → Option Qu) {top : Bool} : JnQ (Z := Int × Int × Qh × Qi) rshorter_B top none [rshorter_l2_h rec, rshorter_l2_e0] := mkJ (rshorter_sp N) [rshorter_l1_L N, rshorter_l3_L N] [] ⟨[.c [1, 1, 1, 1, 1, 1, 1, 1, 0, 1, 0, 0, 1, 1], .l [1, 1, 1, 1, 1, 1, 1, 1, 0, 1, 0, 0], .b 2, .c [1, 1, 1, 1, 1, 1, 1, 1, 1]], ⟨[2, 4, 9, 10, 13], ⟨[.own 0 0, .own 1 0, .own 2 0, .ols 3, .i .i64], [.segs [.sl Qd, .sl Qc, .i .i64], .segs [.nils, .nils, .i .i64], .segs [.ols 4, .ols 5, .i .i64], .lst (.int .i64), .lst Qd, .lst Qc]⟩⟩, fun p => rshorter_j2 N rec p.1.2.2.2.2.1 p.2.1.1 p.2.1.2.1 p.2.1.2.2.1 p.2.2.1.2.2.1 p.2.2.2.1.2.2.1 p.2.2.2.2.1 p.2.2.2.2.2.1 p.2.2.2.2.2.2.1⟩ (fun p => by kernel_rfl)
noncomputable def rshorter_l2_L (N : Nat) {top : Bool} : LpQ rshorter_B top := mkL (Z := Int × Int × Qh × Qi) (rshorter_sp N) [rshorter_l1_L N, rshorter_l3_L N] rshorter_l2_at rshorter_l2_st (fun m p => rshorter_l2 N m p.1.2.2.2.2.1 p.2.1.1 p.2.1.2.1 p.2.1.2.2.1 p.2.2.1.2.2.1 p.2.2.2.1.2.2.1 p.2.2.2.2.1 p.2.2.2.2.2.1 p.2.2.2.2.2.2.1) [rshorter_l2_e0] (fun m => [rshorter_j2_k N (rshorter_l2 N m)]) (fun k e => k (.inl (((), (), ()), (((), (), e.1, ()), ((), (), e.2.1, ()), e.2.2.1, e.2.2.2, ())))) N (fun m p => by kernel_rfl)
noncomputable def sp_rshorter (N : Nat) : Spec := mkS 41 ⟨[.agg [.sl Qd, .sl Qc, .i .i64], .sl (.int .i64)], []⟩ rshorter_o (fun p => rshorter_S N p.1.1.1 p.1.1.2.1 p.1.1.2.2.1 p.1.2.1) (fun k r => k (((r.1, r.2.1, r.2.2.1, ()), r.2.2.2, ()), ()))
theorem sp_rshorter_ok (N : Nat) : SpecOK Tryz.prog (sp_rshorter N) := mkF (R := Qh × Qi × Int × Int) (m0 := 0) (rshorter_sp N) [rshorter_l1_L N, rshorter_l3_L N, rshorter_l2_L N] (fun r => some (r.1.1.1, r.1.1.2.1, r.1.1.2.2.1, r.1.2.1)) [] Tryz.func41 (fun p => by kernel_rfl) (by kernel_rfl) (fun _ => by kernel_rfl)

def rprice_j1 (N : Nat) (rec : Int → Int → Int → Qh → Qi → Int → Option Qn) (pence n i : Int) (t : List Qe) (t2 : List Qf) (t3 : Int) : Option Qn :=
 chk (n + 1) <|
 chk (i + 1) <|
 rec pence (n + 1) (i + 1) t t2 t3
def rprice_l1 (N : Nat) : Nat → Int → Int → Int → Qh → Qi → Int → Option Qn
 | 0, _, _, _, _, _, _ => none
 | n_ + 1, pence, n, i, t, t2, t3 =>
  br (decide (i < (t.length : Int)))
   (idx t i fun x_3 =>
   br (decide (3 < x_3.1))
    (chk (n + 1) <|
    rprice_j1 N (rprice_l1 N n_) pence (n + 1) i t t2 t3)
    (rprice_j1 N (rprice_l1 N n_) pence n i t t2 t3))
   (some ((pence, n)))
def rprice_S (N : Nat) (t : List Qe) (t2 : List Qf) (t3 pence : Int) : Option Qn :=
 (rcheck_S N t t2 t3).bind fun x_1 =>
 br (!decide (x_1 = 0))
  (some (0, x_1))
  ((off_S N pence 1 100).bind fun x_2 =>
  br x_2
   (some (0, 3))
   ((rprice_l1 N N pence 0 0 t t2 t3).bind fun (pence_4, n_5) =>
   chk (n_5 * pence_4) <|
   some ((n_5 * pence_4), 0)))
noncomputable def rprice_sp (N : Nat) : Oks := [⟨_, sp_off_ok N⟩, ⟨_, sp_rcheck_ok N⟩]
abbrev rprice_o : List StSh := [⟨[.i .i64, .i .i64], []⟩]
noncomputable abbrev rprice_B : Body := mkB Tryz.f43 rprice_o 0
abbrev rprice_l1_at : List PI := [.c [1, 1, 1, 1, 0, 1, 0, 0, 0, 0], .c [1, 1, 1, 1, 0, 1, 0, 0, 0, 1], .c [1, 1, 1, 1, 0, 1, 0, 0, 1], .l [1, 1, 1, 1, 0, 1, 0, 0], .b 0, .c [1, 1, 1, 1, 1]]
abbrev rprice_l1_st : Sta := ⟨[1, 2, 7, 8], ⟨[.i .i64, .own 0 0, .i .i64, .i .i64], [.segs [.sl Qd, .sl Qc, .i .i64]]⟩⟩
abbrev rprice_l1_h (rec : Int → Int → Int → Qh → Qi → Int → Option Qn) : Leaf Qn := ⟨rprice_l1_at, rprice_l1_st, fun p => rec p.1.1 p.1.2.2.1 p.1.2.2.2.1 p.2.1.1 p.2.1.2.1 p.2.1.2.2.1⟩
abbrev rprice_l1_e0 : Leaf Qn := ⟨[.c [1, 1, 1, 1, 1, 0], .c [1, 1, 1, 1, 1, 1]], ⟨[1, 7], ⟨[.i .i64, .i .i64], []⟩⟩, fun p => some ((p.1.1, p.1.2.1))⟩
noncomputable def rprice_j1_k (N : Nat) (rec : Int → Int → Int → Qh → Qi → Int → Option Qn) {top : Bool} : JnQ (Z := Int × Int) rprice_B top none [rprice_l1_h rec, rprice_l1_e0] := mkJ (rprice_sp N) [] [] ⟨[.c [1, 1, 1, 1, 0, 1, 0, 0, 1, 0, 0, 1], .b 1, .c [1, 1, 1, 1, 0, 1, 0, 0, 1, 1], .l [1, 1, 1, 1, 0, 1, 0, 0], .b 0, .c [1, 1, 1, 1, 1]], ⟨[1, 2, 7, 8], ⟨[.i .i64, .own 0 0, .i .i64, .i .i64], [.segs [.sl Qd, .sl Qc, .i .i64]]⟩⟩, fun p => rprice_j1 N rec p.1.1 p.1.2.2.1 p.1.2.2.2.1 p.2.1.1 p.2.1.2.1 p.2.1.2.2.1⟩ (fun p => by kernel_rfl)
noncomputable def rprice_l1_L (N : Nat) {top : Bool} : LpQ rprice_B top := mkL (Z := Int × Int) (rprice_sp N) [] rprice_l1_at rprice_l1_st (fun m p => rprice_l1 N m p.1.1 p.1.2.2.1 p.1.2.2.2.1 p.2.1.1 p.2.1.2.1 p.2.1.2.2.1) [rprice_l1_e0] (fun m => [rprice_j1_k N (rprice_l1 N m)]) (fun k e => k (.inl ((e.1, e.2, ()), ()))) N (fun m p => by kernel_rfl)
noncomputable def sp_rprice (N : Nat) : Spec := mkS 43 ⟨[.agg [.sl Qd, .sl Qc, .i .i64], .i .i64], []⟩ rprice_o (fun p => rprice_S N p.1.1.1 p.1.1.2.1 p.1.1.2.2.1 p.1.2.1) (fun k r => k ((r.1, r.2, ()), ()))
theorem sp_rprice_ok (N : Nat) : SpecOK Tryz.prog (sp_rprice N) := mkF (R := Int × Int) (m0 := 0) (rprice_sp N) [rprice_l1_L N] (fun r => some (r.1.1, r.1.2.1)) [] Tryz.func43 (fun p => by kernel_rfl) (by kernel_rfl) (fun _ => by kernel_rfl)

def tshorter_l1 (N : Nat) : Nat → Qg → Int → Qg → Int → Int → Qh → Qi → Int → Qh → Qi → Int → Qh → Qi → Int → Int → Qh → Qi → Int → Qh → Qi → Option ((Unit) ⊕ (List Int × Int × List Int × Qh × Qi × Int × Qh × Qi × Int × Qh × Qi × Int × Int × Qh × Qi × Int × Qh × Qi))
 | 0, _, _, _, _, _, _, _, _, _, _, _, _, _, _, _, _, _, _, _, _ => none
 | n_ + 1, kept, pence, l, u, u2, t, t2, t3, own, own2, own3, x, x2, x3, out, want, want2, want3, g, out2 =>
  br (decide (u2 < u))
   (rng u2 g.length <|
   get g u2.toNat fun x_25 =>
   idx want u2 fun x_26 =>
   br (!(decide (x_25.1 = x_26.1) && (decide (x_25.2.1 = x_26.2.1) && (x_25.2.2 == x_26.2.2))))
    (some (.inl ()))
    (chk (u2 + 1) <|
    tshorter_l1 N n_ kept pence l u (u2 + 1) t t2 t3 own own2 own3 x x2 x3 out want want2 want3 g out2))
   (some (.inr (kept, pence, l, t, t2, t3, own, own2, own3, x, x2, x3, out, want, want2, want3, g, out2)))
def tshorter_l2 (N : Nat) : Nat → Qg → Int → Qg → Int → Int → Qh → Qi → Int → Qh → Qi → Int → Qh → Qi → Int → Int → Qh → Qi → Int → Qi → Qh → Option ((Unit) ⊕ (List Int × Int × List Int × Qh × Qi × Int × Qh × Qi × Int × Qh × Qi × Int × Int × Qh × Qi))
 | 0, _, _, _, _, _, _, _, _, _, _, _, _, _, _, _, _, _, _, _, _ => none
 | n_ + 1, kept, pence, l, u, u2, t, t2, t3, own, own2, own3, x, x2, x3, out, want, want2, want3, g, out2 =>
  br (decide (u2 < u))
   (rng u2 g.length <|
   get g u2.toNat fun x_45 =>
   idx want2 u2 fun x_46 =>
   br (!(decide (x_45.1 = x_46.1) && (decide (x_45.2.1 = x_46.2.1) && decide (x_45.2.2 = x_46.2.2))))
    (some (.inl ()))
    (chk (u2 + 1) <|
    tshorter_l2 N n_ kept pence l u (u2 + 1) t t2 t3 own own2 own3 x x2 x3 out want want2 want3 g out2))
   (some (.inr (kept, pence, l, t, t2, t3, own, own2, own3, x, x2, x3, out, out2, g)))
def tshorter_S (N : Nat) (t : List Qe) (t2 : List Qf) (t3 : Int) (kept : List Int) (pence : Int) : Option Bool :=
 (great_S N t t2 t3 20).bind fun x_1 =>
 br x_1
  ((awake_S N).bind fun x_2 =>
  some x_2)
  (br (decide (20 < (kept.length : Int)))
   ((awake_S N).bind fun x_3 =>
   some x_3)
   ((copyx_S N t t2 t3).bind fun (x_4, y_5, y_6) =>
   (theirs_S N t t2 t3).bind fun (x_7, y_8, y_9) =>
   (copyi_S N kept).bind fun x_10 =>
   (lkeeps_S N x_4 y_5 y_6 x_10).bind fun (x_11, y_12, y_13) =>
   (rkeeps_S N x_7 y_8 y_9 kept).bind fun (x_14, y_15, y_16) =>
   br (!(x_11 == x_14))
    (some false)
    (br (!decide (y_12 = y_15))
     (some false)
     (br (!decide (y_13 = y_16))
      (some false)
      ((shorter_S N x_4 y_5 y_6 x_10).bind fun (x_17, y_18, y_19, y_20) =>
      (rshorter_S N x_7 y_8 y_9 kept).bind fun (x_21, y_22, y_23, y_24) =>
      br (!decide (y_18 = y_24))
       (some false)
       (br (!decide ((y_19.length : Int) = (x_21.length : Int)))
        (some false)
        (br (!decide ((y_20.length : Int) = (y_22.length : Int)))
         (some false)
         (br (!decide (x_17 = y_23))
          (some false)
          ((tshorter_l1 N N kept pence x_10 (y_19.length : Int) 0 t t2 t3 x_4 y_5 y_6 x_7 y_8 y_9 x_17 x_21 y_22 y_23 y_19 y_20).bind fun e => match e with
          | .inl _ =>
           some false
          | .inr (kept_27, pence_28, l_29, t_30, t2_31, t3_32, own_33, own2_34, own3_35, x_36, x2_37, x3_38, out_39, want_40, want2_41, want3_42, out2_43, out3_44) =>
           (tshorter_l2 N N kept_27 pence_28 l_29 (out3_44.length : Int) 0 t_30 t2_31 t3_32 own_33 own2_34 own3_35 x_36 x2_37 x3_38 out_39 want_40 want2_41 want3_42 out3_44 out2_43).bind fun e => match e with
           | .inl _ =>
            some false
           | .inr (kept_47, pence_48, l_49, t_50, t2_51, t3_52, own_53, own2_54, own3_55, x_56, x2_57, x3_58, out_59, out2_60, out3_61) =>
            (price_S N own_53 own2_54 own3_55 pence_48).bind fun (x_62, y_63) =>
            (rprice_S N x_56 x2_57 x3_58 pence_48).bind fun (x_64, y_65) =>
            br (decide (x_62 = x_64))
             (br (decide (y_63 = y_65))
              ((same_S N own_53 own2_54 own3_55 t_50 t2_51 t3_52).bind fun x_66 =>
              br x_66
               ((likei_S N l_49 kept_47).bind fun x_67 =>
               br x_67
                ((awake_S N).bind fun x_68 =>
                some x_68)
                (some false))
               (some false))
              (some false))
             (some false))))))))))
noncomputable def tshorter_sp (N : Nat) : Oks := [⟨_, sp_price_ok N⟩, ⟨_, sp_lkeeps_ok N⟩, ⟨_, sp_shorter_ok N⟩, ⟨_, sp_likei_ok N⟩, ⟨_, sp_awake_ok N⟩, ⟨_, sp_copyi_ok N⟩, ⟨_, sp_copyx_ok N⟩, ⟨_, sp_same_ok N⟩, ⟨_, sp_theirs_ok N⟩, ⟨_, sp_great_ok N⟩, ⟨_, sp_rkeeps_ok N⟩, ⟨_, sp_rshorter_ok N⟩, ⟨_, sp_rprice_ok N⟩]
abbrev tshorter_o : List StSh := [⟨[.b], []⟩]
noncomputable abbrev tshorter_B : Body := mkB Tryz.f8 tshorter_o 0
noncomputable def tshorter_l1_L (N : Nat) {top : Bool} : LpQ tshorter_B top := mkL (Z := (Unit) ⊕ (List Int × Int × List Int × Qh × Qi × Int × Qh × Qi × Int × Qh × Qi × Int × Int × Qh × Qi × Int × Qh × Qi)) (tshorter_sp N) [] [.c [1, 1, 1, 1, 1, 1, 1, 1, 1, 0, 1, 0, 0, 0], .c [1, 1, 1, 1, 1, 1, 1, 1, 1, 0, 1, 0, 0, 1], .l [1, 1, 1, 1, 1, 1, 1, 1, 1, 0, 1, 0, 0], .b 0, .c [1, 1, 1, 1, 1, 1, 1, 1, 1, 1]] ⟨[1, 2, 3, 7, 8, 9, 16, 17, 104, 105, 106], ⟨[.sl (.int .i64), .i .i64, .own 0 0, .own 1 0, .own 2 0, .sl (.int .i64), .own 3 0, .own 4 0, .ols 5, .i .i64, .i .i64], [.segs [.sl Qd, .sl Qc, .i .i64], .segs [.sl Qd, .sl Qc, .i .i64], .segs [.sl Qd, .sl Qc, .i .i64], .segs [.ols 5, .ols 6, .i .i64], .segs [.sl Qd, .sl Qc, .i .i64], .lst Qd, .lst Qc]⟩⟩ (fun m p => tshorter_l1 N m p.1.1 p.1.2.1 p.1.2.2.2.2.2.1 p.1.2.2.2.2.2.2.2.2.2.1 p.1.2.2.2.2.2.2.2.2.2.2.1 p.2.1.1 p.2.1.2.1 p.2.1.2.2.1 p.2.2.1.1 p.2.2.1.2.1 p.2.2.1.2.2.1 p.2.2.2.1.1 p.2.2.2.1.2.1 p.2.2.2.1.2.2.1 p.2.2.2.2.1.2.2.1 p.2.2.2.2.2.1.1 p.2.2.2.2.2.1.2.1 p.2.2.2.2.2.1.2.2.1 p.2.2.2.2.2.2.1 p.2.2.2.2.2.2.2.1) [⟨[.c [1, 1, 1, 1, 1, 1, 1, 1, 1, 0, 1, 0, 0, 1, 1, 0, 0, 1, 1, 0, 0], .c [1, 1, 1, 1, 1, 1, 1, 1, 1, 0, 1, 0, 0, 1, 1, 0, 0, 1, 1, 0, 1], .b 1, .c [1, 1, 1, 1, 1, 1, 1, 1, 1, 0, 1, 0, 0, 1, 1, 1], .l [1, 1, 1, 1, 1, 1, 1, 1, 1, 0, 1, 0, 0], .b 0, .c [1, 1, 1, 1, 1, 1, 1, 1, 1, 1]], ⟨[], ⟨[], []⟩⟩, fun p => some (.inl ())⟩, ⟨[.c [1, 1, 1, 1, 1, 1, 1, 1, 1, 1, 0, 0], .c [1, 1, 1, 1, 1, 1, 1, 1, 1, 1, 0, 1], .c [1, 1, 1, 1, 1, 1, 1, 1, 1, 1, 1]], ⟨[1, 2, 3, 7, 8, 9, 16, 17], ⟨[.sl (.int .i64), .i .i64, .own 0 0, .own 1 0, .own 2 0, .sl (.int .i64), .own 3 0, .own 4 0], [.segs [.sl Qd, .sl Qc, .i .i64], .segs [.sl Qd, .sl Qc, .i .i64], .segs [.sl Qd, .sl Qc, .i .i64], .segs [.ols 5, .ols 6, .i .i64], .segs [.sl Qd, .sl Qc, .i .i64], .lst Qd, .lst Qc]⟩⟩, fun p => some (.inr (p.1.1, p.1.2.1, p.1.2.2.2.2.2.1, p.2.1.1, p.2.1.2.1, p.2.1.2.2.1, p.2.2.1.1, p.2.2.1.2.1, p.2.2.1.2.2.1, p.2.2.2.1.1, p.2.2.2.1.2.1, p.2.2.2.1.2.2.1, p.2.2.2.2.1.2.2.1, p.2.2.2.2.2.1.1, p.2.2.2.2.2.1.2.1, p.2.2.2.2.2.1.2.2.1, p.2.2.2.2.2.2.1, p.2.2.2.2.2.2.2.1))⟩] (fun _ => []) (fun k e => match e with | .inl x => k (.inl ((), ())) | .inr x => k (.inr (.inl ((x.1, x.2.1, (), (), (), x.2.2.1, (), (), ()), ((x.2.2.2.1, x.2.2.2.2.1, x.2.2.2.2.2.1, ()), (x.2.2.2.2.2.2.1, x.2.2.2.2.2.2.2.1, x.2.2.2.2.2.2.2.2.1, ()), (x.2.2.2.2.2.2.2.2.2.1, x.2.2.2.2.2.2.2.2.2.2.1, x.2.2.2.2.2.2.2.2.2.2.2.1, ()), ((), (), x.2.2.2.2.2.2.2.2.2.2.2.2.1, ()), (x.2.2.2.2.2.2.2.2.2.2.2.2.2.1, x.2.2.2.2.2.2.2.2.2.2.2.2.2.2.1, x.2.2.2.2.2.2.2.2.2.2.2.2.2.2.2.1, ()), x.2.2.2.2.2.2.2.2.2.2.2.2.2.2.2.2.1, x.2.2.2.2.2.2.2.2.2.2.2.2.2.2.2.2.2, ()))))) N (fun m p => by kernel_rfl) (hg := (by rintro _ _ (_ | _) <;> rfl))
noncomputable def tshorter_l2_L (N : Nat) {top : Bool} : LpQ tshorter_B top := mkL (Z := (Unit) ⊕ (List Int × Int × List Int × Qh × Qi × Int × Qh × Qi × Int × Qh × Qi × Int × Int × Qh × Qi)) (tshorter_sp N) [tshorter_l1_L N] [.c [1, 1, 1, 1, 1, 1, 1, 1, 1, 1, 0, 1, 0, 0, 0], .c [1, 1, 1, 1, 1, 1, 1, 1, 1, 1, 0, 1, 0, 0, 1], .l [1, 1, 1, 1, 1, 1, 1, 1, 1, 1, 0, 1, 0, 0], .b 2, .c [1, 1, 1, 1, 1, 1, 1, 1, 1, 1, 1]] ⟨[1, 2, 3, 7, 8, 9, 16, 17, 120, 121, 122], ⟨[.sl (.int .i64), .i .i64, .own 0 0, .own 1 0, .own 2 0, .sl (.int .i64), .own 3 0, .own 4 0, .ols 5, .i .i64, .i .i64], [.segs [.sl Qd, .sl Qc, .i .i64], .segs [.sl Qd, .sl Qc, .i .i64], .segs [.sl Qd, .sl Qc, .i .i64], .segs [.ols 6, .ols 5, .i .i64], .segs [.sl Qd, .sl Qc, .i .i64], .lst Qc, .lst Qd]⟩⟩ (fun m p => tshorter_l2 N m p.1.1 p.1.2.1 p.1.2.2.2.2.2.1 p.1.2.2.2.2.2.2.2.2.2.1 p.1.2.2.2.2.2.2.2.2.2.2.1 p.2.1.1 p.2.1.2.1 p.2.1.2.2.1 p.2.2.1.1 p.2.2.1.2.1 p.2.2.1.2.2.1 p.2.2.2.1.1 p.2.2.2.1.2.1 p.2.2.2.1.2.2.1 p.2.2.2.2.1.2.2.1 p.2.2.2.2.2.1.1 p.2.2.2.2.2.1.2.1 p.2.2.2.2.2.1.2.2.1 p.2.2.2.2.2.2.1 p.2.2.2.2.2.2.2.1) [⟨[.c [1, 1, 1, 1, 1, 1, 1, 1, 1, 1, 0, 1, 0, 0, 1, 1, 0, 0, 1, 1, 0, 0], .c [1, 1, 1, 1, 1, 1, 1, 1, 1, 1, 0, 1, 0, 0, 1, 1, 0, 0, 1, 1, 0, 1], .b 3, .c [1, 1, 1, 1, 1, 1, 1, 1, 1, 1, 0, 1, 0, 0, 1, 1, 1], .l [1, 1, 1, 1, 1, 1, 1, 1, 1, 1, 0, 1, 0, 0], .b 2, .c [1, 1, 1, 1, 1, 1, 1, 1, 1, 1, 1]], ⟨[], ⟨[], []⟩⟩, fun p => some (.inl ())⟩, ⟨[.c [1, 1, 1, 1, 1, 1, 1, 1, 1, 1, 1, 0], .c [1, 1, 1, 1, 1, 1, 1, 1, 1, 1, 1, 1]], ⟨[1, 2, 3, 7, 8, 9, 16], ⟨[.sl (.int .i64), .i .i64, .own 0 0, .own 1 0, .own 2 0, .sl (.int .i64), .own 3 0], [.segs [.sl Qd, .sl Qc, .i .i64], .segs [.sl Qd, .sl Qc, .i .i64], .segs [.sl Qd, .sl Qc, .i .i64], .segs [.ols 4, .ols 5, .i .i64], .lst Qd, .lst Qc]⟩⟩, fun p => some (.inr (p.1.1, p.1.2.1, p.1.2.2.2.2.2.1, p.2.1.1, p.2.1.2.1, p.2.1.2.2.1, p.2.2.1.1, p.2.2.1.2.1, p.2.2.1.2.2.1, p.2.2.2.1.1, p.2.2.2.1.2.1, p.2.2.2.1.2.2.1, p.2.2.2.2.1.2.2.1, p.2.2.2.2.2.1, p.2.2.2.2.2.2.1))⟩] (fun _ => []) (fun k e => match e with | .inl x => k (.inl ((), ())) | .inr x => k (.inr (.inl ((x.1, x.2.1, (), (), (), x.2.2.1, (), ()), ((x.2.2.2.1, x.2.2.2.2.1, x.2.2.2.2.2.1, ()), (x.2.2.2.2.2.2.1, x.2.2.2.2.2.2.2.1, x.2.2.2.2.2.2.2.2.1, ()), (x.2.2.2.2.2.2.2.2.2.1, x.2.2.2.2.2.2.2.2.2.2.1, x.2.2.2.2.2.2.2.2.2.2.2.1, ()), ((), (), x.2.2.2.2.2.2.2.2.2.2.2.2.1, ()), x.2.2.2.2.2.2.2.2.2.2.2.2.2.1, x.2.2.2.2.2.2.2.2.2.2.2.2.2.2, ()))))) N (fun m p => by kernel_rfl) (hg := (by rintro _ _ (_ | _) <;> rfl))
noncomputable def sp_tshorter (N : Nat) : Spec := mkS 8 ⟨[.agg [.sl Qd, .sl Qc, .i .i64], .sl (.int .i64), .i .i64], []⟩ tshorter_o (fun p => tshorter_S N p.1.1.1 p.1.1.2.1 p.1.1.2.2.1 p.1.2.1 p.1.2.2.1) (fun k r => k ((r, ()), ()))
theorem sp_tshorter_ok (N : Nat) : SpecOK Tryz.prog (sp_tshorter N) := mkF (R := Bool) (m0 := 0) (tshorter_sp N) [tshorter_l1_L N, tshorter_l2_L N] (fun r => some r.1.1) [] Tryz.func8 (fun p => by kernel_rfl) (by kernel_rfl) (fun _ => by kernel_rfl)

end Go.Proofs.YtfamlpbdhhikdaaGreat

namespace Go.Proofs.YtfamlpbdhhikdaaGreat
set_option linter.all false
open Go

end Go.Proofs.YtfamlpbdhhikdaaGreat

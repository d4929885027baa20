/-
  Parts of a proof, put together: X3, TAw, TP2, TP3, TP4, TP5, TD1, TD2, TD3, TD4, TD5, X4, X5, TD6, TD7, TD8, TD9, TB, TL1, TL2, TL3, TL4, TL5, TL6, TL7, TL8, TL9, TM1.
  Conditions: none.
-/
import Derived.Test.YtfamlpbdhhikdaaZg
namespace Go.Proofs.Ytfamlpbdhhikdaa
set_option linter.all false
open Go

def copyw_S (N : Nat) (l : List (Int × (Int × Bool))) : Option (List (Int × (Int × Bool))) :=
  grd (lmI (l.length : Int)) <|
  some (l.take (min l.length (List.replicate (l.length : Int).toNat ((0, (0, false)) : (Int × (Int × Bool)))).length) ++ (List.replicate (l.length : Int).toNat ((0, (0, false)) : (Int × (Int × Bool)))).drop (min l.length (List.replicate (l.length : Int).toNat ((0, (0, false)) : (Int × (Int × Bool)))).length))
noncomputable def copyw_sp (N : Nat) : List Spec := []
theorem copyw_all (N : Nat) : AllP (SpecOK Try.prog) (copyw_sp N) := trivial
noncomputable def copyw_c : Code := (Try.f84.body).getD .skip
noncomputable abbrev copyw_B : Body := { c := copyw_c, n := 11, res := [.tmp 2], outs := [⟨[.sl (.pair (.int .i64) (.pair (.int .i64) .bool))], []⟩], m0 := 0 }
abbrev copyw_rt : altD copyw_B.outs → Option (List (Int × (Int × Bool))) := fun r => some r.1.1
abbrev copyw_st : Sta := ⟨[0], ⟨[.sl (.pair (.int .i64) (.pair (.int .i64) .bool))], []⟩⟩
theorem copyw_eq (N : Nat) (l : List (Int × (Int × Bool))) : ev (Z := (List (Int × (Int × Bool)))) Try.prog (copyw_sp N) copyw_B [] [] (some copyw_rt) 400 false [.c [0], .c [1]] (stL copyw_st ((l, ()), ())) (stH copyw_st ((l, ()), ())) = copyw_S N l := by kernel_rfl
noncomputable def sp_copyw (N : Nat) : Spec := { f := 84, ins := ⟨[.sl (.pair (.int .i64) (.pair (.int .i64) .bool))], []⟩, outs := [⟨[.sl (.pair (.int .i64) (.pair (.int .i64) .bool))], []⟩], run := fun p k => (copyw_S N p.1.1).bind fun r => k ((r, ()), ()) }
theorem sp_copyw_ok (N : Nat) : SpecOK Try.prog (sp_copyw N) := fn_sound (B := copyw_B) (loops := []) (leaves := []) (fun p => copyw_S N p.1.1) (fun r => ((r, ()), ())) copyw_rt (fun _ _ _ => rfl) (fun r z h => by cases h; rfl) Try.func84 (by kernel_rfl) (by kernel_rfl) (by kernel_rfl) rfl rfl (by kernel_rfl) (fun args w => Sem.pv_run _ _ _ (by kernel_rfl) w) (copyw_all N) mixed trivial (fun z E Xc hE hX hret => trivial) (fun p => copyw_eq N p.1.1)

def copyt_S (N : Nat) (l : List (Int × (Int × Int))) : Option (List (Int × (Int × Int))) :=
  grd (lmI (l.length : Int)) <|
  some (l.take (min l.length (List.replicate (l.length : Int).toNat ((0, (0, 0)) : (Int × (Int × Int)))).length) ++ (List.replicate (l.length : Int).toNat ((0, (0, 0)) : (Int × (Int × Int)))).drop (min l.length (List.replicate (l.length : Int).toNat ((0, (0, 0)) : (Int × (Int × Int)))).length))
noncomputable def copyt_sp (N : Nat) : List Spec := []
theorem copyt_all (N : Nat) : AllP (SpecOK Try.prog) (copyt_sp N) := trivial
noncomputable def copyt_c : Code := (Try.f85.body).getD .skip
noncomputable abbrev copyt_B : Body := { c := copyt_c, n := 11, res := [.tmp 2], outs := [⟨[.sl (.pair (.int .i64) (.pair (.int .i64) (.int .i64)))], []⟩], m0 := 0 }
abbrev copyt_rt : altD copyt_B.outs → Option (List (Int × (Int × Int))) := fun r => some r.1.1
abbrev copyt_st : Sta := ⟨[0], ⟨[.sl (.pair (.int .i64) (.pair (.int .i64) (.int .i64)))], []⟩⟩
theorem copyt_eq (N : Nat) (l : List (Int × (Int × Int))) : ev (Z := (List (Int × (Int × Int)))) Try.prog (copyt_sp N) copyt_B [] [] (some copyt_rt) 400 false [.c [0], .c [1]] (stL copyt_st ((l, ()), ())) (stH copyt_st ((l, ()), ())) = copyt_S N l := by kernel_rfl
noncomputable def sp_copyt (N : Nat) : Spec := { f := 85, ins := ⟨[.sl (.pair (.int .i64) (.pair (.int .i64) (.int .i64)))], []⟩, outs := [⟨[.sl (.pair (.int .i64) (.pair (.int .i64) (.int .i64)))], []⟩], run := fun p k => (copyt_S N p.1.1).bind fun r => k ((r, ()), ()) }
theorem sp_copyt_ok (N : Nat) : SpecOK Try.prog (sp_copyt N) := fn_sound (B := copyt_B) (loops := []) (leaves := []) (fun p => copyt_S N p.1.1) (fun r => ((r, ()), ())) copyt_rt (fun _ _ _ => rfl) (fun r z h => by cases h; rfl) Try.func85 (by kernel_rfl) (by kernel_rfl) (by kernel_rfl) rfl rfl (by kernel_rfl) (fun args w => Sem.pv_run _ _ _ (by kernel_rfl) w) (copyt_all N) mixed trivial (fun z E Xc hE hX hret => trivial) (fun p => copyt_eq N p.1.1)

def copyx_S (N : Nat) (t : List (Int × (Int × Bool))) (t2 : List (Int × (Int × Int))) (t3 : Int) : Option ((List (Int × (Int × Bool))) × (List (Int × (Int × Int))) × Int) :=
  (copyw_S N t).bind fun x_1 =>
  (copyt_S N t2).bind fun x_2 =>
  some (x_1, x_2, t3)
noncomputable def copyx_sp (N : Nat) : List Spec := [sp_copyw N, sp_copyt N]
theorem copyx_all (N : Nat) : AllP (SpecOK Try.prog) (copyx_sp N) := ⟨sp_copyw_ok N, sp_copyt_ok N, trivial⟩
noncomputable def copyx_c : Code := (Try.f20.body).getD .skip
noncomputable abbrev copyx_B : Body := { c := copyx_c, n := 12, res := [.cell 2 25], outs := [⟨[.agg [.sl (.pair (.int .i64) (.pair (.int .i64) .bool)), .sl (.pair (.int .i64) (.pair (.int .i64) (.int .i64))), .i .i64]], []⟩], m0 := 0 }
abbrev copyx_rt : altD copyx_B.outs → Option ((List (Int × (Int × Bool))) × (List (Int × (Int × Int))) × Int) := fun r => some (r.1.1.1, r.1.1.2.1, r.1.1.2.2.1)
abbrev copyx_st : Sta := ⟨[0], ⟨[.agg [.sl (.pair (.int .i64) (.pair (.int .i64) .bool)), .sl (.pair (.int .i64) (.pair (.int .i64) (.int .i64))), .i .i64]], []⟩⟩
theorem copyx_eq (N : Nat) (t : List (Int × (Int × Bool))) (t2 : List (Int × (Int × Int))) (t3 : Int) : ev (Z := (List (Int × (Int × Bool))) × (List (Int × (Int × Int))) × Int) Try.prog (copyx_sp N) copyx_B [] [] (some copyx_rt) 400 false [.c [0], .c [1]] (stL copyx_st (((t, t2, t3, ()), ()), ())) (stH copyx_st (((t, t2, t3, ()), ()), ())) = copyx_S N t t2 t3 := by kernel_rfl
noncomputable def sp_copyx (N : Nat) : Spec := { f := 20, ins := ⟨[.agg [.sl (.pair (.int .i64) (.pair (.int .i64) .bool)), .sl (.pair (.int .i64) (.pair (.int .i64) (.int .i64))), .i .i64]], []⟩, outs := [⟨[.agg [.sl (.pair (.int .i64) (.pair (.int .i64) .bool)), .sl (.pair (.int .i64) (.pair (.int .i64) (.int .i64))), .i .i64]], []⟩], run := fun p k => (copyx_S N p.1.1.1 p.1.1.2.1 p.1.1.2.2.1).bind fun r => k (((r.1, r.2.1, r.2.2, ()), ()), ()) }
theorem sp_copyx_ok (N : Nat) : SpecOK Try.prog (sp_copyx N) := fn_sound (B := copyx_B) (loops := []) (leaves := []) (fun p => copyx_S N p.1.1.1 p.1.1.2.1 p.1.1.2.2.1) (fun r => (((r.1, r.2.1, r.2.2, ()), ()), ())) copyx_rt (fun _ _ _ => rfl) (fun r z h => by cases h; rfl) Try.func20 (by kernel_rfl) (by kernel_rfl) (by kernel_rfl) rfl rfl (by kernel_rfl) (fun args w => Sem.pv_run _ _ _ (by kernel_rfl) w) (copyx_all N) mixed trivial (fun z E Xc hE hX hret => trivial) (fun p => copyx_eq N p.1.1.1 p.1.1.2.1 p.1.1.2.2.1)

def same_S (N : Nat) (a : List (Int × (Int × Bool))) (a2 : List (Int × (Int × Int))) (a3 : Int) (b : List (Int × (Int × Bool))) (b2 : List (Int × (Int × Int))) (b3 : Int) : Option Bool :=
  (likew_S N a b).bind fun x_1 =>
  br x_1
    ((liket_S N a2 b2).bind fun x_2 =>
    br x_2
      (some (decide (a3 = b3)))
      (some false))
    (some false)
noncomputable def same_sp (N : Nat) : List Spec := [sp_likew N, sp_liket N]
theorem same_all (N : Nat) : AllP (SpecOK Try.prog) (same_sp N) := ⟨sp_likew_ok N, sp_liket_ok N, trivial⟩
noncomputable def same_c : Code := (Try.f28.body).getD .skip
noncomputable abbrev same_B : Body := { c := same_c, n := 24, res := [.tmp 4], outs := [⟨[.b], []⟩], m0 := 0 }
abbrev same_rt : altD same_B.outs → Option Bool := fun r => some r.1.1
abbrev same_st : Sta := ⟨[0, 1], ⟨[.agg [.sl (.pair (.int .i64) (.pair (.int .i64) .bool)), .sl (.pair (.int .i64) (.pair (.int .i64) (.int .i64))), .i .i64], .agg [.sl (.pair (.int .i64) (.pair (.int .i64) .bool)), .sl (.pair (.int .i64) (.pair (.int .i64) (.int .i64))), .i .i64]], []⟩⟩
theorem same_eq (N : Nat) (a : List (Int × (Int × Bool))) (a2 : List (Int × (Int × Int))) (a3 : Int) (b : List (Int × (Int × Bool))) (b2 : List (Int × (Int × Int))) (b3 : Int) : ev (Z := Bool) Try.prog (same_sp N) same_B [] [] (some same_rt) 400 false [.c [0], .c [1]] (stL same_st (((a, a2, a3, ()), (b, b2, b3, ()), ()), ())) (stH same_st (((a, a2, a3, ()), (b, b2, b3, ()), ()), ())) = same_S N a a2 a3 b b2 b3 := by kernel_rfl
noncomputable def sp_same (N : Nat) : Spec := { f := 28, ins := ⟨[.agg [.sl (.pair (.int .i64) (.pair (.int .i64) .bool)), .sl (.pair (.int .i64) (.pair (.int .i64) (.int .i64))), .i .i64], .agg [.sl (.pair (.int .i64) (.pair (.int .i64) .bool)), .sl (.pair (.int .i64) (.pair (.int .i64) (.int .i64))), .i .i64]], []⟩, outs := [⟨[.b], []⟩], run := fun p k => (same_S N p.1.1.1 p.1.1.2.1 p.1.1.2.2.1 p.1.2.1.1 p.1.2.1.2.1 p.1.2.1.2.2.1).bind fun r => k ((r, ()), ()) }
theorem sp_same_ok (N : Nat) : SpecOK Try.prog (sp_same N) := fn_sound (B := same_B) (loops := []) (leaves := []) (fun p => same_S N p.1.1.1 p.1.1.2.1 p.1.1.2.2.1 p.1.2.1.1 p.1.2.1.2.1 p.1.2.1.2.2.1) (fun r => ((r, ()), ())) same_rt (fun _ _ _ => rfl) (fun r z h => by cases h; rfl) Try.func28 (by kernel_rfl) (by kernel_rfl) (by kernel_rfl) rfl rfl (by kernel_rfl) (fun args w => Sem.pv_run _ _ _ (by kernel_rfl) w) (same_all N) mixed trivial (fun z E Xc hE hX hret => trivial) (fun p => same_eq N p.1.1.1 p.1.1.2.1 p.1.1.2.2.1 p.1.2.1.1 p.1.2.1.2.1 p.1.2.1.2.2.1)

def theirs_l1 (N : Nat) : Nat → (List (Int × (Int × Bool))) → Int → Int → (List (Int × (Int × Bool))) → (List (Int × (Int × Int))) → Int → Int → Int → (List (Int × (Int × Bool))) → Option ((List (Int × (Int × Bool))) × (List (Int × (Int × Int))) × Int × Int × Int × (List (Int × (Int × Bool))))
  | 0, _, _, _, _, _, _, _, _, _ => none
  | n_ + 1, u, u2, u3, t, t2, t3, g, out, out2 =>
    br (decide (u3 < u2))
      (idx u u3 fun x_1 =>
      lim (out2.length + [(x_1.1, x_1.2.1, x_1.2.2)].length) <|
      chk (u3 + 1) <|
      theirs_l1 N n_ u u2 (u3 + 1) t t2 t3 g out (out2 ++ [(x_1.1, x_1.2.1, x_1.2.2)]))
      (some ((t, t2, t3, g, out, out2)))
def theirs_l2 (N : Nat) : Nat → (List (Int × (Int × Int))) → Int → Int → Int → Int → (List (Int × (Int × Bool))) → (List (Int × (Int × Int))) → Option (Int × Int × (List (Int × (Int × Bool))) × (List (Int × (Int × Int))))
  | 0, _, _, _, _, _, _, _ => none
  | n_ + 1, u, u2, u3, g, out, out2, out3 =>
    br (decide (u3 < u2))
      (idx u u3 fun x_8 =>
      lim (out3.length + [(x_8.1, x_8.2.1, x_8.2.2)].length) <|
      chk (u3 + 1) <|
      theirs_l2 N n_ u u2 (u3 + 1) g out out2 (out3 ++ [(x_8.1, x_8.2.1, x_8.2.2)]))
      (some ((g, out, out2, out3)))
def theirs_S (N : Nat) (t : List (Int × (Int × Bool))) (t2 : List (Int × (Int × Int))) (t3 : Int) : Option ((List (Int × (Int × Bool))) × (List (Int × (Int × Int))) × Int) :=
  (theirs_l1 N N t (t.length : Int) 0 t t2 t3 0 t3 []).bind fun (t_2, t2_3, t3_4, g_5, out_6, out2_7) =>
  (theirs_l2 N N t2_3 (t2_3.length : Int) 0 g_5 out_6 out2_7 []).bind fun (g_9, out_10, out2_11, out3_12) =>
  some (out2_11, out3_12, out_10)
noncomputable def theirs_sp (N : Nat) : List Spec := []
theorem theirs_all (N : Nat) : AllP (SpecOK Try.prog) (theirs_sp N) := trivial
noncomputable def theirs_c : Code := (Try.f21.body).getD .skip
noncomputable abbrev theirs_B : Body := { c := theirs_c, n := 40, res := [.cell 2 32], outs := [⟨[.agg [.sl (.pair (.int .i64) (.pair (.int .i64) .bool)), .sl (.pair (.int .i64) (.pair (.int .i64) (.int .i64))), .i .i64]], []⟩], m0 := 0 }
abbrev theirs_rt : altD theirs_B.outs → Option ((List (Int × (Int × Bool))) × (List (Int × (Int × Int))) × Int) := fun r => some (r.1.1.1, r.1.1.2.1, r.1.1.2.2.1)
abbrev theirs_l1_at : List PI := [.c [1, 1, 0, 1, 0, 0, 0], .c [1, 1, 0, 1, 0, 0, 1], .l [1, 1, 0, 1, 0, 0], .b 0, .c [1, 1, 1]]
abbrev theirs_l1_st : Sta := ⟨[1, 2, 3, 12, 13, 14], ⟨[.own 0 0, .own 1 0, .own 2 0, .sl (.pair (.int .i64) (.pair (.int .i64) .bool)), .i .i64, .i .i64], [.segs [.sl (.pair (.int .i64) (.pair (.int .i64) .bool)), .sl (.pair (.int .i64) (.pair (.int .i64) (.int .i64))), .i .i64], .segs [.nils, .nils, .i .i64], .segs [.ols 3, .nils, .i .i64], .lst (.pair (.int .i64) (.pair (.int .i64) .bool))]⟩⟩
abbrev theirs_l1_h (rec : (List (Int × (Int × Bool))) → Int → Int → (List (Int × (Int × Bool))) → (List (Int × (Int × Int))) → Int → Int → Int → (List (Int × (Int × Bool))) → Option ((List (Int × (Int × Bool))) × (List (Int × (Int × Int))) × Int × Int × Int × (List (Int × (Int × Bool))))) : Leaf ((List (Int × (Int × Bool))) × (List (Int × (Int × Int))) × Int × Int × Int × (List (Int × (Int × Bool)))) := ⟨theirs_l1_at, theirs_l1_st, fun p => rec p.1.2.2.2.1 p.1.2.2.2.2.1 p.1.2.2.2.2.2.1 p.2.1.1 p.2.1.2.1 p.2.1.2.2.1 p.2.2.1.2.2.1 p.2.2.2.1.2.2.1 p.2.2.2.2.1⟩
abbrev theirs_l1_e0 : Leaf ((List (Int × (Int × Bool))) × (List (Int × (Int × Int))) × Int × Int × Int × (List (Int × (Int × Bool)))) := ⟨[.c [1, 1, 1, 0, 0], .c [1, 1, 1, 0, 1], .c [1, 1, 1, 1]], ⟨[1, 2, 3], ⟨[.own 0 0, .own 1 0, .own 2 0], [.segs [.sl (.pair (.int .i64) (.pair (.int .i64) .bool)), .sl (.pair (.int .i64) (.pair (.int .i64) (.int .i64))), .i .i64], .segs [.nils, .nils, .i .i64], .segs [.ols 3, .nils, .i .i64], .lst (.pair (.int .i64) (.pair (.int .i64) .bool))]⟩⟩, fun p => some ((p.2.1.1, p.2.1.2.1, p.2.1.2.2.1, p.2.2.1.2.2.1, p.2.2.2.1.2.2.1, p.2.2.2.2.1))⟩
noncomputable def theirs_l1_L (N : Nat) : LoopS := { at_ := theirs_l1_at, sta := theirs_l1_st, exits := [([.c [1, 1, 1, 0, 0], .c [1, 1, 1, 0, 1], .c [1, 1, 1, 1]], ⟨[1, 2, 3], ⟨[.own 0 0, .own 1 0, .own 2 0], [.segs [.sl (.pair (.int .i64) (.pair (.int .i64) .bool)), .sl (.pair (.int .i64) (.pair (.int .i64) (.int .i64))), .i .i64], .segs [.nils, .nils, .i .i64], .segs [.ols 3, .nils, .i .i64], .lst (.pair (.int .i64) (.pair (.int .i64) .bool))]⟩⟩)], run := fun p k => (theirs_l1 N N p.1.2.2.2.1 p.1.2.2.2.2.1 p.1.2.2.2.2.2.1 p.2.1.1 p.2.1.2.1 p.2.1.2.2.1 p.2.2.1.2.2.1 p.2.2.2.1.2.2.1 p.2.2.2.2.1).bind fun e => k (.inl (((), (), (), ()), ((e.1, e.2.1, e.2.2.1, ()), ((), (), e.2.2.2.1, ()), ((), (), e.2.2.2.2.1, ()), e.2.2.2.2.2, ()))) }
theorem theirs_l1_eq (N n_ : Nat) (u : List (Int × (Int × Bool))) (u2 : Int) (u3 : Int) (t : List (Int × (Int × Bool))) (t2 : List (Int × (Int × Int))) (t3 : Int) (g : Int) (out : Int) (out2 : List (Int × (Int × Bool))) : ev (Z := (List (Int × (Int × Bool))) × (List (Int × (Int × Int))) × Int × Int × Int × (List (Int × (Int × Bool)))) Try.prog (theirs_sp N) theirs_B [] [theirs_l1_h (theirs_l1 N n_), theirs_l1_e0] none 400 true theirs_l1_at (stL theirs_l1_st (((), (), (), u, u2, u3, ()), ((t, t2, t3, ()), ((), (), g, ()), ((), (), out, ()), out2, ()))) (stH theirs_l1_st (((), (), (), u, u2, u3, ()), ((t, t2, t3, ()), ((), (), g, ()), ((), (), out, ()), out2, ()))) = theirs_l1 N (n_ + 1) u u2 u3 t t2 t3 g out out2 := by kernel_rfl
theorem theirs_l1_ok (N : Nat) {top : Bool} : LoopOK Try.prog theirs_B.c theirs_B.n theirs_B.m0 top (theirs_l1_L N) := loop_of_ev (Z := (List (Int × (Int × Bool))) × (List (Int × (Int × Int))) × Int × Int × Int × (List (Int × (Int × Bool)))) (N := N) (fun m p => theirs_l1 N m p.1.2.2.2.1 p.1.2.2.2.2.1 p.1.2.2.2.2.2.1 p.2.1.1 p.2.1.2.1 p.2.1.2.2.1 p.2.2.1.2.2.1 p.2.2.2.1.2.2.1 p.2.2.2.2.1) (fun e => .inl (((), (), (), ()), ((e.1, e.2.1, e.2.2.1, ()), ((), (), e.2.2.2.1, ()), ((), (), e.2.2.2.2.1, ()), e.2.2.2.2.2, ()))) (fun _ _ _ => rfl) (fun _ => rfl) (fun m z E Xc hE hX hrec hx => leaf_of_ev (B := theirs_B) (loops := []) (leaves := [theirs_l1_h (theirs_l1 N m), theirs_l1_e0]) (theirs_all N) mixed trivial hE hX ⟨hrec, (fun p hp => by obtain rfl := Option.some.inj hp; exact hx), trivial⟩ RetOK.no (fun p => theirs_l1_eq N m p.1.2.2.2.1 p.1.2.2.2.2.1 p.1.2.2.2.2.2.1 p.2.1.1 p.2.1.2.1 p.2.1.2.2.1 p.2.2.1.2.2.1 p.2.2.2.1.2.2.1 p.2.2.2.2.1))
abbrev theirs_l2_at : List PI := [.c [1, 1, 1, 0, 1, 0, 0, 0], .c [1, 1, 1, 0, 1, 0, 0, 1], .l [1, 1, 1, 0, 1, 0, 0], .b 2, .c [1, 1, 1, 1]]
abbrev theirs_l2_st : Sta := ⟨[2, 3, 26, 27, 28], ⟨[.own 0 0, .own 1 0, .sl (.pair (.int .i64) (.pair (.int .i64) (.int .i64))), .i .i64, .i .i64], [.segs [.nils, .nils, .i .i64], .segs [.ols 2, .ols 3, .i .i64], .lst (.pair (.int .i64) (.pair (.int .i64) .bool)), .lst (.pair (.int .i64) (.pair (.int .i64) (.int .i64)))]⟩⟩
abbrev theirs_l2_h (rec : (List (Int × (Int × Int))) → Int → Int → Int → Int → (List (Int × (Int × Bool))) → (List (Int × (Int × Int))) → Option (Int × Int × (List (Int × (Int × Bool))) × (List (Int × (Int × Int))))) : Leaf (Int × Int × (List (Int × (Int × Bool))) × (List (Int × (Int × Int)))) := ⟨theirs_l2_at, theirs_l2_st, fun p => rec p.1.2.2.1 p.1.2.2.2.1 p.1.2.2.2.2.1 p.2.1.2.2.1 p.2.2.1.2.2.1 p.2.2.2.1 p.2.2.2.2.1⟩
abbrev theirs_l2_e0 : Leaf (Int × Int × (List (Int × (Int × Bool))) × (List (Int × (Int × Int)))) := ⟨[.c [1, 1, 1, 1, 0], .c [1, 1, 1, 1, 1]], ⟨[2, 3], ⟨[.own 0 0, .own 1 0], [.segs [.nils, .nils, .i .i64], .segs [.ols 2, .ols 3, .i .i64], .lst (.pair (.int .i64) (.pair (.int .i64) .bool)), .lst (.pair (.int .i64) (.pair (.int .i64) (.int .i64)))]⟩⟩, fun p => some ((p.2.1.2.2.1, p.2.2.1.2.2.1, p.2.2.2.1, p.2.2.2.2.1))⟩
noncomputable def theirs_l2_L (N : Nat) : LoopS := { at_ := theirs_l2_at, sta := theirs_l2_st, exits := [([.c [1, 1, 1, 1, 0], .c [1, 1, 1, 1, 1]], ⟨[2, 3], ⟨[.own 0 0, .own 1 0], [.segs [.nils, .nils, .i .i64], .segs [.ols 2, .ols 3, .i .i64], .lst (.pair (.int .i64) (.pair (.int .i64) .bool)), .lst (.pair (.int .i64) (.pair (.int .i64) (.int .i64)))]⟩⟩)], run := fun p k => (theirs_l2 N N p.1.2.2.1 p.1.2.2.2.1 p.1.2.2.2.2.1 p.2.1.2.2.1 p.2.2.1.2.2.1 p.2.2.2.1 p.2.2.2.2.1).bind fun e => k (.inl (((), (), ()), (((), (), e.1, ()), ((), (), e.2.1, ()), e.2.2.1, e.2.2.2, ()))) }
theorem theirs_l2_eq (N n_ : Nat) (u : List (Int × (Int × Int))) (u2 : Int) (u3 : Int) (g : Int) (out : Int) (out2 : List (Int × (Int × Bool))) (out3 : List (Int × (Int × Int))) : ev (Z := Int × Int × (List (Int × (Int × Bool))) × (List (Int × (Int × Int)))) Try.prog (theirs_sp N) theirs_B [theirs_l1_L N] [theirs_l2_h (theirs_l2 N n_), theirs_l2_e0] none 400 true theirs_l2_at (stL theirs_l2_st (((), (), u, u2, u3, ()), (((), (), g, ()), ((), (), out, ()), out2, out3, ()))) (stH theirs_l2_st (((), (), u, u2, u3, ()), (((), (), g, ()), ((), (), out, ()), out2, out3, ()))) = theirs_l2 N (n_ + 1) u u2 u3 g out out2 out3 := by kernel_rfl
theorem theirs_l2_ok (N : Nat) {top : Bool} : LoopOK Try.prog theirs_B.c theirs_B.n theirs_B.m0 top (theirs_l2_L N) := loop_of_ev (Z := Int × Int × (List (Int × (Int × Bool))) × (List (Int × (Int × Int)))) (N := N) (fun m p => theirs_l2 N m p.1.2.2.1 p.1.2.2.2.1 p.1.2.2.2.2.1 p.2.1.2.2.1 p.2.2.1.2.2.1 p.2.2.2.1 p.2.2.2.2.1) (fun e => .inl (((), (), ()), (((), (), e.1, ()), ((), (), e.2.1, ()), e.2.2.1, e.2.2.2, ()))) (fun _ _ _ => rfl) (fun _ => rfl) (fun m z E Xc hE hX hrec hx => leaf_of_ev (B := theirs_B) (loops := [theirs_l1_L N]) (leaves := [theirs_l2_h (theirs_l2 N m), theirs_l2_e0]) (theirs_all N) mixed ⟨theirs_l1_ok N, trivial⟩ hE hX ⟨hrec, (fun p hp => by obtain rfl := Option.some.inj hp; exact hx), trivial⟩ RetOK.no (fun p => theirs_l2_eq N m p.1.2.2.1 p.1.2.2.2.1 p.1.2.2.2.2.1 p.2.1.2.2.1 p.2.2.1.2.2.1 p.2.2.2.1 p.2.2.2.2.1))
abbrev theirs_st : Sta := ⟨[0], ⟨[.agg [.sl (.pair (.int .i64) (.pair (.int .i64) .bool)), .sl (.pair (.int .i64) (.pair (.int .i64) (.int .i64))), .i .i64]], []⟩⟩
theorem theirs_eq (N : Nat) (t : List (Int × (Int × Bool))) (t2 : List (Int × (Int × Int))) (t3 : Int) : ev (Z := (List (Int × (Int × Bool))) × (List (Int × (Int × Int))) × Int) Try.prog (theirs_sp N) theirs_B [theirs_l1_L N, theirs_l2_L N] [] (some theirs_rt) 400 false [.c [0], .c [1]] (stL theirs_st (((t, t2, t3, ()), ()), ())) (stH theirs_st (((t, t2, t3, ()), ()), ())) = theirs_S N t t2 t3 := by kernel_rfl
noncomputable def sp_theirs (N : Nat) : Spec := { f := 21, ins := ⟨[.agg [.sl (.pair (.int .i64) (.pair (.int .i64) .bool)), .sl (.pair (.int .i64) (.pair (.int .i64) (.int .i64))), .i .i64]], []⟩, outs := [⟨[.agg [.sl (.pair (.int .i64) (.pair (.int .i64) .bool)), .sl (.pair (.int .i64) (.pair (.int .i64) (.int .i64))), .i .i64]], []⟩], run := fun p k => (theirs_S N p.1.1.1 p.1.1.2.1 p.1.1.2.2.1).bind fun r => k (((r.1, r.2.1, r.2.2, ()), ()), ()) }
theorem sp_theirs_ok (N : Nat) : SpecOK Try.prog (sp_theirs N) := fn_sound (B := theirs_B) (loops := [theirs_l1_L N, theirs_l2_L N]) (leaves := []) (fun p => theirs_S N p.1.1.1 p.1.1.2.1 p.1.1.2.2.1) (fun r => (((r.1, r.2.1, r.2.2, ()), ()), ())) theirs_rt (fun _ _ _ => rfl) (fun r z h => by cases h; rfl) Try.func21 (by kernel_rfl) (by kernel_rfl) (by kernel_rfl) rfl rfl (by kernel_rfl) (fun args w => Sem.pv_run _ _ _ (by kernel_rfl) w) (theirs_all N) mixed ⟨theirs_l1_ok N, theirs_l2_ok N, trivial⟩ (fun z E Xc hE hX hret => trivial) (fun p => theirs_eq N p.1.1.1 p.1.1.2.1 p.1.1.2.2.1)

def great_S (N : Nat) (t : List (Int × (Int × Bool))) (t2 : List (Int × (Int × Int))) (t3 : Int) (words : Int) : Option Bool :=
  br (decide (20 < (t.length : Int)))
    (some true)
    (br (decide (20 < (t2.length : Int)))
      (some true)
      (br (decide (words < (t.length : Int)))
        (some (decide ((t.length : Int) ≤ 12)))
        (some false)))
noncomputable def great_sp (N : Nat) : List Spec := []
theorem great_all (N : Nat) : AllP (SpecOK Try.prog) (great_sp N) := trivial
noncomputable def great_c : Code := (Try.f18.body).getD .skip
noncomputable abbrev great_B : Body := { c := great_c, n := 28, res := [.tmp 4], outs := [⟨[.b], []⟩], m0 := 0 }
abbrev great_rt : altD great_B.outs → Option Bool := fun r => some r.1.1
abbrev great_st : Sta := ⟨[0, 1], ⟨[.agg [.sl (.pair (.int .i64) (.pair (.int .i64) .bool)), .sl (.pair (.int .i64) (.pair (.int .i64) (.int .i64))), .i .i64], .i .i64], []⟩⟩
theorem great_eq (N : Nat) (t : List (Int × (Int × Bool))) (t2 : List (Int × (Int × Int))) (t3 : Int) (words : Int) : ev (Z := Bool) Try.prog (great_sp N) great_B [] [] (some great_rt) 400 false [.c [0], .c [1]] (stL great_st (((t, t2, t3, ()), words, ()), ())) (stH great_st (((t, t2, t3, ()), words, ()), ())) = great_S N t t2 t3 words := by kernel_rfl
noncomputable def sp_great (N : Nat) : Spec := { f := 18, ins := ⟨[.agg [.sl (.pair (.int .i64) (.pair (.int .i64) .bool)), .sl (.pair (.int .i64) (.pair (.int .i64) (.int .i64))), .i .i64], .i .i64], []⟩, outs := [⟨[.b], []⟩], run := fun p k => (great_S N p.1.1.1 p.1.1.2.1 p.1.1.2.2.1 p.1.2.1).bind fun r => k ((r, ()), ()) }
theorem sp_great_ok (N : Nat) : SpecOK Try.prog (sp_great N) := fn_sound (B := great_B) (loops := []) (leaves := []) (fun p => great_S N p.1.1.1 p.1.1.2.1 p.1.1.2.2.1 p.1.2.1) (fun r => ((r, ()), ())) great_rt (fun _ _ _ => rfl) (fun r z h => by cases h; rfl) Try.func18 (by kernel_rfl) (by kernel_rfl) (by kernel_rfl) rfl rfl (by kernel_rfl) (fun args w => Sem.pv_run _ _ _ (by kernel_rfl) w) (great_all N) mixed trivial (fun z E Xc hE hX hret => trivial) (fun p => great_eq N p.1.1.1 p.1.1.2.1 p.1.1.2.2.1 p.1.2.1)

def off_S (N : Nat) (n : Int) (lo : Int) (hi : Int) : Option Bool :=
  br (decide (n < lo))
    (some true)
    (some (decide (hi < n)))
noncomputable def off_sp (N : Nat) : List Spec := []
theorem off_all (N : Nat) : AllP (SpecOK Try.prog) (off_sp N) := trivial
noncomputable def off_c : Code := (Try.f92.body).getD .skip
noncomputable abbrev off_B : Body := { c := off_c, n := 15, res := [.tmp 6], outs := [⟨[.b], []⟩], m0 := 0 }
abbrev off_rt : altD off_B.outs → Option Bool := fun r => some r.1.1
abbrev off_st : Sta := ⟨[0, 1, 2], ⟨[.i .i64, .i .i64, .i .i64], []⟩⟩
theorem off_eq (N : Nat) (n : Int) (lo : Int) (hi : Int) : ev (Z := Bool) Try.prog (off_sp N) off_B [] [] (some off_rt) 400 false [.c [0], .c [1]] (stL off_st ((n, lo, hi, ()), ())) (stH off_st ((n, lo, hi, ()), ())) = off_S N n lo hi := by kernel_rfl
noncomputable def sp_off (N : Nat) : Spec := { f := 92, ins := ⟨[.i .i64, .i .i64, .i .i64], []⟩, outs := [⟨[.b], []⟩], run := fun p k => (off_S N p.1.1 p.1.2.1 p.1.2.2.1).bind fun r => k ((r, ()), ()) }
theorem sp_off_ok (N : Nat) : SpecOK Try.prog (sp_off N) := fn_sound (B := off_B) (loops := []) (leaves := []) (fun p => off_S N p.1.1 p.1.2.1 p.1.2.2.1) (fun r => ((r, ()), ())) off_rt (fun _ _ _ => rfl) (fun r z h => by cases h; rfl) Try.func92 (by kernel_rfl) (by kernel_rfl) (by kernel_rfl) rfl rfl (by kernel_rfl) (fun args w => Sem.pv_run _ _ _ (by kernel_rfl) w) (off_all N) mixed trivial (fun z E Xc hE hX hret => trivial) (fun p => off_eq N p.1.1 p.1.2.1 p.1.2.2.1)

def rcheck_l1 (N : Nat) : Nat → Int → Int → (List (Int × (Int × Bool))) → (List (Int × (Int × Int))) → Int → Option ((Unit) ⊕ (Int × (List (Int × (Int × Bool))) × (List (Int × (Int × Int))) × Int))
  | 0, _, _, _, _, _ => none
  | n_ + 1, many, i, t, t2, t3 =>
    br (decide (i < many))
      (idx t i fun x_3 =>
      (off_S N x_3.1 1 9).bind fun x_4 =>
      br x_4
        (some (.inl ()))
        (idx t i fun x_5 =>
        (off_S N x_5.2.1 0 20).bind fun x_6 =>
        br x_6
          (some (.inl ()))
          (chk (i + 1) <|
          rcheck_l1 N n_ many (i + 1) t t2 t3)))
      (some (.inr (many, t, t2, t3)))
def rcheck_l2 (N : Nat) : Nat → Int → Int → (List (Int × (Int × Bool))) → (List (Int × (Int × Int))) → Int → Option ((Unit) ⊕ ((List (Int × (Int × Bool))) × (List (Int × (Int × Int))) × Int))
  | 0, _, _, _, _, _ => none
  | n_ + 1, many, i, t, t2, t3 =>
    br (decide (i < (t2.length : Int)))
      (idx t2 i fun x_11 =>
      chk (many - 1) <|
      (off_S N x_11.1 0 (many - 1)).bind fun x_12 =>
      br x_12
        (some (.inl ()))
        (idx t2 i fun x_13 =>
        chk (many - 1) <|
        (off_S N x_13.2.1 0 (many - 1)).bind fun x_14 =>
        br x_14
          (some (.inl ()))
          (idx t2 i fun x_15 =>
          chk (many - 1) <|
          (off_S N x_15.2.2 0 (many - 1)).bind fun x_16 =>
          br x_16
            (some (.inl ()))
            (chk (i + 1) <|
            rcheck_l2 N n_ many (i + 1) t t2 t3))))
      (some (.inr (t, t2, t3)))
def rcheck_l3 (N : Nat) : Nat → Int → (List (Int × (Int × Bool))) → (List (Int × (Int × Int))) → Int → Option ((Unit) ⊕ ((List (Int × (Int × Bool))) × (List (Int × (Int × Int))) × Int))
  | 0, _, _, _, _ => none
  | n_ + 1, i, t, t2, t3 =>
    br (decide (i < (t2.length : Int)))
      (idx t2 i fun x_20 =>
      idx t2 i fun x_21 =>
      br (decide (x_21.2.2 < x_20.2.1))
        (some (.inl ()))
        (chk (i + 1) <|
        rcheck_l3 N n_ (i + 1) t t2 t3))
      (some (.inr (t, t2, t3)))
def rcheck_l4 (N : Nat) : Nat → Int → (List (Int × (Int × Bool))) → (List (Int × (Int × Int))) → Int → Option ((Unit) ⊕ (Unit))
  | 0, _, _, _, _ => none
  | n_ + 1, i, t, t2, t3 =>
    br (decide (i < (t2.length : Int)))
      (idx t2 i fun x_25 =>
      idx t2 i fun x_26 =>
      idx t2 i fun x_27 =>
      (off_S N x_25.1 x_26.2.1 x_27.2.2).bind fun x_28 =>
      br (!x_28)
        (some (.inl ()))
        (chk (i + 1) <|
        rcheck_l4 N n_ (i + 1) t t2 t3))
      (some (.inr ()))
def rcheck_S (N : Nat) (t : List (Int × (Int × Bool))) (t2 : List (Int × (Int × Int))) (t3 : Int) : Option Int :=
  (off_S N (t.length : Int) 1 12).bind fun x_1 =>
  br x_1
    (some 2)
    (br (decide (6 < (t2.length : Int)))
      (some 2)
      ((off_S N t3 1 40).bind fun x_2 =>
      br x_2
        (some 3)
        ((rcheck_l1 N N (t.length : Int) 0 t t2 t3).bind fun e => match e with
        | .inl _ =>
          some 3
        | .inr (many_7, t_8, t2_9, t3_10) =>
          (rcheck_l2 N N many_7 0 t_8 t2_9 t3_10).bind fun e => match e with
          | .inl _ =>
            some 1
          | .inr (t_17, t2_18, t3_19) =>
            (rcheck_l3 N N 0 t_17 t2_18 t3_19).bind fun e => match e with
            | .inl _ =>
              some 4
            | .inr (t_22, t2_23, t3_24) =>
              (rcheck_l4 N N 0 t_22 t2_23 t3_24).bind fun e => match e with
              | .inl _ =>
                some 7
              | .inr _ =>
                some 0)))
noncomputable def rcheck_sp (N : Nat) : List Spec := [sp_off N]
theorem rcheck_all (N : Nat) : AllP (SpecOK Try.prog) (rcheck_sp N) := ⟨sp_off_ok N, trivial⟩
noncomputable def rcheck_c : Code := (Try.f25.body).getD .skip
noncomputable abbrev rcheck_B : Body := { c := rcheck_c, n := 134, res := [.tmp 2], outs := [⟨[.i .i64], []⟩], m0 := 0 }
abbrev rcheck_rt : altD rcheck_B.outs → Option Int := fun r => some r.1.1
abbrev rcheck_l1_at : List PI := [.c [1, 1, 1, 1, 0, 1, 0, 0, 0, 0], .c [1, 1, 1, 1, 0, 1, 0, 0, 0, 1], .c [1, 1, 1, 1, 0, 1, 0, 0, 1], .l [1, 1, 1, 1, 0, 1, 0, 0], .b 0, .c [1, 1, 1, 1, 1]]
abbrev rcheck_l1_st : Sta := ⟨[1, 3, 4], ⟨[.own 0 0, .i .i64, .i .i64], [.segs [.sl (.pair (.int .i64) (.pair (.int .i64) .bool)), .sl (.pair (.int .i64) (.pair (.int .i64) (.int .i64))), .i .i64]]⟩⟩
abbrev rcheck_l1_h (rec : Int → Int → (List (Int × (Int × Bool))) → (List (Int × (Int × Int))) → Int → Option ((Unit) ⊕ (Int × (List (Int × (Int × Bool))) × (List (Int × (Int × Int))) × Int))) : Leaf ((Unit) ⊕ (Int × (List (Int × (Int × Bool))) × (List (Int × (Int × Int))) × Int)) := ⟨rcheck_l1_at, rcheck_l1_st, fun p => rec p.1.2.1 p.1.2.2.1 p.2.1.1 p.2.1.2.1 p.2.1.2.2.1⟩
abbrev rcheck_l1_e0 : Leaf ((Unit) ⊕ (Int × (List (Int × (Int × Bool))) × (List (Int × (Int × Int))) × Int)) := ⟨[.c [1, 1, 1, 1, 0, 1, 0, 0, 1, 0, 0, 1, 0, 0], .c [1, 1, 1, 1, 0, 1, 0, 0, 1, 0, 0, 1, 0, 1], .b 1, .c [1, 1, 1, 1, 0, 1, 0, 0, 1, 1], .l [1, 1, 1, 1, 0, 1, 0, 0], .b 0, .c [1, 1, 1, 1, 1]], ⟨[], ⟨[], []⟩⟩, fun p => some (.inl ())⟩
abbrev rcheck_l1_e1 : Leaf ((Unit) ⊕ (Int × (List (Int × (Int × Bool))) × (List (Int × (Int × Int))) × Int)) := ⟨[.c [1, 1, 1, 1, 1, 0, 0], .c [1, 1, 1, 1, 1, 0, 1], .c [1, 1, 1, 1, 1, 1]], ⟨[1, 3], ⟨[.own 0 0, .i .i64], [.segs [.sl (.pair (.int .i64) (.pair (.int .i64) .bool)), .sl (.pair (.int .i64) (.pair (.int .i64) (.int .i64))), .i .i64]]⟩⟩, fun p => some (.inr (p.1.2.1, p.2.1.1, p.2.1.2.1, p.2.1.2.2.1))⟩
noncomputable def rcheck_l1_L (N : Nat) : LoopS := { at_ := rcheck_l1_at, sta := rcheck_l1_st, exits := [([.c [1, 1, 1, 1, 0, 1, 0, 0, 1, 0, 0, 1, 0, 0], .c [1, 1, 1, 1, 0, 1, 0, 0, 1, 0, 0, 1, 0, 1], .b 1, .c [1, 1, 1, 1, 0, 1, 0, 0, 1, 1], .l [1, 1, 1, 1, 0, 1, 0, 0], .b 0, .c [1, 1, 1, 1, 1]], ⟨[], ⟨[], []⟩⟩), ([.c [1, 1, 1, 1, 1, 0, 0], .c [1, 1, 1, 1, 1, 0, 1], .c [1, 1, 1, 1, 1, 1]], ⟨[1, 3], ⟨[.own 0 0, .i .i64], [.segs [.sl (.pair (.int .i64) (.pair (.int .i64) .bool)), .sl (.pair (.int .i64) (.pair (.int .i64) (.int .i64))), .i .i64]]⟩⟩)], run := fun p k => (rcheck_l1 N N p.1.2.1 p.1.2.2.1 p.2.1.1 p.2.1.2.1 p.2.1.2.2.1).bind fun e => match e with | .inl x => k (.inl ((), ())) | .inr x => k (.inr (.inl (((), x.1, ()), ((x.2.1, x.2.2.1, x.2.2.2, ()), ())))) }
theorem rcheck_l1_eq (N n_ : Nat) (many : Int) (i : Int) (t : List (Int × (Int × Bool))) (t2 : List (Int × (Int × Int))) (t3 : Int) : ev (Z := (Unit) ⊕ (Int × (List (Int × (Int × Bool))) × (List (Int × (Int × Int))) × Int)) Try.prog (rcheck_sp N) rcheck_B [] [rcheck_l1_h (rcheck_l1 N n_), rcheck_l1_e0, rcheck_l1_e1] none 400 true rcheck_l1_at (stL rcheck_l1_st (((), many, i, ()), ((t, t2, t3, ()), ()))) (stH rcheck_l1_st (((), many, i, ()), ((t, t2, t3, ()), ()))) = rcheck_l1 N (n_ + 1) many i t t2 t3 := by kernel_rfl
theorem rcheck_l1_ok (N : Nat) {top : Bool} : LoopOK Try.prog rcheck_B.c rcheck_B.n rcheck_B.m0 top (rcheck_l1_L N) := loop_of_ev (Z := (Unit) ⊕ (Int × (List (Int × (Int × Bool))) × (List (Int × (Int × Int))) × Int)) (N := N) (fun m p => rcheck_l1 N m p.1.2.1 p.1.2.2.1 p.2.1.1 p.2.1.2.1 p.2.1.2.2.1) (fun e => match e with | .inl x => .inl ((), ()) | .inr x => .inr (.inl (((), x.1, ()), ((x.2.1, x.2.2.1, x.2.2.2, ()), ())))) (fun _ p k => bind_congr_ (rcheck_l1 N N p.1.2.1 p.1.2.2.1 p.2.1.1 p.2.1.2.1 p.2.1.2.2.1) _ _ (fun e => by rcases e with x | x <;> rfl)) (fun _ => rfl) (fun m z E Xc hE hX hrec hx => leaf_of_ev (B := rcheck_B) (loops := []) (leaves := [rcheck_l1_h (rcheck_l1 N m), rcheck_l1_e0, rcheck_l1_e1]) (rcheck_all N) mixed trivial hE hX ⟨hrec, (fun p hp => by obtain rfl := Option.some.inj hp; exact hx), (fun p hp => by obtain rfl := Option.some.inj hp; exact hx), trivial⟩ RetOK.no (fun p => rcheck_l1_eq N m p.1.2.1 p.1.2.2.1 p.2.1.1 p.2.1.2.1 p.2.1.2.2.1))
abbrev rcheck_l2_at : List PI := [.c [1, 1, 1, 1, 1, 0, 1, 0, 0, 0, 0], .c [1, 1, 1, 1, 1, 0, 1, 0, 0, 0, 1], .c [1, 1, 1, 1, 1, 0, 1, 0, 0, 1], .l [1, 1, 1, 1, 1, 0, 1, 0, 0], .b 2, .c [1, 1, 1, 1, 1, 1]]
abbrev rcheck_l2_st : Sta := ⟨[1, 3, 5], ⟨[.own 0 0, .i .i64, .i .i64], [.segs [.sl (.pair (.int .i64) (.pair (.int .i64) .bool)), .sl (.pair (.int .i64) (.pair (.int .i64) (.int .i64))), .i .i64]]⟩⟩
abbrev rcheck_l2_h (rec : Int → Int → (List (Int × (Int × Bool))) → (List (Int × (Int × Int))) → Int → Option ((Unit) ⊕ ((List (Int × (Int × Bool))) × (List (Int × (Int × Int))) × Int))) : Leaf ((Unit) ⊕ ((List (Int × (Int × Bool))) × (List (Int × (Int × Int))) × Int)) := ⟨rcheck_l2_at, rcheck_l2_st, fun p => rec p.1.2.1 p.1.2.2.1 p.2.1.1 p.2.1.2.1 p.2.1.2.2.1⟩
abbrev rcheck_l2_e0 : Leaf ((Unit) ⊕ ((List (Int × (Int × Bool))) × (List (Int × (Int × Int))) × Int)) := ⟨[.c [1, 1, 1, 1, 1, 0, 1, 0, 0, 1, 0, 0, 1, 0, 0], .c [1, 1, 1, 1, 1, 0, 1, 0, 0, 1, 0, 0, 1, 0, 1], .b 3, .c [1, 1, 1, 1, 1, 0, 1, 0, 0, 1, 1], .l [1, 1, 1, 1, 1, 0, 1, 0, 0], .b 2, .c [1, 1, 1, 1, 1, 1]], ⟨[], ⟨[], []⟩⟩, fun p => some (.inl ())⟩
abbrev rcheck_l2_e1 : Leaf ((Unit) ⊕ ((List (Int × (Int × Bool))) × (List (Int × (Int × Int))) × Int)) := ⟨[.c [1, 1, 1, 1, 1, 1, 0, 0], .c [1, 1, 1, 1, 1, 1, 0, 1], .c [1, 1, 1, 1, 1, 1, 1]], ⟨[1], ⟨[.own 0 0], [.segs [.sl (.pair (.int .i64) (.pair (.int .i64) .bool)), .sl (.pair (.int .i64) (.pair (.int .i64) (.int .i64))), .i .i64]]⟩⟩, fun p => some (.inr (p.2.1.1, p.2.1.2.1, p.2.1.2.2.1))⟩
noncomputable def rcheck_l2_L (N : Nat) : LoopS := { at_ := rcheck_l2_at, sta := rcheck_l2_st, exits := [([.c [1, 1, 1, 1, 1, 0, 1, 0, 0, 1, 0, 0, 1, 0, 0], .c [1, 1, 1, 1, 1, 0, 1, 0, 0, 1, 0, 0, 1, 0, 1], .b 3, .c [1, 1, 1, 1, 1, 0, 1, 0, 0, 1, 1], .l [1, 1, 1, 1, 1, 0, 1, 0, 0], .b 2, .c [1, 1, 1, 1, 1, 1]], ⟨[], ⟨[], []⟩⟩), ([.c [1, 1, 1, 1, 1, 1, 0, 0], .c [1, 1, 1, 1, 1, 1, 0, 1], .c [1, 1, 1, 1, 1, 1, 1]], ⟨[1], ⟨[.own 0 0], [.segs [.sl (.pair (.int .i64) (.pair (.int .i64) .bool)), .sl (.pair (.int .i64) (.pair (.int .i64) (.int .i64))), .i .i64]]⟩⟩)], run := fun p k => (rcheck_l2 N N p.1.2.1 p.1.2.2.1 p.2.1.1 p.2.1.2.1 p.2.1.2.2.1).bind fun e => match e with | .inl x => k (.inl ((), ())) | .inr x => k (.inr (.inl (((), ()), ((x.1, x.2.1, x.2.2, ()), ())))) }
theorem rcheck_l2_eq (N n_ : Nat) (many : Int) (i : Int) (t : List (Int × (Int × Bool))) (t2 : List (Int × (Int × Int))) (t3 : Int) : ev (Z := (Unit) ⊕ ((List (Int × (Int × Bool))) × (List (Int × (Int × Int))) × Int)) Try.prog (rcheck_sp N) rcheck_B [rcheck_l1_L N] [rcheck_l2_h (rcheck_l2 N n_), rcheck_l2_e0, rcheck_l2_e1] none 400 true rcheck_l2_at (stL rcheck_l2_st (((), many, i, ()), ((t, t2, t3, ()), ()))) (stH rcheck_l2_st (((), many, i, ()), ((t, t2, t3, ()), ()))) = rcheck_l2 N (n_ + 1) many i t t2 t3 := by kernel_rfl
theorem rcheck_l2_ok (N : Nat) {top : Bool} : LoopOK Try.prog rcheck_B.c rcheck_B.n rcheck_B.m0 top (rcheck_l2_L N) := loop_of_ev (Z := (Unit) ⊕ ((List (Int × (Int × Bool))) × (List (Int × (Int × Int))) × Int)) (N := N) (fun m p => rcheck_l2 N m p.1.2.1 p.1.2.2.1 p.2.1.1 p.2.1.2.1 p.2.1.2.2.1) (fun e => match e with | .inl x => .inl ((), ()) | .inr x => .inr (.inl (((), ()), ((x.1, x.2.1, x.2.2, ()), ())))) (fun _ p k => bind_congr_ (rcheck_l2 N N p.1.2.1 p.1.2.2.1 p.2.1.1 p.2.1.2.1 p.2.1.2.2.1) _ _ (fun e => by rcases e with x | x <;> rfl)) (fun _ => rfl) (fun m z E Xc hE hX hrec hx => leaf_of_ev (B := rcheck_B) (loops := [rcheck_l1_L N]) (leaves := [rcheck_l2_h (rcheck_l2 N m), rcheck_l2_e0, rcheck_l2_e1]) (rcheck_all N) mixed ⟨rcheck_l1_ok N, trivial⟩ hE hX ⟨hrec, (fun p hp => by obtain rfl := Option.some.inj hp; exact hx), (fun p hp => by obtain rfl := Option.some.inj hp; exact hx), trivial⟩ RetOK.no (fun p => rcheck_l2_eq N m p.1.2.1 p.1.2.2.1 p.2.1.1 p.2.1.2.1 p.2.1.2.2.1))
abbrev rcheck_l3_at : List PI := [.c [1, 1, 1, 1, 1, 1, 0, 1, 0, 0, 0, 0], .c [1, 1, 1, 1, 1, 1, 0, 1, 0, 0, 0, 1], .c [1, 1, 1, 1, 1, 1, 0, 1, 0, 0, 1], .l [1, 1, 1, 1, 1, 1, 0, 1, 0, 0], .b 4, .c [1, 1, 1, 1, 1, 1, 1]]
abbrev rcheck_l3_st : Sta := ⟨[1, 6], ⟨[.own 0 0, .i .i64], [.segs [.sl (.pair (.int .i64) (.pair (.int .i64) .bool)), .sl (.pair (.int .i64) (.pair (.int .i64) (.int .i64))), .i .i64]]⟩⟩
abbrev rcheck_l3_h (rec : Int → (List (Int × (Int × Bool))) → (List (Int × (Int × Int))) → Int → Option ((Unit) ⊕ ((List (Int × (Int × Bool))) × (List (Int × (Int × Int))) × Int))) : Leaf ((Unit) ⊕ ((List (Int × (Int × Bool))) × (List (Int × (Int × Int))) × Int)) := ⟨rcheck_l3_at, rcheck_l3_st, fun p => rec p.1.2.1 p.2.1.1 p.2.1.2.1 p.2.1.2.2.1⟩
abbrev rcheck_l3_e0 : Leaf ((Unit) ⊕ ((List (Int × (Int × Bool))) × (List (Int × (Int × Int))) × Int)) := ⟨[.c [1, 1, 1, 1, 1, 1, 0, 1, 0, 0, 1, 0, 0, 1, 0, 0], .c [1, 1, 1, 1, 1, 1, 0, 1, 0, 0, 1, 0, 0, 1, 0, 1], .b 5, .c [1, 1, 1, 1, 1, 1, 0, 1, 0, 0, 1, 1], .l [1, 1, 1, 1, 1, 1, 0, 1, 0, 0], .b 4, .c [1, 1, 1, 1, 1, 1, 1]], ⟨[], ⟨[], []⟩⟩, fun p => some (.inl ())⟩
abbrev rcheck_l3_e1 : Leaf ((Unit) ⊕ ((List (Int × (Int × Bool))) × (List (Int × (Int × Int))) × Int)) := ⟨[.c [1, 1, 1, 1, 1, 1, 1, 0, 0], .c [1, 1, 1, 1, 1, 1, 1, 0, 1], .c [1, 1, 1, 1, 1, 1, 1, 1]], ⟨[1], ⟨[.own 0 0], [.segs [.sl (.pair (.int .i64) (.pair (.int .i64) .bool)), .sl (.pair (.int .i64) (.pair (.int .i64) (.int .i64))), .i .i64]]⟩⟩, fun p => some (.inr (p.2.1.1, p.2.1.2.1, p.2.1.2.2.1))⟩
noncomputable def rcheck_l3_L (N : Nat) : LoopS := { at_ := rcheck_l3_at, sta := rcheck_l3_st, exits := [([.c [1, 1, 1, 1, 1, 1, 0, 1, 0, 0, 1, 0, 0, 1, 0, 0], .c [1, 1, 1, 1, 1, 1, 0, 1, 0, 0, 1, 0, 0, 1, 0, 1], .b 5, .c [1, 1, 1, 1, 1, 1, 0, 1, 0, 0, 1, 1], .l [1, 1, 1, 1, 1, 1, 0, 1, 0, 0], .b 4, .c [1, 1, 1, 1, 1, 1, 1]], ⟨[], ⟨[], []⟩⟩), ([.c [1, 1, 1, 1, 1, 1, 1, 0, 0], .c [1, 1, 1, 1, 1, 1, 1, 0, 1], .c [1, 1, 1, 1, 1, 1, 1, 1]], ⟨[1], ⟨[.own 0 0], [.segs [.sl (.pair (.int .i64) (.pair (.int .i64) .bool)), .sl (.pair (.int .i64) (.pair (.int .i64) (.int .i64))), .i .i64]]⟩⟩)], run := fun p k => (rcheck_l3 N N p.1.2.1 p.2.1.1 p.2.1.2.1 p.2.1.2.2.1).bind fun e => match e with | .inl x => k (.inl ((), ())) | .inr x => k (.inr (.inl (((), ()), ((x.1, x.2.1, x.2.2, ()), ())))) }
theorem rcheck_l3_eq (N n_ : Nat) (i : Int) (t : List (Int × (Int × Bool))) (t2 : List (Int × (Int × Int))) (t3 : Int) : ev (Z := (Unit) ⊕ ((List (Int × (Int × Bool))) × (List (Int × (Int × Int))) × Int)) Try.prog (rcheck_sp N) rcheck_B [rcheck_l1_L N, rcheck_l2_L N] [rcheck_l3_h (rcheck_l3 N n_), rcheck_l3_e0, rcheck_l3_e1] none 400 true rcheck_l3_at (stL rcheck_l3_st (((), i, ()), ((t, t2, t3, ()), ()))) (stH rcheck_l3_st (((), i, ()), ((t, t2, t3, ()), ()))) = rcheck_l3 N (n_ + 1) i t t2 t3 := by kernel_rfl
theorem rcheck_l3_ok (N : Nat) {top : Bool} : LoopOK Try.prog rcheck_B.c rcheck_B.n rcheck_B.m0 top (rcheck_l3_L N) := loop_of_ev (Z := (Unit) ⊕ ((List (Int × (Int × Bool))) × (List (Int × (Int × Int))) × Int)) (N := N) (fun m p => rcheck_l3 N m p.1.2.1 p.2.1.1 p.2.1.2.1 p.2.1.2.2.1) (fun e => match e with | .inl x => .inl ((), ()) | .inr x => .inr (.inl (((), ()), ((x.1, x.2.1, x.2.2, ()), ())))) (fun _ p k => bind_congr_ (rcheck_l3 N N p.1.2.1 p.2.1.1 p.2.1.2.1 p.2.1.2.2.1) _ _ (fun e => by rcases e with x | x <;> rfl)) (fun _ => rfl) (fun m z E Xc hE hX hrec hx => leaf_of_ev (B := rcheck_B) (loops := [rcheck_l1_L N, rcheck_l2_L N]) (leaves := [rcheck_l3_h (rcheck_l3 N m), rcheck_l3_e0, rcheck_l3_e1]) (rcheck_all N) mixed ⟨rcheck_l1_ok N, rcheck_l2_ok N, trivial⟩ hE hX ⟨hrec, (fun p hp => by obtain rfl := Option.some.inj hp; exact hx), (fun p hp => by obtain rfl := Option.some.inj hp; exact hx), trivial⟩ RetOK.no (fun p => rcheck_l3_eq N m p.1.2.1 p.2.1.1 p.2.1.2.1 p.2.1.2.2.1))
abbrev rcheck_l4_at : List PI := [.c [1, 1, 1, 1, 1, 1, 1, 0, 1, 0, 0, 0, 0], .c [1, 1, 1, 1, 1, 1, 1, 0, 1, 0, 0, 0, 1], .c [1, 1, 1, 1, 1, 1, 1, 0, 1, 0, 0, 1], .l [1, 1, 1, 1, 1, 1, 1, 0, 1, 0, 0], .b 6, .c [1, 1, 1, 1, 1, 1, 1, 1]]
abbrev rcheck_l4_st : Sta := ⟨[1, 7], ⟨[.own 0 0, .i .i64], [.segs [.sl (.pair (.int .i64) (.pair (.int .i64) .bool)), .sl (.pair (.int .i64) (.pair (.int .i64) (.int .i64))), .i .i64]]⟩⟩
abbrev rcheck_l4_h (rec : Int → (List (Int × (Int × Bool))) → (List (Int × (Int × Int))) → Int → Option ((Unit) ⊕ (Unit))) : Leaf ((Unit) ⊕ (Unit)) := ⟨rcheck_l4_at, rcheck_l4_st, fun p => rec p.1.2.1 p.2.1.1 p.2.1.2.1 p.2.1.2.2.1⟩
abbrev rcheck_l4_e0 : Leaf ((Unit) ⊕ (Unit)) := ⟨[.c [1, 1, 1, 1, 1, 1, 1, 0, 1, 0, 0, 1, 0, 0, 1, 0, 0], .c [1, 1, 1, 1, 1, 1, 1, 0, 1, 0, 0, 1, 0, 0, 1, 0, 1], .b 7, .c [1, 1, 1, 1, 1, 1, 1, 0, 1, 0, 0, 1, 1], .l [1, 1, 1, 1, 1, 1, 1, 0, 1, 0, 0], .b 6, .c [1, 1, 1, 1, 1, 1, 1, 1]], ⟨[], ⟨[], []⟩⟩, fun p => some (.inl ())⟩
abbrev rcheck_l4_e1 : Leaf ((Unit) ⊕ (Unit)) := ⟨[.c [1, 1, 1, 1, 1, 1, 1, 1, 0], .c [1, 1, 1, 1, 1, 1, 1, 1, 1]], ⟨[], ⟨[], []⟩⟩, fun p => some (.inr ())⟩
noncomputable def rcheck_l4_L (N : Nat) : LoopS := { at_ := rcheck_l4_at, sta := rcheck_l4_st, exits := [([.c [1, 1, 1, 1, 1, 1, 1, 0, 1, 0, 0, 1, 0, 0, 1, 0, 0], .c [1, 1, 1, 1, 1, 1, 1, 0, 1, 0, 0, 1, 0, 0, 1, 0, 1], .b 7, .c [1, 1, 1, 1, 1, 1, 1, 0, 1, 0, 0, 1, 1], .l [1, 1, 1, 1, 1, 1, 1, 0, 1, 0, 0], .b 6, .c [1, 1, 1, 1, 1, 1, 1, 1]], ⟨[], ⟨[], []⟩⟩), ([.c [1, 1, 1, 1, 1, 1, 1, 1, 0], .c [1, 1, 1, 1, 1, 1, 1, 1, 1]], ⟨[], ⟨[], []⟩⟩)], run := fun p k => (rcheck_l4 N N p.1.2.1 p.2.1.1 p.2.1.2.1 p.2.1.2.2.1).bind fun e => match e with | .inl x => k (.inl ((), ())) | .inr x => k (.inr (.inl ((), ()))) }
theorem rcheck_l4_eq (N n_ : Nat) (i : Int) (t : List (Int × (Int × Bool))) (t2 : List (Int × (Int × Int))) (t3 : Int) : ev (Z := (Unit) ⊕ (Unit)) Try.prog (rcheck_sp N) rcheck_B [rcheck_l1_L N, rcheck_l2_L N, rcheck_l3_L N] [rcheck_l4_h (rcheck_l4 N n_), rcheck_l4_e0, rcheck_l4_e1] none 400 true rcheck_l4_at (stL rcheck_l4_st (((), i, ()), ((t, t2, t3, ()), ()))) (stH rcheck_l4_st (((), i, ()), ((t, t2, t3, ()), ()))) = rcheck_l4 N (n_ + 1) i t t2 t3 := by kernel_rfl
theorem rcheck_l4_ok (N : Nat) {top : Bool} : LoopOK Try.prog rcheck_B.c rcheck_B.n rcheck_B.m0 top (rcheck_l4_L N) := loop_of_ev (Z := (Unit) ⊕ (Unit)) (N := N) (fun m p => rcheck_l4 N m p.1.2.1 p.2.1.1 p.2.1.2.1 p.2.1.2.2.1) (fun e => match e with | .inl x => .inl ((), ()) | .inr x => .inr (.inl ((), ()))) (fun _ p k => bind_congr_ (rcheck_l4 N N p.1.2.1 p.2.1.1 p.2.1.2.1 p.2.1.2.2.1) _ _ (fun e => by rcases e with x | x <;> rfl)) (fun _ => rfl) (fun m z E Xc hE hX hrec hx => leaf_of_ev (B := rcheck_B) (loops := [rcheck_l1_L N, rcheck_l2_L N, rcheck_l3_L N]) (leaves := [rcheck_l4_h (rcheck_l4 N m), rcheck_l4_e0, rcheck_l4_e1]) (rcheck_all N) mixed ⟨rcheck_l1_ok N, rcheck_l2_ok N, rcheck_l3_ok N, trivial⟩ hE hX ⟨hrec, (fun p hp => by obtain rfl := Option.some.inj hp; exact hx), (fun p hp => by obtain rfl := Option.some.inj hp; exact hx), trivial⟩ RetOK.no (fun p => rcheck_l4_eq N m p.1.2.1 p.2.1.1 p.2.1.2.1 p.2.1.2.2.1))
abbrev rcheck_st : Sta := ⟨[0], ⟨[.agg [.sl (.pair (.int .i64) (.pair (.int .i64) .bool)), .sl (.pair (.int .i64) (.pair (.int .i64) (.int .i64))), .i .i64]], []⟩⟩
theorem rcheck_eq (N : Nat) (t : List (Int × (Int × Bool))) (t2 : List (Int × (Int × Int))) (t3 : Int) : ev (Z := Int) Try.prog (rcheck_sp N) rcheck_B [rcheck_l1_L N, rcheck_l2_L N, rcheck_l3_L N, rcheck_l4_L N] [] (some rcheck_rt) 400 false [.c [0], .c [1]] (stL rcheck_st (((t, t2, t3, ()), ()), ())) (stH rcheck_st (((t, t2, t3, ()), ()), ())) = rcheck_S N t t2 t3 := by kernel_rfl
noncomputable def sp_rcheck (N : Nat) : Spec := { f := 25, ins := ⟨[.agg [.sl (.pair (.int .i64) (.pair (.int .i64) .bool)), .sl (.pair (.int .i64) (.pair (.int .i64) (.int .i64))), .i .i64]], []⟩, outs := [⟨[.i .i64], []⟩], run := fun p k => (rcheck_S N p.1.1.1 p.1.1.2.1 p.1.1.2.2.1).bind fun r => k ((r, ()), ()) }
theorem sp_rcheck_ok (N : Nat) : SpecOK Try.prog (sp_rcheck N) := fn_sound (B := rcheck_B) (loops := [rcheck_l1_L N, rcheck_l2_L N, rcheck_l3_L N, rcheck_l4_L N]) (leaves := []) (fun p => rcheck_S N p.1.1.1 p.1.1.2.1 p.1.1.2.2.1) (fun r => ((r, ()), ())) rcheck_rt (fun _ _ _ => rfl) (fun r z h => by cases h; rfl) Try.func25 (by kernel_rfl) (by kernel_rfl) (by kernel_rfl) rfl rfl (by kernel_rfl) (fun args w => Sem.pv_run _ _ _ (by kernel_rfl) w) (rcheck_all N) mixed ⟨rcheck_l1_ok N, rcheck_l2_ok N, rcheck_l3_ok N, rcheck_l4_ok N, trivial⟩ (fun z E Xc hE hX hret => trivial) (fun p => rcheck_eq N p.1.1.1 p.1.1.2.1 p.1.1.2.2.1)

def has_l1 (N : Nat) : Nat → (List Int) → Int → Int → Option ((Unit) ⊕ (Unit))
  | 0, _, _, _ => none
  | n_ + 1, l, n, i =>
    br (decide (i < (l.length : Int)))
      (idx l i fun x_1 =>
      br (decide (x_1 = n))
        (some (.inl ()))
        (chk (i + 1) <|
        has_l1 N n_ l n (i + 1)))
      (some (.inr ()))
def has_S (N : Nat) (l : List Int) (n : Int) : Option Bool :=
  (has_l1 N N l n 0).bind fun e => match e with
  | .inl _ =>
    some true
  | .inr _ =>
    some false
noncomputable def has_sp (N : Nat) : List Spec := []
theorem has_all (N : Nat) : AllP (SpecOK Try.prog) (has_sp N) := trivial
noncomputable def has_c : Code := (Try.f139.body).getD .skip
noncomputable abbrev has_B : Body := { c := has_c, n := 18, res := [.tmp 4], outs := [⟨[.b], []⟩], m0 := 0 }
abbrev has_rt : altD has_B.outs → Option Bool := fun r => some r.1.1
abbrev has_l1_at : List PI := [.c [1, 0, 1, 0, 0, 0, 0], .c [1, 0, 1, 0, 0, 0, 1], .c [1, 0, 1, 0, 0, 1], .l [1, 0, 1, 0, 0], .b 0, .c [1, 1]]
abbrev has_l1_st : Sta := ⟨[0, 1, 5], ⟨[.sl (.int .i64), .i .i64, .i .i64], []⟩⟩
abbrev has_l1_h (rec : (List Int) → Int → Int → Option ((Unit) ⊕ (Unit))) : Leaf ((Unit) ⊕ (Unit)) := ⟨has_l1_at, has_l1_st, fun p => rec p.1.1 p.1.2.1 p.1.2.2.1⟩
abbrev has_l1_e0 : Leaf ((Unit) ⊕ (Unit)) := ⟨[.c [1, 0, 1, 0, 0, 1, 0, 0, 1, 0, 0], .c [1, 0, 1, 0, 0, 1, 0, 0, 1, 0, 1], .b 1, .c [1, 0, 1, 0, 0, 1, 1], .l [1, 0, 1, 0, 0], .b 0, .c [1, 1]], ⟨[], ⟨[], []⟩⟩, fun p => some (.inl ())⟩
abbrev has_l1_e1 : Leaf ((Unit) ⊕ (Unit)) := ⟨[.c [1, 1, 0], .c [1, 1, 1]], ⟨[], ⟨[], []⟩⟩, fun p => some (.inr ())⟩
noncomputable def has_l1_L (N : Nat) : LoopS := { at_ := has_l1_at, sta := has_l1_st, exits := [([.c [1, 0, 1, 0, 0, 1, 0, 0, 1, 0, 0], .c [1, 0, 1, 0, 0, 1, 0, 0, 1, 0, 1], .b 1, .c [1, 0, 1, 0, 0, 1, 1], .l [1, 0, 1, 0, 0], .b 0, .c [1, 1]], ⟨[], ⟨[], []⟩⟩), ([.c [1, 1, 0], .c [1, 1, 1]], ⟨[], ⟨[], []⟩⟩)], run := fun p k => (has_l1 N N p.1.1 p.1.2.1 p.1.2.2.1).bind fun e => match e with | .inl x => k (.inl ((), ())) | .inr x => k (.inr (.inl ((), ()))) }
theorem has_l1_eq (N n_ : Nat) (l : List Int) (n : Int) (i : Int) : ev (Z := (Unit) ⊕ (Unit)) Try.prog (has_sp N) has_B [] [has_l1_h (has_l1 N n_), has_l1_e0, has_l1_e1] none 400 true has_l1_at (stL has_l1_st ((l, n, i, ()), ())) (stH has_l1_st ((l, n, i, ()), ())) = has_l1 N (n_ + 1) l n i := by kernel_rfl
theorem has_l1_ok (N : Nat) {top : Bool} : LoopOK Try.prog has_B.c has_B.n has_B.m0 top (has_l1_L N) := loop_of_ev (Z := (Unit) ⊕ (Unit)) (N := N) (fun m p => has_l1 N m p.1.1 p.1.2.1 p.1.2.2.1) (fun e => match e with | .inl x => .inl ((), ()) | .inr x => .inr (.inl ((), ()))) (fun _ p k => bind_congr_ (has_l1 N N p.1.1 p.1.2.1 p.1.2.2.1) _ _ (fun e => by rcases e with x | x <;> rfl)) (fun _ => rfl) (fun m z E Xc hE hX hrec hx => leaf_of_ev (B := has_B) (loops := []) (leaves := [has_l1_h (has_l1 N m), has_l1_e0, has_l1_e1]) (has_all N) mixed trivial hE hX ⟨hrec, (fun p hp => by obtain rfl := Option.some.inj hp; exact hx), (fun p hp => by obtain rfl := Option.some.inj hp; exact hx), trivial⟩ RetOK.no (fun p => has_l1_eq N m p.1.1 p.1.2.1 p.1.2.2.1))
abbrev has_st : Sta := ⟨[0, 1], ⟨[.sl (.int .i64), .i .i64], []⟩⟩
theorem has_eq (N : Nat) (l : List Int) (n : Int) : ev (Z := Bool) Try.prog (has_sp N) has_B [has_l1_L N] [] (some has_rt) 400 false [.c [0], .c [1]] (stL has_st ((l, n, ()), ())) (stH has_st ((l, n, ()), ())) = has_S N l n := by kernel_rfl
noncomputable def sp_has (N : Nat) : Spec := { f := 139, ins := ⟨[.sl (.int .i64), .i .i64], []⟩, outs := [⟨[.b], []⟩], run := fun p k => (has_S N p.1.1 p.1.2.1).bind fun r => k ((r, ()), ()) }
theorem sp_has_ok (N : Nat) : SpecOK Try.prog (sp_has N) := fn_sound (B := has_B) (loops := [has_l1_L N]) (leaves := []) (fun p => has_S N p.1.1 p.1.2.1) (fun r => ((r, ()), ())) has_rt (fun _ _ _ => rfl) (fun r z h => by cases h; rfl) Try.func139 (by kernel_rfl) (by kernel_rfl) (by kernel_rfl) rfl rfl (by kernel_rfl) (fun args w => Sem.pv_run _ _ _ (by kernel_rfl) w) (has_all N) mixed ⟨has_l1_ok N, trivial⟩ (fun z E Xc hE hX hret => trivial) (fun p => has_eq N p.1.1 p.1.2.1)

def otherwise_l1 (N : Nat) : Nat → (List Int) → Int → Int → Int → Int → Option ((Unit) ⊕ (List Int × Int × Int × Int))
  | 0, _, _, _, _, _ => none
  | n_ + 1, l, w, x, x2, x3 =>
    br (decide (w ≤ x3))
      ((has_S N l w).bind fun x_1 =>
      br (!x_1)
        (some (.inl ()))
        (chk (w + 1) <|
        otherwise_l1 N n_ l (w + 1) x x2 x3))
      (some (.inr (l, x, x2, x3)))
def otherwise_S (N : Nat) (x : Int) (x2 : Int) (x3 : Int) (l : List Int) : Option Bool :=
  (otherwise_l1 N N l x2 x x2 x3).bind fun e => match e with
  | .inl _ =>
    some false
  | .inr (l_2, x_3, x2_4, x3_5) =>
    (has_S N l_2 x_3).bind fun x_6 =>
    some (!x_6)
noncomputable def otherwise_sp (N : Nat) : List Spec := [sp_has N]
theorem otherwise_all (N : Nat) : AllP (SpecOK Try.prog) (otherwise_sp N) := ⟨sp_has_ok N, trivial⟩
noncomputable def otherwise_c : Code := (Try.f101.body).getD .skip
noncomputable abbrev otherwise_B : Body := { c := otherwise_c, n := 25, res := [.tmp 4], outs := [⟨[.b], []⟩], m0 := 0 }
abbrev otherwise_rt : altD otherwise_B.outs → Option Bool := fun r => some r.1.1
abbrev otherwise_l1_at : List PI := [.c [1, 0, 1, 0, 0, 0, 0], .c [1, 0, 1, 0, 0, 0, 1], .c [1, 0, 1, 0, 0, 1], .l [1, 0, 1, 0, 0], .b 0, .c [1, 1]]
abbrev otherwise_l1_st : Sta := ⟨[1, 2, 5], ⟨[.sl (.int .i64), .own 0 0, .i .i64], [.segs [.i .i64, .i .i64, .i .i64]]⟩⟩
abbrev otherwise_l1_h (rec : (List Int) → Int → Int → Int → Int → Option ((Unit) ⊕ (List Int × Int × Int × Int))) : Leaf ((Unit) ⊕ (List Int × Int × Int × Int)) := ⟨otherwise_l1_at, otherwise_l1_st, fun p => rec p.1.1 p.1.2.2.1 p.2.1.1 p.2.1.2.1 p.2.1.2.2.1⟩
abbrev otherwise_l1_e0 : Leaf ((Unit) ⊕ (List Int × Int × Int × Int)) := ⟨[.c [1, 0, 1, 0, 0, 1, 0, 0, 1, 0, 0], .c [1, 0, 1, 0, 0, 1, 0, 0, 1, 0, 1], .b 1, .c [1, 0, 1, 0, 0, 1, 1], .l [1, 0, 1, 0, 0], .b 0, .c [1, 1]], ⟨[], ⟨[], []⟩⟩, fun p => some (.inl ())⟩
abbrev otherwise_l1_e1 : Leaf ((Unit) ⊕ (List Int × Int × Int × Int)) := ⟨[.c [1, 1, 0], .c [1, 1, 1]], ⟨[1, 2], ⟨[.sl (.int .i64), .own 0 0], [.segs [.i .i64, .i .i64, .i .i64]]⟩⟩, fun p => some (.inr (p.1.1, p.2.1.1, p.2.1.2.1, p.2.1.2.2.1))⟩
noncomputable def otherwise_l1_L (N : Nat) : LoopS := { at_ := otherwise_l1_at, sta := otherwise_l1_st, exits := [([.c [1, 0, 1, 0, 0, 1, 0, 0, 1, 0, 0], .c [1, 0, 1, 0, 0, 1, 0, 0, 1, 0, 1], .b 1, .c [1, 0, 1, 0, 0, 1, 1], .l [1, 0, 1, 0, 0], .b 0, .c [1, 1]], ⟨[], ⟨[], []⟩⟩), ([.c [1, 1, 0], .c [1, 1, 1]], ⟨[1, 2], ⟨[.sl (.int .i64), .own 0 0], [.segs [.i .i64, .i .i64, .i .i64]]⟩⟩)], run := fun p k => (otherwise_l1 N N p.1.1 p.1.2.2.1 p.2.1.1 p.2.1.2.1 p.2.1.2.2.1).bind fun e => match e with | .inl x => k (.inl ((), ())) | .inr x => k (.inr (.inl ((x.1, (), ()), ((x.2.1, x.2.2.1, x.2.2.2, ()), ())))) }
theorem otherwise_l1_eq (N n_ : Nat) (l : List Int) (w : Int) (x : Int) (x2 : Int) (x3 : Int) : ev (Z := (Unit) ⊕ (List Int × Int × Int × Int)) Try.prog (otherwise_sp N) otherwise_B [] [otherwise_l1_h (otherwise_l1 N n_), otherwise_l1_e0, otherwise_l1_e1] none 400 true otherwise_l1_at (stL otherwise_l1_st ((l, (), w, ()), ((x, x2, x3, ()), ()))) (stH otherwise_l1_st ((l, (), w, ()), ((x, x2, x3, ()), ()))) = otherwise_l1 N (n_ + 1) l w x x2 x3 := by kernel_rfl
theorem otherwise_l1_ok (N : Nat) {top : Bool} : LoopOK Try.prog otherwise_B.c otherwise_B.n otherwise_B.m0 top (otherwise_l1_L N) := loop_of_ev (Z := (Unit) ⊕ (List Int × Int × Int × Int)) (N := N) (fun m p => otherwise_l1 N m p.1.1 p.1.2.2.1 p.2.1.1 p.2.1.2.1 p.2.1.2.2.1) (fun e => match e with | .inl x => .inl ((), ()) | .inr x => .inr (.inl ((x.1, (), ()), ((x.2.1, x.2.2.1, x.2.2.2, ()), ())))) (fun _ p k => bind_congr_ (otherwise_l1 N N p.1.1 p.1.2.2.1 p.2.1.1 p.2.1.2.1 p.2.1.2.2.1) _ _ (fun e => by rcases e with x | x <;> rfl)) (fun _ => rfl) (fun m z E Xc hE hX hrec hx => leaf_of_ev (B := otherwise_B) (loops := []) (leaves := [otherwise_l1_h (otherwise_l1 N m), otherwise_l1_e0, otherwise_l1_e1]) (otherwise_all N) mixed trivial hE hX ⟨hrec, (fun p hp => by obtain rfl := Option.some.inj hp; exact hx), (fun p hp => by obtain rfl := Option.some.inj hp; exact hx), trivial⟩ RetOK.no (fun p => otherwise_l1_eq N m p.1.1 p.1.2.2.1 p.2.1.1 p.2.1.2.1 p.2.1.2.2.1))
abbrev otherwise_st : Sta := ⟨[0, 1], ⟨[.agg [.i .i64, .i .i64, .i .i64], .sl (.int .i64)], []⟩⟩
theorem otherwise_eq (N : Nat) (x : Int) (x2 : Int) (x3 : Int) (l : List Int) : ev (Z := Bool) Try.prog (otherwise_sp N) otherwise_B [otherwise_l1_L N] [] (some otherwise_rt) 400 false [.c [0], .c [1]] (stL otherwise_st (((x, x2, x3, ()), l, ()), ())) (stH otherwise_st (((x, x2, x3, ()), l, ()), ())) = otherwise_S N x x2 x3 l := by kernel_rfl
noncomputable def sp_otherwise (N : Nat) : Spec := { f := 101, ins := ⟨[.agg [.i .i64, .i .i64, .i .i64], .sl (.int .i64)], []⟩, outs := [⟨[.b], []⟩], run := fun p k => (otherwise_S N p.1.1.1 p.1.1.2.1 p.1.1.2.2.1 p.1.2.1).bind fun r => k ((r, ()), ()) }
theorem sp_otherwise_ok (N : Nat) : SpecOK Try.prog (sp_otherwise N) := fn_sound (B := otherwise_B) (loops := [otherwise_l1_L N]) (leaves := []) (fun p => otherwise_S N p.1.1.1 p.1.1.2.1 p.1.1.2.2.1 p.1.2.1) (fun r => ((r, ()), ())) otherwise_rt (fun _ _ _ => rfl) (fun r z h => by cases h; rfl) Try.func101 (by kernel_rfl) (by kernel_rfl) (by kernel_rfl) rfl rfl (by kernel_rfl) (fun args w => Sem.pv_run _ _ _ (by kernel_rfl) w) (otherwise_all N) mixed ⟨otherwise_l1_ok N, trivial⟩ (fun z E Xc hE hX hret => trivial) (fun p => otherwise_eq N p.1.1.1 p.1.1.2.1 p.1.1.2.2.1 p.1.2.1)

def said_j1 (N : Nat) (rec : (List Int) → Int → (List (Int × (Int × Bool))) → (List (Int × (Int × Int))) → Int → (List Int) → Option (List Int)) (l : List Int) (i : Int) (t : List (Int × (Int × Bool))) (t2 : List (Int × (Int × Int))) (t3 : Int) (out : List Int) : Option (List Int) :=
  chk (i + 1) <|
  rec l (i + 1) t t2 t3 out
def said_l1 (N : Nat) : Nat → (List Int) → Int → (List (Int × (Int × Bool))) → (List (Int × (Int × Int))) → Int → (List Int) → Option (List Int)
  | 0, _, _, _, _, _, _ => none
  | n_ + 1, l, i, t, t2, t3, out =>
    br (decide (i < (t2.length : Int)))
      (idx t2 i fun x_1 =>
      (otherwise_S N x_1.1 x_1.2.1 x_1.2.2 l).bind fun x_2 =>
      br x_2
        (lim (out.length + [i].length) <|
        said_j1 N (said_l1 N n_) l i t t2 t3 (out ++ [i]))
        (said_j1 N (said_l1 N n_) l i t t2 t3 out))
      (some (out))
def said_S (N : Nat) (t : List (Int × (Int × Bool))) (t2 : List (Int × (Int × Int))) (t3 : Int) (l : List Int) : Option (List Int) :=
  (said_l1 N N l 0 t t2 t3 []).bind fun out_3 =>
  some out_3
noncomputable def said_sp (N : Nat) : List Spec := [sp_otherwise N]
theorem said_all (N : Nat) : AllP (SpecOK Try.prog) (said_sp N) := ⟨sp_otherwise_ok N, trivial⟩
noncomputable def said_c : Code := (Try.f112.body).getD .skip
noncomputable abbrev said_B : Body := { c := said_c, n := 26, res := [.tmp 4], outs := [⟨[.sl (.int .i64)], []⟩], m0 := 0 }
abbrev said_rt : altD said_B.outs → Option (List Int) := fun r => some r.1.1
abbrev said_l1_at : List PI := [.c [1, 1, 0, 1, 0, 0, 0, 0], .c [1, 1, 0, 1, 0, 0, 0, 1], .c [1, 1, 0, 1, 0, 0, 1], .l [1, 1, 0, 1, 0, 0], .b 0, .c [1, 1, 1]]
abbrev said_l1_st : Sta := ⟨[1, 2, 5, 6], ⟨[.sl (.int .i64), .own 0 0, .ols 1, .i .i64], [.segs [.sl (.pair (.int .i64) (.pair (.int .i64) .bool)), .sl (.pair (.int .i64) (.pair (.int .i64) (.int .i64))), .i .i64], .lst (.int .i64)]⟩⟩
abbrev said_l1_h (rec : (List Int) → Int → (List (Int × (Int × Bool))) → (List (Int × (Int × Int))) → Int → (List Int) → Option (List Int)) : Leaf (List Int) := ⟨said_l1_at, said_l1_st, fun p => rec p.1.1 p.1.2.2.2.1 p.2.1.1 p.2.1.2.1 p.2.1.2.2.1 p.2.2.1⟩
abbrev said_l1_e0 : Leaf (List Int) := ⟨[.c [1, 1, 1, 0], .c [1, 1, 1, 1]], ⟨[5], ⟨[.ols 0], [.lst (.int .i64)]⟩⟩, fun p => some (p.2.1)⟩
abbrev said_j1_at : List PI := [.c [1, 1, 0, 1, 0, 0, 1, 1], .l [1, 1, 0, 1, 0, 0], .b 0, .c [1, 1, 1]]
abbrev said_j1_st : Sta := ⟨[1, 2, 5, 6], ⟨[.sl (.int .i64), .own 0 0, .ols 1, .i .i64], [.segs [.sl (.pair (.int .i64) (.pair (.int .i64) .bool)), .sl (.pair (.int .i64) (.pair (.int .i64) (.int .i64))), .i .i64], .lst (.int .i64)]⟩⟩
abbrev said_j1_k (N : Nat) (rec : (List Int) → Int → (List (Int × (Int × Bool))) → (List (Int × (Int × Int))) → Int → (List Int) → Option (List Int)) : Leaf (List Int) := ⟨said_j1_at, said_j1_st, fun p => said_j1 N rec p.1.1 p.1.2.2.2.1 p.2.1.1 p.2.1.2.1 p.2.1.2.2.1 p.2.2.1⟩
theorem said_j1_eq (N : Nat) (rec : (List Int) → Int → (List (Int × (Int × Bool))) → (List (Int × (Int × Int))) → Int → (List Int) → Option (List Int)) (l : List Int) (i : Int) (t : List (Int × (Int × Bool))) (t2 : List (Int × (Int × Int))) (t3 : Int) (out : List Int) : ev (Z := List Int) Try.prog (said_sp N) said_B [] [said_l1_h rec, said_l1_e0] none 400 true said_j1_at (stL said_j1_st ((l, (), (), i, ()), ((t, t2, t3, ()), out, ()))) (stH said_j1_st ((l, (), (), i, ()), ((t, t2, t3, ()), out, ()))) = said_j1 N rec l i t t2 t3 out := by kernel_rfl
theorem said_j1_lf (N : Nat) (rec : (List Int) → Int → (List (Int × (Int × Bool))) → (List (Int × (Int × Int))) → Int → (List Int) → Option (List Int)) {z : List Int} {top : Bool} {E : EE} {Xc : Ctx} (hE : EOK said_B.m0 E) (hX : CxOK top Xc) (hrec : LeafOK Try.prog said_B.c said_B.n said_B.m0 E Xc z (said_l1_h rec)) (h0 : LeafOK Try.prog said_B.c said_B.n said_B.m0 E Xc z said_l1_e0) : LeafOK Try.prog said_B.c said_B.n said_B.m0 E Xc z (said_j1_k N rec) := leaf_of_ev (B := said_B) (loops := []) (leaves := [said_l1_h rec, said_l1_e0]) (said_all N) mixed trivial hE hX ⟨hrec, h0, trivial⟩ RetOK.no (fun p => said_j1_eq N rec p.1.1 p.1.2.2.2.1 p.2.1.1 p.2.1.2.1 p.2.1.2.2.1 p.2.2.1)
noncomputable def said_l1_L (N : Nat) : LoopS := { at_ := said_l1_at, sta := said_l1_st, exits := [([.c [1, 1, 1, 0], .c [1, 1, 1, 1]], ⟨[5], ⟨[.ols 0], [.lst (.int .i64)]⟩⟩)], run := fun p k => (said_l1 N N p.1.1 p.1.2.2.2.1 p.2.1.1 p.2.1.2.1 p.2.1.2.2.1 p.2.2.1).bind fun e => k (.inl (((), ()), (e, ()))) }
theorem said_l1_eq (N n_ : Nat) (l : List Int) (i : Int) (t : List (Int × (Int × Bool))) (t2 : List (Int × (Int × Int))) (t3 : Int) (out : List Int) : ev (Z := List Int) Try.prog (said_sp N) said_B [] [said_l1_h (said_l1 N n_), said_l1_e0, said_j1_k N (said_l1 N n_)] none 400 true said_l1_at (stL said_l1_st ((l, (), (), i, ()), ((t, t2, t3, ()), out, ()))) (stH said_l1_st ((l, (), (), i, ()), ((t, t2, t3, ()), out, ()))) = said_l1 N (n_ + 1) l i t t2 t3 out := by kernel_rfl
theorem said_l1_ok (N : Nat) {top : Bool} : LoopOK Try.prog said_B.c said_B.n said_B.m0 top (said_l1_L N) := loop_of_ev (Z := List Int) (N := N) (fun m p => said_l1 N m p.1.1 p.1.2.2.2.1 p.2.1.1 p.2.1.2.1 p.2.1.2.2.1 p.2.2.1) (fun e => .inl (((), ()), (e, ()))) (fun _ _ _ => rfl) (fun _ => rfl) (fun m z E Xc hE hX hrec hx => leaf_of_ev (B := said_B) (loops := []) (leaves := [said_l1_h (said_l1 N m), said_l1_e0, said_j1_k N (said_l1 N m)]) (said_all N) mixed trivial hE hX ⟨hrec, (fun p hp => by obtain rfl := Option.some.inj hp; exact hx), said_j1_lf N _ hE hX hrec (fun p hp => by obtain rfl := Option.some.inj hp; exact hx), trivial⟩ RetOK.no (fun p => said_l1_eq N m p.1.1 p.1.2.2.2.1 p.2.1.1 p.2.1.2.1 p.2.1.2.2.1 p.2.2.1))
abbrev said_st : Sta := ⟨[0, 1], ⟨[.agg [.sl (.pair (.int .i64) (.pair (.int .i64) .bool)), .sl (.pair (.int .i64) (.pair (.int .i64) (.int .i64))), .i .i64], .sl (.int .i64)], []⟩⟩
theorem said_eq (N : Nat) (t : List (Int × (Int × Bool))) (t2 : List (Int × (Int × Int))) (t3 : Int) (l : List Int) : ev (Z := List Int) Try.prog (said_sp N) said_B [said_l1_L N] [] (some said_rt) 400 false [.c [0], .c [1]] (stL said_st (((t, t2, t3, ()), l, ()), ())) (stH said_st (((t, t2, t3, ()), l, ()), ())) = said_S N t t2 t3 l := by kernel_rfl
noncomputable def sp_said (N : Nat) : Spec := { f := 112, ins := ⟨[.agg [.sl (.pair (.int .i64) (.pair (.int .i64) .bool)), .sl (.pair (.int .i64) (.pair (.int .i64) (.int .i64))), .i .i64], .sl (.int .i64)], []⟩, outs := [⟨[.sl (.int .i64)], []⟩], run := fun p k => (said_S N p.1.1.1 p.1.1.2.1 p.1.1.2.2.1 p.1.2.1).bind fun r => k ((r, ()), ()) }
theorem sp_said_ok (N : Nat) : SpecOK Try.prog (sp_said N) := fn_sound (B := said_B) (loops := [said_l1_L N]) (leaves := []) (fun p => said_S N p.1.1.1 p.1.1.2.1 p.1.1.2.2.1 p.1.2.1) (fun r => ((r, ()), ())) said_rt (fun _ _ _ => rfl) (fun r z h => by cases h; rfl) Try.func112 (by kernel_rfl) (by kernel_rfl) (by kernel_rfl) rfl rfl (by kernel_rfl) (fun args w => Sem.pv_run _ _ _ (by kernel_rfl) w) (said_all N) mixed ⟨said_l1_ok N, trivial⟩ (fun z E Xc hE hX hret => trivial) (fun p => said_eq N p.1.1.1 p.1.1.2.1 p.1.1.2.2.1 p.1.2.1)

def rweight_l1 (N : Nat) : Nat → (List Int) → Int → Int → (List (Int × (Int × Bool))) → (List (Int × (Int × Int))) → Int → Option Int
  | 0, _, _, _, _, _, _ => none
  | n_ + 1, l, n, i, t, t2, t3 =>
    br (decide (i < (l.length : Int)))
      (idx l i fun x_1 =>
      idx t x_1 fun x_2 =>
      chk (n + x_2.2.1) <|
      chk (i + 1) <|
      rweight_l1 N n_ l (n + x_2.2.1) (i + 1) t t2 t3)
      (some (n))
def rweight_S (N : Nat) (t : List (Int × (Int × Bool))) (t2 : List (Int × (Int × Int))) (t3 : Int) (l : List Int) : Option Int :=
  (rweight_l1 N N l 0 0 t t2 t3).bind fun n_3 =>
  some n_3
noncomputable def rweight_sp (N : Nat) : List Spec := []
theorem rweight_all (N : Nat) : AllP (SpecOK Try.prog) (rweight_sp N) := trivial
noncomputable def rweight_c : Code := (Try.f122.body).getD .skip
noncomputable abbrev rweight_B : Body := { c := rweight_c, n := 25, res := [.tmp 4], outs := [⟨[.i .i64], []⟩], m0 := 0 }
abbrev rweight_rt : altD rweight_B.outs → Option Int := fun r => some r.1.1
abbrev rweight_l1_at : List PI := [.c [1, 1, 0, 1, 0, 0, 0, 0], .c [1, 1, 0, 1, 0, 0, 0, 1], .c [1, 1, 0, 1, 0, 0, 1], .l [1, 1, 0, 1, 0, 0], .b 0, .c [1, 1, 1]]
abbrev rweight_l1_st : Sta := ⟨[1, 2, 5, 6], ⟨[.sl (.int .i64), .own 0 0, .i .i64, .i .i64], [.segs [.sl (.pair (.int .i64) (.pair (.int .i64) .bool)), .sl (.pair (.int .i64) (.pair (.int .i64) (.int .i64))), .i .i64]]⟩⟩
abbrev rweight_l1_h (rec : (List Int) → Int → Int → (List (Int × (Int × Bool))) → (List (Int × (Int × Int))) → Int → Option Int) : Leaf Int := ⟨rweight_l1_at, rweight_l1_st, fun p => rec p.1.1 p.1.2.2.1 p.1.2.2.2.1 p.2.1.1 p.2.1.2.1 p.2.1.2.2.1⟩
abbrev rweight_l1_e0 : Leaf Int := ⟨[.c [1, 1, 1, 0], .c [1, 1, 1, 1]], ⟨[5], ⟨[.i .i64], []⟩⟩, fun p => some (p.1.1)⟩
noncomputable def rweight_l1_L (N : Nat) : LoopS := { at_ := rweight_l1_at, sta := rweight_l1_st, exits := [([.c [1, 1, 1, 0], .c [1, 1, 1, 1]], ⟨[5], ⟨[.i .i64], []⟩⟩)], run := fun p k => (rweight_l1 N N p.1.1 p.1.2.2.1 p.1.2.2.2.1 p.2.1.1 p.2.1.2.1 p.2.1.2.2.1).bind fun e => k (.inl ((e, ()), ())) }
theorem rweight_l1_eq (N n_ : Nat) (l : List Int) (n : Int) (i : Int) (t : List (Int × (Int × Bool))) (t2 : List (Int × (Int × Int))) (t3 : Int) : ev (Z := Int) Try.prog (rweight_sp N) rweight_B [] [rweight_l1_h (rweight_l1 N n_), rweight_l1_e0] none 400 true rweight_l1_at (stL rweight_l1_st ((l, (), n, i, ()), ((t, t2, t3, ()), ()))) (stH rweight_l1_st ((l, (), n, i, ()), ((t, t2, t3, ()), ()))) = rweight_l1 N (n_ + 1) l n i t t2 t3 := by kernel_rfl
theorem rweight_l1_ok (N : Nat) {top : Bool} : LoopOK Try.prog rweight_B.c rweight_B.n rweight_B.m0 top (rweight_l1_L N) := loop_of_ev (Z := Int) (N := N) (fun m p => rweight_l1 N m p.1.1 p.1.2.2.1 p.1.2.2.2.1 p.2.1.1 p.2.1.2.1 p.2.1.2.2.1) (fun e => .inl ((e, ()), ())) (fun _ _ _ => rfl) (fun _ => rfl) (fun m z E Xc hE hX hrec hx => leaf_of_ev (B := rweight_B) (loops := []) (leaves := [rweight_l1_h (rweight_l1 N m), rweight_l1_e0]) (rweight_all N) mixed trivial hE hX ⟨hrec, (fun p hp => by obtain rfl := Option.some.inj hp; exact hx), trivial⟩ RetOK.no (fun p => rweight_l1_eq N m p.1.1 p.1.2.2.1 p.1.2.2.2.1 p.2.1.1 p.2.1.2.1 p.2.1.2.2.1))
abbrev rweight_st : Sta := ⟨[0, 1], ⟨[.agg [.sl (.pair (.int .i64) (.pair (.int .i64) .bool)), .sl (.pair (.int .i64) (.pair (.int .i64) (.int .i64))), .i .i64], .sl (.int .i64)], []⟩⟩
theorem rweight_eq (N : Nat) (t : List (Int × (Int × Bool))) (t2 : List (Int × (Int × Int))) (t3 : Int) (l : List Int) : ev (Z := Int) Try.prog (rweight_sp N) rweight_B [rweight_l1_L N] [] (some rweight_rt) 400 false [.c [0], .c [1]] (stL rweight_st (((t, t2, t3, ()), l, ()), ())) (stH rweight_st (((t, t2, t3, ()), l, ()), ())) = rweight_S N t t2 t3 l := by kernel_rfl
noncomputable def sp_rweight (N : Nat) : Spec := { f := 122, ins := ⟨[.agg [.sl (.pair (.int .i64) (.pair (.int .i64) .bool)), .sl (.pair (.int .i64) (.pair (.int .i64) (.int .i64))), .i .i64], .sl (.int .i64)], []⟩, outs := [⟨[.i .i64], []⟩], run := fun p k => (rweight_S N p.1.1.1 p.1.1.2.1 p.1.1.2.2.1 p.1.2.1).bind fun r => k ((r, ()), ()) }
theorem sp_rweight_ok (N : Nat) : SpecOK Try.prog (sp_rweight N) := fn_sound (B := rweight_B) (loops := [rweight_l1_L N]) (leaves := []) (fun p => rweight_S N p.1.1.1 p.1.1.2.1 p.1.1.2.2.1 p.1.2.1) (fun r => ((r, ()), ())) rweight_rt (fun _ _ _ => rfl) (fun r z h => by cases h; rfl) Try.func122 (by kernel_rfl) (by kernel_rfl) (by kernel_rfl) rfl rfl (by kernel_rfl) (fun args w => Sem.pv_run _ _ _ (by kernel_rfl) w) (rweight_all N) mixed ⟨rweight_l1_ok N, trivial⟩ (fun z E Xc hE hX hret => trivial) (fun p => rweight_eq N p.1.1.1 p.1.1.2.1 p.1.1.2.2.1 p.1.2.1)

end Go.Proofs.Ytfamlpbdhhikdaa

namespace Go.Proofs.Ytfamlpbdhhikdaa
set_option linter.all false
open Go
theorem awake_v : awake_S 1100 = some true := by kernel_rfl
end Go.Proofs.Ytfamlpbdhhikdaa

namespace Go.Proofs.Ytfamlpbdhhikdaa
set_option linter.all false
open Go

/-! ### All elements -/
theorem every_gen {α : Type} {f : α → Option Bool} {p : α → Bool} {s : List α} {N : Nat} (hf : ∀ x ∈ s, f x = some (p x)) (hs : s.length ≤ 1000000) (hN : s.length < N) :
    (((ixS (fun x => (f x).bind fun c => some (!c)) N s).bind fun x => some (decide (0 ≤ x))).bind fun x => some (!x)) = some (s.all p) := by
  rw [ixS_any (p := fun x => !p x) (fun x hx => by rw [hf x hx]; rfl) hs hN]
  simp only [Option.bind_some, any_not]
section
variable (N : Nat)
theorem ixfw_gen : ∀ (n : Nat) (s : List Wd) (u u2 : Int), ixfw_l1 N n s u u2 = ixL (fun x => every1w_S N x.1 x.2.1 x.2.2) n s u u2
  | 0, _, _, _ => rfl
  | n + 1, s, u, u2 => by unfold ixfw_l1 ixL; simp only [ixfw_gen n]
theorem ixft3_gen : ∀ (n : Nat) (s : List Tn) (u u2 : Int), ixft3_l1 N n s u u2 = ixL (fun x => every1t3_S N x.1 x.2.1 x.2.2) n s u u2
  | 0, _, _, _ => rfl
  | n + 1, s, u, u2 => by unfold ixft3_l1 ixL; simp only [ixft3_gen n]
theorem ixft4_gen : ∀ (n : Nat) (s : List Tn) (u u2 : Int), ixft4_l1 N n s u u2 = ixL (fun x => every1t4_S N x.1 x.2.1 x.2.2) n s u u2
  | 0, _, _, _ => rfl
  | n + 1, s, u, u2 => by unfold ixft4_l1 ixL; simp only [ixft4_gen n]
end
def okw (w : Wd) : Bool := decide (1 ≤ w.1 ∧ w.1 ≤ 9) && decide (0 ≤ w.2.1 ∧ w.2.1 ≤ 20)
def inT (n : Nat) (x : Int) : Bool := decide (0 ≤ x ∧ x ≤ (n : Int) - 1)
def ok2 (n : Nat) (x : Tn) : Bool := inT n x.1 && (inT n x.2.1 && inT n x.2.2)
def ok3 (x : Tn) : Bool := decide (x.2.1 ≤ x.2.2)
def ok4 (x : Tn) : Bool := !decide (x.2.1 ≤ x.1 ∧ x.1 ≤ x.2.2)
section
variable {N : Nat} {ws : List Wd} {ts : List Tn} {br_ : Int}
theorem everyw_v (h : ws.length ≤ 1000000) (hN : ws.length < N) : everyw_S N ws = some (ws.all okw) := by
  unfold everyw_S cofw_S ixfw_S
  rw [← every_gen (f := fun x : Wd => check1_S N x.1 x.2.1 x.2.2) (p := okw) (s := ws) (N := N) (fun x _ => ?_) h hN]
  · unfold ixS
    rw [ixfw_gen]
    rfl
  · unfold check1_S okw
    rw [in_v, in_v]
    by_cases h : 1 ≤ x.1 ∧ x.1 ≤ 9 <;> simp [br, h]
theorem everyt3_v (h : ts.length ≤ 1000000) (hN : ts.length < N) : everyt3_S N ts = some (ts.all ok3) := by
  unfold everyt3_S coft3_S ixft3_S
  rw [← every_gen (f := fun x : Tn => check3_S N x.1 x.2.1 x.2.2) (p := ok3) (s := ts) (N := N) (fun x _ => ?_) h hN]
  · unfold ixS
    rw [ixft3_gen]
    rfl
  · rfl
theorem everyt4_v (h : ts.length ≤ 1000000) (hN : ts.length < N) : everyt4_S N ts = some (ts.all ok4) := by
  unfold everyt4_S coft4_S ixft4_S
  rw [← every_gen (f := fun x : Tn => check4_S N x.1 x.2.1 x.2.2) (p := ok4) (s := ts) (N := N) (fun x _ => ?_) h hN]
  · unfold ixS
    rw [ixft4_gen]
    rfl
  · unfold check4_S ok4
    rw [in_v]; rfl
theorem word_v (h : ws.length ≤ 1000000) (n : Int) : word_S N ws ts br_ n = some (inT ws.length n) := by
  unfold word_S
  rw [chk_eq (by omega), in_v]; rfl
theorem check2_v (h : ws.length ≤ 1000000) (x : Tn) : check2_S N x.1 x.2.1 x.2.2 (ws, ts, br_) = some (ok2 ws.length x) := by
  unfold check2_S ok2
  simp only [word_v h, Option.bind_some]
  cases inT ws.length x.1 <;> cases inT ws.length x.2.1 <;> cases inT ws.length x.2.2 <;> rfl
theorem ixft2_gen (h : ws.length ≤ 1000000) : ∀ (n : Nat) (s : List Tn) (u u2 : Int), ixft2_l1 N n s u u2 (ws, ts, br_) = (ixL (fun x => some (!ok2 ws.length x)) n s u u2).map fun r => match r with | .inl i => .inl (i, (ws, ts, br_)) | .inr _ => .inr (ws, ts, br_)
  | 0, _, _, _ => rfl
  | n + 1, s, u, u2 => by
    unfold ixft2_l1 ixL every1t2_S
    simp only [check2_v h, Option.bind_some, ixft2_gen h n]
    unfold br
    split
    · unfold idx
      split
      · cases s[u2.toNat]? with
        | none => rfl
        | some a =>
          dsimp only
          cases ok2 ws.length a
          · rfl
          · simp only [Bool.not_true, Bool.false_eq_true, if_false]
            unfold chk
            split <;> rfl
      · rfl
    · rfl
theorem everyt2_v (hw : ws.length ≤ 1000000) (h : ts.length ≤ 1000000) (hN : ts.length < N) : everyt2_S N ts (ws, ts, br_) = some (ts.all (ok2 ws.length)) := by
  unfold everyt2_S coft2_S ixft2_S
  rw [← every_gen (f := fun x : Tn => some (ok2 ws.length x)) (p := ok2 ws.length) (s := ts) (N := N) (fun x _ => rfl) h hN]
  unfold ixS
  rw [ixft2_gen hw]
  simp only [Option.bind_some]
  cases ixL (fun x => some (!ok2 ws.length x)) N ts ts.length 0 with
  | none => rfl
  | some r => cases r <;> rfl
end
/-- The error of a text. -/
def checkT (ws : List Wd) (ts : List Tn) (br_ : Int) : Int :=
  if ¬ (1 ≤ (ws.length : Int) ∧ (ws.length : Int) ≤ 12) then 2 else if 6 < (ts.length : Int) then 2 else if ¬ (1 ≤ br_ ∧ br_ ≤ 40) then 3 else if ws.all okw = false then 3 else
  if ts.all (ok2 ws.length) = false then 1 else if ts.all ok3 = false then 4 else if ts.all ok4 = false then 7 else 0
section
variable {N : Nat} {ws : List Wd} {ts : List Tn} {br_ : Int}
theorem check_v (hN : 20 ≤ N) (hw : ws.length ≤ 1000000) (ht : ts.length ≤ 1000000) : check_S N ws ts br_ = some (checkT ws ts br_) := by
  unfold check_S checkT
  rw [in_v]
  simp only [Option.bind_some]
  by_cases c1 : 1 ≤ (ws.length : Int) ∧ (ws.length : Int) ≤ 12
  rotate_left
  · rw [br_nnd c1, if_pos c1]
  rw [br_nd c1, if_neg (by simpa using c1)]
  by_cases c2 : 6 < (ts.length : Int)
  · rw [br_dec c2, if_pos c2]
  rw [br_ndec c2, if_neg c2, in_v]
  simp only [Option.bind_some]
  by_cases c3 : 1 ≤ br_ ∧ br_ ≤ 40
  rotate_left
  · rw [br_nnd c3, if_pos c3]
  rw [br_nd c3, if_neg (by simpa using c3), everyw_v hw (by omega), everyt2_v hw ht (by omega), everyt3_v ht (by omega), everyt4_v ht (by omega)]
  simp only [Option.bind_some]
  cases ws.all okw <;> cases ts.all (ok2 ws.length) <;> cases ts.all ok3 <;> cases ts.all ok4 <;> rfl
theorem off_v (n lo hi : Int) : off_S N n lo hi = some (!decide (lo ≤ n ∧ n ≤ hi)) := by
  unfold off_S
  by_cases c : n < lo
  · rw [br_dec c]; congr 1; simp; omega
  · rw [br_ndec c]; congr 1
    by_cases d : n ≤ hi
    · rw [decide_eq_false (show ¬ hi < n by omega), decide_eq_true (show lo ≤ n ∧ n ≤ hi from ⟨by omega, d⟩)]; rfl
    · rw [decide_eq_true (show hi < n by omega), decide_eq_false (fun h : lo ≤ n ∧ n ≤ hi => d h.2)]; rfl
/-- A loop through a list that ends at the first element that isn't so. -/
def alls {α β : Type} (p : α → Bool) (s : List α) (k : Nat) (b : β) : Option (Unit ⊕ β) := some (if (s.drop k).all p then .inr b else .inl ())
theorem alls_yes {α β : Type} {p : α → Bool} {s : List α} {k : Nat} {b : β} (d : α) (h : k < s.length) (hp : p (s.getD k d) = true) : alls p s k b = alls p s (k + 1) b := by
  unfold alls; rw [drop_cons h d, List.all_cons, hp, Bool.true_and]
theorem alls_no {α β : Type} {p : α → Bool} {s : List α} {k : Nat} {b : β} (d : α) (h : k < s.length) (hp : p (s.getD k d) = false) : alls p s k b = some (.inl ()) := by
  unfold alls; rw [drop_cons h d, List.all_cons, hp, Bool.false_and]; rfl
theorem alls_end {α β : Type} {p : α → Bool} {s : List α} {k : Nat} {b : β} (h : s.length ≤ k) : alls p s k b = some (.inr b) := by
  unfold alls; rw [List.drop_of_length_le h]; rfl
theorem rcheck_l1_p (hw : ws.length ≤ 1000000) : ∀ (n k : Nat), ws.length < n + k → k ≤ ws.length → rcheck_l1 N n ws.length k ws ts br_ = alls okw ws k ((ws.length : Int), ws, ts, br_)
  | 0, k, h, _ => by omega
  | n + 1, k, h, hk => by
    unfold rcheck_l1
    by_cases c : k < ws.length
    · have ih := rcheck_l1_p hw n (k + 1) (by omega) (by omega)
      rw [show ((k + 1 : Nat) : Int) = (k : Int) + 1 by omega] at ih
      have g := gets c (0, 0, false)
      have y := alls_yes (p := okw) (β := Int × List Wd × List Tn × Int) (b := ((ws.length : Int), ws, ts, br_)) (0, 0, false) c
      have no := alls_no (p := okw) (β := Int × List Wd × List Tn × Int) (b := ((ws.length : Int), ws, ts, br_)) (0, 0, false) c
      generalize ws.getD k (0, 0, false) = x at *
      rw [br_dec (by omega), idx_eq (by omega) g, off_v]
      simp only [Option.bind_some]
      by_cases c1 : 1 ≤ x.1 ∧ x.1 ≤ 9
      · rw [br_nd c1, idx_eq (by omega) g, off_v]
        simp only [Option.bind_some]
        by_cases c2 : 0 ≤ x.2.1 ∧ x.2.1 ≤ 20
        · rw [br_nd c2, chk_eq (by omega), ih, y (by simp [okw, c1, c2])]
        · rw [br_nnd c2, no (by simp [okw]; omega)]
      · rw [br_nnd c1, no (by simp [okw]; omega)]
    · rw [br_ndec (by omega), alls_end (by omega)]
theorem rcheck_l2_p (ht : ts.length ≤ 1000000) {m : Nat} (hm : m ≤ 1000000) : ∀ (n k : Nat), ts.length < n + k → k ≤ ts.length → rcheck_l2 N n m k ws ts br_ = alls (ok2 m) ts k (ws, ts, br_)
  | 0, k, h, _ => by omega
  | n + 1, k, h, hk => by
    unfold rcheck_l2
    by_cases c : k < ts.length
    · have ih := rcheck_l2_p ht hm n (k + 1) (by omega) (by omega)
      rw [show ((k + 1 : Nat) : Int) = (k : Int) + 1 by omega] at ih
      have g := gets c (0, 0, 0)
      have y := alls_yes (p := ok2 m) (b := (ws, ts, br_)) (0, 0, 0) c
      have no := alls_no (p := ok2 m) (b := (ws, ts, br_)) (0, 0, 0) c
      generalize ts.getD k (0, 0, 0) = x at *
      rw [br_dec (by omega), idx_eq (by omega) g, chk_eq (by omega), off_v]
      simp only [Option.bind_some]
      by_cases c1 : 0 ≤ x.1 ∧ x.1 ≤ (m : Int) - 1
      · rw [br_nd c1, idx_eq (by omega) g, chk_eq (by omega), off_v]
        simp only [Option.bind_some]
        by_cases c2 : 0 ≤ x.2.1 ∧ x.2.1 ≤ (m : Int) - 1
        · rw [br_nd c2, idx_eq (by omega) g, chk_eq (by omega), off_v]
          simp only [Option.bind_some]
          by_cases c3 : 0 ≤ x.2.2 ∧ x.2.2 ≤ (m : Int) - 1
          · rw [br_nd c3, chk_eq (by omega), ih, y (by simp only [ok2, inT, c1, c2, c3, decide_true, and_self, Bool.and_self])]
          · rw [br_nnd c3, no (by simp only [ok2, inT, c3, decide_false, Bool.and_false])]
        · rw [br_nnd c2, no (by simp only [ok2, inT, c2, decide_false, Bool.and_false, Bool.false_and])]
      · rw [br_nnd c1, no (by simp only [ok2, inT, c1, decide_false, Bool.and_false, Bool.false_and])]
    · rw [br_ndec (by omega), alls_end (by omega)]
theorem rcheck_l3_p (ht : ts.length ≤ 1000000) : ∀ (n k : Nat), ts.length < n + k → k ≤ ts.length → rcheck_l3 N n k ws ts br_ = alls ok3 ts k (ws, ts, br_)
  | 0, k, h, _ => by omega
  | n + 1, k, h, hk => by
    unfold rcheck_l3
    by_cases c : k < ts.length
    · have ih := rcheck_l3_p ht n (k + 1) (by omega) (by omega)
      rw [show ((k + 1 : Nat) : Int) = (k : Int) + 1 by omega] at ih
      have g := gets c (0, 0, 0)
      have y := alls_yes (p := ok3) (b := (ws, ts, br_)) (0, 0, 0) c
      have no := alls_no (p := ok3) (b := (ws, ts, br_)) (0, 0, 0) c
      generalize ts.getD k (0, 0, 0) = x at *
      rw [br_dec (by omega), idx_eq (by omega) g, idx_eq (by omega) g]
      by_cases c1 : x.2.2 < x.2.1
      · rw [br_dec c1, no (by simp [ok3]; omega)]
      · rw [br_ndec c1, chk_eq (by omega), ih, y (by simp [ok3]; omega)]
    · rw [br_ndec (by omega), alls_end (by omega)]
theorem rcheck_l4_p (ht : ts.length ≤ 1000000) : ∀ (n k : Nat), ts.length < n + k → k ≤ ts.length → rcheck_l4 N n k ws ts br_ = alls ok4 ts k ()
  | 0, k, h, _ => by omega
  | n + 1, k, h, hk => by
    unfold rcheck_l4
    by_cases c : k < ts.length
    · have ih := rcheck_l4_p ht n (k + 1) (by omega) (by omega)
      rw [show ((k + 1 : Nat) : Int) = (k : Int) + 1 by omega] at ih
      have g := gets c (0, 0, 0)
      have y := alls_yes (p := ok4) (b := ()) (0, 0, 0) c
      have no := alls_no (p := ok4) (b := ()) (0, 0, 0) c
      generalize ts.getD k (0, 0, 0) = x at *
      rw [br_dec (by omega), idx_eq (by omega) g, idx_eq (by omega) g, idx_eq (by omega) g, off_v]
      simp only [Option.bind_some, Bool.not_not]
      by_cases c1 : x.2.1 ≤ x.1 ∧ x.1 ≤ x.2.2
      · rw [br_dec c1, no (by simp only [ok4, c1, and_self, decide_true, Bool.not_true])]
      · rw [br_ndec c1, chk_eq (by omega), ih, y (by simp only [ok4, c1, decide_false, Bool.not_false])]
    · rw [br_ndec (by omega), alls_end (by omega)]
theorem rcheck_v (hN : 20 ≤ N) (hw : ws.length ≤ 1000000) (ht : ts.length ≤ 1000000) : rcheck_S N ws ts br_ = some (checkT ws ts br_) := by
  unfold rcheck_S checkT
  rw [off_v]
  simp only [Option.bind_some]
  by_cases c1 : 1 ≤ (ws.length : Int) ∧ (ws.length : Int) ≤ 12
  rotate_left
  · rw [br_nnd c1, if_pos c1]
  rw [br_nd c1, if_neg (by simpa using c1)]
  by_cases c2 : 6 < (ts.length : Int)
  · rw [br_dec c2, if_pos c2]
  rw [br_ndec c2, if_neg c2, off_v]
  simp only [Option.bind_some]
  by_cases c3 : 1 ≤ br_ ∧ br_ ≤ 40
  rotate_left
  · rw [br_nnd c3, if_pos c3]
  have e1 := rcheck_l1_p (N := N) (ts := ts) (br_ := br_) hw N 0 (by omega) (by omega)
  have e2 := rcheck_l2_p (N := N) (ws := ws) (br_ := br_) ht (m := ws.length) hw N 0 (by omega) (by omega)
  have e3 := rcheck_l3_p (N := N) (ws := ws) (br_ := br_) ht N 0 (by omega) (by omega)
  have e4 := rcheck_l4_p (N := N) (ws := ws) (br_ := br_) ht N 0 (by omega) (by omega)
  simp only [Int.natCast_zero] at e1 e2 e3 e4
  rw [br_nd c3, if_neg (by simpa using c3), e1]
  unfold alls at e2 e3 e4 ⊢
  simp only [List.drop_zero] at e2 e3 e4 ⊢
  cases d1 : ws.all okw
  · simp
  simp only [if_true, Option.bind_some, e2]
  cases d2 : ts.all (ok2 ws.length)
  · simp
  simp only [if_true, Option.bind_some, e3]
  cases d3 : ts.all ok3
  · simp
  simp only [if_true, Option.bind_some, e4]
  cases d4 : ts.all ok4 <;> simp
/-! ### Copies, comparisons -/
theorem copyw_v (h : ws.length ≤ 1000000) : copyw_S N ws = some ws := by
  unfold copyw_S
  rw [grd_eq (lmI_iff.2 (by omega))]
  simp
theorem copyt_v (h : ts.length ≤ 1000000) : copyt_S N ts = some ts := by
  unfold copyt_S
  rw [grd_eq (lmI_iff.2 (by omega))]
  simp
theorem copyx_v (hw : ws.length ≤ 1000000) (ht : ts.length ≤ 1000000) : copyx_S N ws ts br_ = some (ws, ts, br_) := by
  unfold copyx_S
  rw [copyw_v hw, copyt_v ht]; rfl
theorem take_succ' {α : Type} {l : List α} {k : Nat} (c : k < l.length) (d : α) : l.take (k + 1) = l.take k ++ [l.getD k d] := by
  rw [List.take_add_one]; simp [List.getD, c]
theorem theirs_l1_p {g : Int} {t : List Wd} {t2 : List Tn} {t3 o : Int} (hw : ws.length ≤ 1000) : ∀ (n k : Nat), ws.length < n + k → k ≤ ws.length → theirs_l1 N n ws ws.length k t t2 t3 g o (ws.take k) = some (t, t2, t3, g, o, ws)
  | 0, k, h, _ => by omega
  | n + 1, k, h, hk => by
    unfold theirs_l1
    by_cases c : k < ws.length
    · have ih := theirs_l1_p (g := g) (t := t) (t2 := t2) (t3 := t3) (o := o) hw n (k + 1) (by omega) (by omega)
      rw [show ((k + 1 : Nat) : Int) = (k : Int) + 1 by omega, take_succ' c (0, 0, false)] at ih
      rw [br_dec (by omega), idx_eq (by omega) (gets c (0, 0, false)), lim_eq (by simp; omega), chk_eq (by omega)]
      exact ih
    · rw [br_ndec (by omega), List.take_of_length_le (by omega)]
theorem theirs_l2_p {g o : Int} {t : List Wd} (ht : ts.length ≤ 1000) : ∀ (n k : Nat), ts.length < n + k → k ≤ ts.length → theirs_l2 N n ts ts.length k g o t (ts.take k) = some (g, o, t, ts)
  | 0, k, h, _ => by omega
  | n + 1, k, h, hk => by
    unfold theirs_l2
    by_cases c : k < ts.length
    · have ih := theirs_l2_p (g := g) (o := o) (t := t) ht n (k + 1) (by omega) (by omega)
      rw [show ((k + 1 : Nat) : Int) = (k : Int) + 1 by omega, take_succ' c (0, 0, 0)] at ih
      rw [br_dec (by omega), idx_eq (by omega) (gets c (0, 0, 0)), lim_eq (by simp; omega), chk_eq (by omega)]
      exact ih
    · rw [br_ndec (by omega), List.take_of_length_le (by omega)]
theorem theirs_v (hw : ws.length ≤ 1000) (ht : ts.length ≤ 1000) (h1 : ws.length < N) (h2 : ts.length < N) : theirs_S N ws ts br_ = some (ws, ts, br_) := by
  have e1 := theirs_l1_p (N := N) (g := 0) (t := ws) (t2 := ts) (t3 := br_) (o := br_) hw N 0 (by omega) (by omega)
  have e2 := theirs_l2_p (N := N) (g := 0) (o := br_) (t := ws) ht N 0 (by omega) (by omega)
  simp only [Int.natCast_zero, List.take_zero] at e1 e2
  unfold theirs_S
  rw [e1]
  simp only [Option.bind_some]
  rw [e2]; rfl
theorem likei_v {l : List Int} (h : l.length ≤ 1000) (hN : l.length < N) : likei_S N l l = some true := by
  have e : ∀ (n k : Nat), l.length < n + k → k ≤ l.length → equali_l1 N n l l l.length k = some (.inr ()) := by
    intro n
    induction n with
    | zero => intro k h _; omega
    | succ n ih =>
      intro k h2 hk
      unfold equali_l1
      by_cases c : k < l.length
      · have := ih (k + 1) (by omega) (by omega)
        rw [show ((k + 1 : Nat) : Int) = (k : Int) + 1 by omega] at this
        rw [br_dec (by omega), idx_eq (by omega) (gets c 0), idx_eq (by omega) (gets c 0), br_nd rfl, chk_eq (by omega), this]
      · rw [br_ndec (by omega)]
  have e0 := e N 0 (by omega) (by omega)
  simp only [Int.natCast_zero] at e0
  unfold likei_S equali_S
  rw [br_nd rfl, e0]; rfl
theorem likew_v {l : List Wd} (h : l.length ≤ 1000) (hN : l.length < N) : likew_S N l l = some true := by
  have e : ∀ (n k : Nat), l.length < n + k → k ≤ l.length → equalw_l1 N n l l l.length k = some (.inr ()) := by
    intro n
    induction n with
    | zero => intro k h _; omega
    | succ n ih =>
      intro k h2 hk
      unfold equalw_l1
      by_cases c : k < l.length
      · have := ih (k + 1) (by omega) (by omega)
        rw [show ((k + 1 : Nat) : Int) = (k : Int) + 1 by omega] at this
        rw [br_dec (by omega), idx_eq (by omega) (gets c (0, 0, false)), idx_eq (by omega) (gets c (0, 0, false)), chk_eq (by omega), this]
        simp [br]
      · rw [br_ndec (by omega)]
  have e0 := e N 0 (by omega) (by omega)
  simp only [Int.natCast_zero] at e0
  unfold likew_S equalw_S
  rw [br_nd rfl, e0]; rfl
theorem liket_v {l : List Tn} (h : l.length ≤ 1000) (hN : l.length < N) : liket_S N l l = some true := by
  have e : ∀ (n k : Nat), l.length < n + k → k ≤ l.length → equalt_l1 N n l l l.length k = some (.inr ()) := by
    intro n
    induction n with
    | zero => intro k h _; omega
    | succ n ih =>
      intro k h2 hk
      unfold equalt_l1
      by_cases c : k < l.length
      · have := ih (k + 1) (by omega) (by omega)
        rw [show ((k + 1 : Nat) : Int) = (k : Int) + 1 by omega] at this
        rw [br_dec (by omega), idx_eq (by omega) (gets c (0, 0, 0)), idx_eq (by omega) (gets c (0, 0, 0)), chk_eq (by omega), this]
        simp [br]
      · rw [br_ndec (by omega)]
  have e0 := e N 0 (by omega) (by omega)
  simp only [Int.natCast_zero] at e0
  unfold liket_S equalt_S
  rw [br_nd rfl, e0]; rfl
theorem same_v (hw : ws.length ≤ 1000) (ht : ts.length ≤ 1000) (h1 : ws.length < N) (h2 : ts.length < N) : same_S N ws ts br_ ws ts br_ = some true := by
  unfold same_S
  rw [likew_v hw h1]
  simp only [Option.bind_some, br_true]
  rw [liket_v ht h2]
  simp [br]
theorem great_v (m : Int) : great_S N ws ts br_ m = some true ∨ great_S N ws ts br_ m = some false ∧ ws.length ≤ 20 ∧ ts.length ≤ 20 ∧ ((ws.length : Int) ≤ m ∨ 12 < (ws.length : Int)) := by
  unfold great_S
  by_cases c : 20 < (ws.length : Int)
  · rw [br_dec c]; exact .inl rfl
  · rw [br_ndec c]
    by_cases d : 20 < (ts.length : Int)
    · rw [br_dec d]; exact .inl rfl
    · rw [br_ndec d]
      by_cases e : m < (ws.length : Int)
      · rw [br_dec e]
        by_cases f : (ws.length : Int) ≤ 12
        · rw [decide_eq_true f]; exact .inl rfl
        · rw [decide_eq_false f]; exact .inr ⟨rfl, by omega, by omega, by omega⟩
      · rw [br_ndec e]; exact .inr ⟨rfl, by omega, by omega, by omega⟩
end
end Go.Proofs.Ytfamlpbdhhikdaa

namespace Go.Proofs.Ytfamlpbdhhikdaa
set_option linter.all false
open Go

structure TFine (ws : List Wd) (ts : List Tn) (br_ : Int) : Prop where
  n0 : 1 ≤ ws.length
  n : ws.length ≤ 12
  t : ts.length ≤ 6
  b0 : 1 ≤ br_
  b1 : br_ ≤ 40
  w : ∀ w ∈ ws, (1 ≤ w.1 ∧ w.1 ≤ 9) ∧ 0 ≤ w.2.1 ∧ w.2.1 ≤ 20
  x : ∀ x ∈ ts, (0 ≤ x.1 ∧ x.1 < ws.length) ∧ (0 ≤ x.2.1 ∧ x.2.1 < ws.length) ∧ (0 ≤ x.2.2 ∧ x.2.2 < ws.length) ∧ x.2.1 ≤ x.2.2 ∧ ¬ (x.2.1 ≤ x.1 ∧ x.1 ≤ x.2.2)
section
variable {N : Nat} {ws : List Wd} {ts : List Tn} {br_ : Int}
theorem tfine_of (h : checkT ws ts br_ = 0) : TFine ws ts br_ := by
  unfold checkT at h
  split at h
  · omega
  rename_i c1
  split at h
  · omega
  split at h
  · omega
  rename_i c3
  split at h
  · omega
  rename_i c4
  split at h
  · omega
  rename_i c5
  split at h
  · omega
  rename_i c6
  split at h
  · omega
  rename_i c7
  simp only [Bool.not_eq_false, List.all_eq_true] at c4 c5 c6 c7
  refine ⟨by omega, by omega, by omega, by omega, by omega, fun w hw => ?_, fun x hx => ?_⟩
  · have := c4 w hw
    simpa [okw] using this
  · have h1 := c5 x hx; have h2 := c6 x hx; have h3 := c7 x hx
    simp only [ok2, inT, ok3, ok4, Bool.and_eq_true, decide_eq_true_eq, Bool.not_eq_true', decide_eq_false_iff_not] at h1 h2 h3
    exact ⟨by omega, by omega, by omega, h2, h3⟩
theorem TFine.okW (h : TFine ws ts br_) : okW ws = true := okW_iff.2 ⟨by have := h.n; omega, fun w hw => by have := (h.w w hw).1; omega⟩
theorem opened_v (hN : 20 ≤ N) (hw : ws.length ≤ 1000000) (ht : ts.length ≤ 1000000) : opened_S N ws ts br_ = some (if checkT ws ts br_ = 0 then .inl ((ws, ts, br_), 0) else .inr (checkT ws ts br_)) := by
  unfold opened_S
  rw [check_v hN hw ht]
  simp only [Option.bind_some]
  by_cases c : checkT ws ts br_ = 0
  · rw [br_nd c, if_pos c]
  · rw [br_nnd c, if_neg c]
/-! ### Lists of words -/
theorem has_l1_p {l : List Int} {v : Int} (hl : l.length ≤ 1000000) : ∀ (n k : Nat), l.length < n + k → k ≤ l.length → has_l1 N n l v k = some (if (l.drop k).contains v then .inl () else .inr ())
  | 0, k, h, _ => by omega
  | n + 1, k, h, hk => by
    unfold has_l1
    by_cases c : k < l.length
    · have ih := has_l1_p (v := v) hl n (k + 1) (by omega) (by omega)
      rw [show ((k + 1 : Nat) : Int) = (k : Int) + 1 by omega] at ih
      rw [br_dec (by omega), idx_eq (by omega) (gets c 0), drop_cons c 0, List.contains_cons]
      generalize l.getD k 0 = x at *
      by_cases d : x = v
      · subst d; rw [br_dec rfl]; simp
      · rw [br_ndec d, chk_eq (by omega), ih, show (v == x) = false by simp; exact fun e => d e.symm, Bool.false_or]
    · rw [br_ndec (by omega), List.drop_of_length_le (by omega)]; rfl
theorem has_v {l : List Int} {v : Int} (hl : l.length ≤ 1000000) (hN : l.length < N) : has_S N l v = some (l.contains v) := by
  unfold has_S
  have := has_l1_p (N := N) (v := v) hl N 0 (by omega) (by omega)
  simp only [Int.natCast_zero, List.drop_zero] at this
  rw [this]
  cases l.contains v <;> rfl
/-- The numbers from one on up to another one. -/
def wordsL (a b : Int) : List Int := (List.range (b - a).toNat).map fun (i : Nat) => a + (i : Int)
theorem wordsL_len (a b : Int) : (wordsL a b).length = (b - a).toNat := by simp [wordsL]
/-- Some words have the whole core of a turn. -/
def coreB (l : List Int) (x : Tn) : Bool := (wordsL x.2.1 (x.2.2 + 1)).all fun w => l.contains w
def sayP (l : List Int) (x : Tn) : Bool := coreB l x && !l.contains x.1
theorem otherwise_l1_p {l : List Int} (hl : l.length ≤ 1000000) (hN : l.length < N) {x : Tn} (hx : -1000 ≤ x.2.1 ∧ x.2.2 ≤ 1000) : ∀ (n : Nat) (w : Int), (x.2.2 + 1 - w).toNat < n → x.2.1 ≤ w →
    otherwise_l1 N n l w x.1 x.2.1 x.2.2 = some (if (wordsL w (x.2.2 + 1)).all (fun w => l.contains w) then .inr (l, x.1, x.2.1, x.2.2) else .inl ())
  | 0, w, h, _ => by omega
  | n + 1, w, h, h1 => by
    unfold otherwise_l1
    by_cases c : w ≤ x.2.2
    · have ih := otherwise_l1_p hl hN hx n (w + 1) (by omega) (by omega)
      have e : wordsL w (x.2.2 + 1) = w :: wordsL (w + 1) (x.2.2 + 1) := by
        unfold wordsL
        rw [show (x.2.2 + 1 - w).toNat = (x.2.2 + 1 - (w + 1)).toNat + 1 by omega, List.range_succ_eq_map, List.map_cons, List.map_map]
        congr 1
        · simp
        · refine List.map_congr_left fun i _ => ?_
          simp only [Function.comp]; omega
      rw [e, List.all_cons, br_dec c, has_v hl hN]
      simp only [Option.bind_some]
      cases l.contains w
      · rfl
      · rw [Bool.not_true, br_false, chk_eq (by omega), ih, Bool.true_and]
    · rw [br_ndec c]
      have : wordsL w (x.2.2 + 1) = [] := by unfold wordsL; rw [show (x.2.2 + 1 - w).toNat = 0 by omega]; rfl
      rw [this]; rfl
theorem otherwise_v {l : List Int} (hl : l.length ≤ 1000000) (hN : l.length < N) {x : Tn} (hx : -1000 ≤ x.2.1 ∧ x.2.2 ≤ 1000) (hN2 : (x.2.2 + 1 - x.2.1).toNat < N) : otherwise_S N x.1 x.2.1 x.2.2 l = some (sayP l x) := by
  unfold otherwise_S sayP coreB
  rw [otherwise_l1_p hl hN hx N x.2.1 hN2 (by omega)]
  cases (wordsL x.2.1 (x.2.2 + 1)).all (fun w => l.contains w)
  · rfl
  · simp only [if_true, Option.bind_some]
    rw [has_v hl hN]; rfl
/-- The turns that are so. -/
def selK (p : Tn → Bool) (ts : List Tn) (k : Nat) : List Int := ((List.range k).filter fun i => p (ts.getD i (0, 0, 0))).map fun (i : Nat) => (i : Int)
theorem selK_len (p : Tn → Bool) (ts : List Tn) (k : Nat) : (selK p ts k).length ≤ k := by
  have := List.length_filter_le (fun i => p (ts.getD i (0, 0, 0))) (List.range k)
  simp only [selK, List.length_map]
  simpa using this
theorem selK_succ (p : Tn → Bool) (ts : List Tn) (k : Nat) : selK p ts (k + 1) = selK p ts k ++ (if p (ts.getD k (0, 0, 0)) = true then [(k : Int)] else []) := by
  simp only [selK, List.range_succ, List.filter_append, List.map_append]
  congr 1
  rw [List.filter_cons]
  by_cases h : p (ts.getD k (0, 0, 0)) = true
  · rw [if_pos h, if_pos h]; rfl
  · rw [if_neg h, if_neg h]; rfl
theorem said_l1_p {l : List Int} {p : Tn → Bool} (ht : ts.length ≤ 1000) (ho : ∀ x ∈ ts, otherwise_S N x.1 x.2.1 x.2.2 l = some (p x)) : ∀ (n k : Nat), ts.length < n + k → k ≤ ts.length → said_l1 N n l k ws ts br_ (selK p ts k) = some (selK p ts ts.length)
  | 0, k, h, _ => by omega
  | n + 1, k, h, hk => by
    unfold said_l1
    by_cases c : k < ts.length
    · have ih := said_l1_p ht ho n (k + 1) (by omega) (by omega)
      rw [selK_succ] at ih
      have hl := selK_len p ts k
      have hp := ho _ (getD_mem (d := (0, 0, 0)) c)
      have g := gets c (0, 0, 0)
      generalize ts.getD k (0, 0, 0) = x at *
      have hj : ∀ out, said_j1 N (said_l1 N n) l k ws ts br_ out = said_l1 N n l ((k + 1 : Nat) : Int) ws ts br_ out := fun out => by
        unfold said_j1
        rw [chk_eq (by omega)]; rfl
      rw [br_dec (by omega), idx_eq (by omega) g, hp]
      simp only [Option.bind_some, hj]
      cases hq : p x
      · rw [br_false]
        simpa [hq] using ih
      · rw [br_true, lim_eq (by simp; omega)]
        simpa [hq] using ih
    · rw [br_ndec (by omega)]
      obtain rfl : k = ts.length := by omega
      rfl
theorem said_v {l : List Int} {p : Tn → Bool} (ht : ts.length ≤ 1000) (hN : ts.length < N) (ho : ∀ x ∈ ts, otherwise_S N x.1 x.2.1 x.2.2 l = some (p x)) : said_S N ws ts br_ l = some (selK p ts ts.length) := by
  unfold said_S
  have := said_l1_p (N := N) (ws := ws) (br_ := br_) ht ho N 0 (by omega) (by omega)
  simp only [Int.natCast_zero] at this
  have e : selK p ts 0 = [] := rfl
  rw [e] at this
  rw [this]; rfl
theorem TFine.said (h : TFine ws ts br_) (hN : 20 ≤ N) {l : List Int} (hl : l.length ≤ 1000000) (hlN : l.length < N) : said_S N ws ts br_ l = some (selK (sayP l) ts ts.length) := by
  have := h.t; have := h.n
  exact said_v (by omega) (by omega) fun x hx => by
    have := h.x x hx
    exact otherwise_v hl hlN (by omega) (by omega)
/-! ### What a part says -/
/-! ### Readings -/
theorem sum_l1_p {l : List Int} {m : Int} (hl : l.length ≤ 1000) (hm : 0 ≤ m ∧ m ≤ 1000) (hr : ∀ x ∈ l, -m ≤ x ∧ x ≤ m) : ∀ (n k : Nat) (s : Int), l.length < n + k → k ≤ l.length → (-(m * k) ≤ s ∧ s ≤ m * k) → sum_l1 N n s l l.length k = some (s + (l.drop k).sum)
  | 0, k, s, h, _, _ => by omega
  | n + 1, k, s, h, hk, hs => by
    unfold sum_l1
    have hmk : m * (k : Int) ≤ 1000 * 1000 := Int.mul_le_mul hm.2 (by omega) (by omega) (by omega)
    by_cases c : k < l.length
    · have hx := hr _ (getD_mem (d := 0) c)
      have g := gets c 0
      rw [drop_cons c 0]
      generalize l.getD k 0 = x at *
      have e : m * ((k + 1 : Nat) : Int) = m * k + m := by rw [Int.natCast_add, Int.mul_add]; simp
      have ih := sum_l1_p hl hm hr n (k + 1) (s + x) (by omega) (by omega) (by omega)
      rw [show ((k + 1 : Nat) : Int) = (k : Int) + 1 by omega] at ih
      rw [br_dec (by omega), idx_eq (by omega) g, chk_eq (by omega), chk_eq (by omega), ih, List.sum_cons]
      congr 1; omega
    · rw [br_ndec (by omega), List.drop_of_length_le (by omega)]; simp
theorem sum_v {l : List Int} {m : Int} (hl : l.length ≤ 1000) (hN : l.length < N) (hm : 0 ≤ m ∧ m ≤ 1000) (hr : ∀ x ∈ l, -m ≤ x ∧ x ≤ m) : sum_S N l = some l.sum := by
  unfold sum_S
  have := sum_l1_p (N := N) hl hm hr N 0 0 (by omega) (by omega) (by simp)
  simp only [Int.natCast_zero, List.drop_zero, Int.zero_add] at this
  rw [this]; rfl
end
end Go.Proofs.Ytfamlpbdhhikdaa

namespace Go.Proofs.Ytfamlpbdhhikdaa
set_option linter.all false
open Go

section
variable {N : Nat} {ws : List Wd} {ts : List Tn} {br_ : Int}
end
end Go.Proofs.Ytfamlpbdhhikdaa

namespace Go.Proofs.Ytfamlpbdhhikdaa
set_option linter.all false
open Go

theorem indexi_gen (N : Nat) (v : Int) : ∀ (n : Nat) (s : List Int) (u u2 : Int), indexi_l1 N n s v u u2 = ixL (fun x => some (decide (v = x))) n s u u2
  | 0, _, _, _ => rfl
  | n + 1, s, u, u2 => by unfold indexi_l1 ixL; simp only [indexi_gen N v n, Option.bind_some]
theorem containsi_v {N : Nat} {s : List Int} {v : Int} (hs : s.length ≤ 1000) (hN : s.length < N) : containsi_S N s v = some (s.contains v) := by
  have h := ixS_any (f := fun x => some (decide (v = x))) (p := fun x => decide (v = x)) (s := s) (N := N) (fun x _ => rfl) (by omega) hN
  unfold containsi_S indexi_S
  unfold ixS at h
  rw [indexi_gen]
  refine Eq.trans h ?_
  congr 1
  rw [Bool.eq_iff_iff]
  simp
section
variable {N : Nat} (hN : 110 ≤ N) {ws : List Wd} {ts : List Tn} {br_ : Int} (hF : TFine ws ts br_) {l : List Int} (hl : l.length ≤ 20) (h12 : ∀ x ∈ l, 1 ≤ x ∧ x ≤ 12) (hs : l.sum = ws.length)
include hN hF hl h12
include hs
omit hs
include hs
end
section
variable {N : Nat} (hN : 110 ≤ N) {ws : List Wd} {ts : List Tn} {br_ : Int}
include hN
end
end Go.Proofs.Ytfamlpbdhhikdaa

namespace Go.Proofs.Ytfamlpbdhhikdaa
set_option linter.all false
open Go

/-- A reading from a place to the end, all of whose breaths are right. -/
def goodB (R : Nat → Nat → Bool) (m : Nat) : Nat → List Int → Bool
  | a, [] => a == m
  | a, x :: l => (decide (1 ≤ x) && decide (a + x.toNat ≤ m)) && (R a (a + x.toNat) && goodB R m (a + x.toNat) l)
/-- The fewest breaths from a place. -/
structure IsMin (R : Nat → Nat → Bool) (m a : Nat) (k : Int) : Prop where
  ex : ∃ l, goodB R m a l = true ∧ (l.length : Int) = k
  le : ∀ l, goodB R m a l = true → k ≤ l.length
section
variable {R : Nat → Nat → Bool} {m : Nat}
theorem good_cons {a : Nat} {x : Int} {l : List Int} : goodB R m a (x :: l) = true ↔ (1 ≤ x ∧ a + x.toNat ≤ m) ∧ R a (a + x.toNat) = true ∧ goodB R m (a + x.toNat) l = true := by
  simp [goodB]
theorem good_nil {a : Nat} : goodB R m a [] = true ↔ a = m := by simp [goodB]
theorem good_step {a q : Nat} {l : List Int} (h : a < q) (hq : q ≤ m) (hR : R a q = true) (hl : goodB R m q l = true) : goodB R m a (((q : Int) - a) :: l) = true := by
  have e : a + ((q : Int) - a).toNat = q := by omega
  rw [good_cons, e]
  exact ⟨⟨by omega, hq⟩, hR, hl⟩
theorem IsMin.end_ : IsMin R m m 0 := ⟨⟨[], by simp [goodB], rfl⟩, fun l _ => by omega⟩
/-- What the tables say of a place. -/
def Told (R : Nat → Nat → Bool) (m : Nat) (L X : List Int) (i : Nat) : Prop :=
  (X.getD i 0 = 0 ∧ ∀ l, goodB R m i l = false) ∨ ∃ q : Nat, X.getD i 0 = q ∧ i < q ∧ q ≤ m ∧ R i q = true ∧ IsMin R m i (L.getD i 0) ∧ IsMin R m q (L.getD i 0 - 1)
structure Tab (R : Nat → Nat → Bool) (m f : Nat) (L X : List Int) : Prop where
  hL : L.length = 13
  hX : X.length = 13
  bd : ∀ i, i < 13 → 0 ≤ L.getD i 0 ∧ L.getD i 0 ≤ 13 - (i : Int)
  lo : ∀ i, i < f → X.getD i 0 = 0
  en : L.getD m 0 = 0
  told : ∀ i, f < i → i < m → Told R m L X i
/-- What is known of a place, when ends ahead of one were tried. -/
def Cur (R : Nat → Nat → Bool) (m f to : Nat) (L X : List Int) : Prop :=
  (X.getD f 0 = 0 ∧ ∀ q, f < q → q < to → R f q = true → ∀ l, goodB R m q l = false) ∨
  ∃ q : Nat, X.getD f 0 = q ∧ f < q ∧ q < to ∧ q ≤ m ∧ R f q = true ∧ IsMin R m q (L.getD f 0 - 1) ∧ ∀ p, f < p → p < to → R f p = true → ∀ l, goodB R m p l = true → L.getD f 0 ≤ l.length + 1
theorem Cur.skip {f to : Nat} {L X : List Int} (h : Cur R m f to L X) (hs : R f to = true → ∀ l, goodB R m to l = false) : Cur R m f (to + 1) L X := by
  rcases h with ⟨h1, h2⟩ | ⟨q, h1, h2, h3, h4, h5, h6, h7⟩
  · refine .inl ⟨h1, fun q a b hR => ?_⟩
    by_cases e : q = to
    · subst e; exact hs hR
    · exact h2 q a (by omega) hR
  · refine .inr ⟨q, h1, h2, by omega, h4, h5, h6, fun p a b hR l hl => ?_⟩
    by_cases e : p = to
    · subst e; rw [hs hR l] at hl; cases hl
    · exact h7 p a (by omega) hR l hl
theorem Cur.keep {f to : Nat} {L X : List Int} (h : Cur R m f to L X) (hx : X.getD f 0 ≠ 0) (ht : IsMin R m to (L.getD to 0)) (hle : L.getD f 0 ≤ L.getD to 0 + 1) : Cur R m f (to + 1) L X := by
  rcases h with ⟨h1, h2⟩ | ⟨q, h1, h2, h3, h4, h5, h6, h7⟩
  · exact absurd h1 hx
  · refine .inr ⟨q, h1, h2, by omega, h4, h5, h6, fun p a b hR l hl => ?_⟩
    by_cases e : p = to
    · subst e; have := ht.le l hl; omega
    · exact h7 p a (by omega) hR l hl
theorem Tab.min {f i : Nat} {L X : List Int} (h : Tab R m f L X) (h1 : f < i) (h2 : i ≤ m) (hx : i < m → X.getD i 0 ≠ 0) : IsMin R m i (L.getD i 0) := by
  by_cases e : i = m
  · subst e; rw [h.en]; exact IsMin.end_
  · rcases h.told i h1 (by omega) with ⟨h3, _⟩ | ⟨q, _, _, _, _, h4, _⟩
    · exact absurd h3 (hx (by omega))
    · exact h4
theorem Tab.next {f : Nat} {L X : List Int} (h : Tab R m f L X) (hf : f < m) (hc : Cur R m f (m + 1) L X) : ∀ i, f ≤ i → i < m → Told R m L X i := by
  intro i h1 h2
  by_cases e : i = f
  · subst e
    rcases hc with ⟨h3, h4⟩ | ⟨q, h3, h4, h5, h6, h7, h8, h9⟩
    · refine .inl ⟨h3, fun l => ?_⟩
      cases hg : goodB R m i l
      · rfl
      cases l with
      | nil => have := good_nil.1 hg; omega
      | cons x l =>
        obtain ⟨⟨a, b⟩, c, d⟩ := good_cons.1 hg
        rw [h4 _ (by omega) (by omega) c l] at d; cases d
    · refine .inr ⟨q, h3, h4, h6, h7, ⟨?_, fun l hl => ?_⟩, h8⟩
      · obtain ⟨l, a, b⟩ := h8.ex
        exact ⟨((q : Int) - i) :: l, good_step h4 h6 h7 a, by rw [List.length_cons]; omega⟩
      · cases l with
        | nil => have := good_nil.1 hl; omega
        | cons x l =>
          obtain ⟨⟨a, b⟩, c, d⟩ := good_cons.1 hl
          have := h9 _ (by omega) (by omega) c l d
          rw [List.length_cons]; omega
  · exact h.told i (by omega) h2
end
end Go.Proofs.Ytfamlpbdhhikdaa

namespace Go.Proofs.Ytfamlpbdhhikdaa
set_option linter.all false
open Go


/-! ### fewestr -/
section
variable {N : Nat} (hN : 110 ≤ N) {d : Tx} {r : Tx} {R : Nat → Nat → Bool} {m : Nat} (hd : d.1.length = m) (hm : 1 ≤ m ∧ m ≤ 12) (hR : ∀ a b : Nat, a < b → b ≤ m → right_S N r a b = some (R a b))
include hd hm hR
include hN
end
end Go.Proofs.Ytfamlpbdhhikdaa

namespace Go.Proofs.Ytfamlpbdhhikdaa
set_option linter.all false
open Go


/-! ### feweste -/
section
variable {N : Nat} (hN : 110 ≤ N) {d : Tx} {r : (Tx × Int × Tx)} {R : Nat → Nat → Bool} {m : Nat} (hd : d.1.length = m) (hm : 1 ≤ m ∧ m ≤ 12) (hR : ∀ a b : Nat, a < b → b ≤ m → even1_S N a b r.1 r.2.1 r.2.2 = some (R a b))
include hd hm hR
include hN
end

/-! ### fewests -/
section
variable {N : Nat} (hN : 110 ≤ N) {d : Tx} {r : Tx} {R : Nat → Nat → Bool} {m : Nat} (hd : d.1.length = m) (hm : 1 ≤ m ∧ m ≤ 12) (hR : ∀ a b : Nat, a < b → b ≤ m → surest1_S N a b r = some (R a b))
include hd hm hR
include hN
end
end Go.Proofs.Ytfamlpbdhhikdaa

namespace Go.Proofs.Ytfamlpbdhhikdaa
set_option linter.all false
open Go

/-- All readings from a place to the end, all of whose breaths are right. -/
def goods (R : Nat → Nat → Bool) (m : Nat) : Nat → Nat → List (List Int)
  | 0, a => if a = m then [[]] else []
  | n + 1, a => if a = m then [[]] else (toL (R a) m (a + 1)).flatMap fun q => (goods R m n q).map fun l => ((q : Int) - a) :: l
section
variable {R : Nat → Nat → Bool} {m : Nat}
/-- The right readings. -/
def goodsL (R : Nat → Nat → Bool) (m a : Nat) : List (List Int) := goods R m 13 a
end
/-! ### Tables of numbers -/
section
variable {N : Nat} (hN : 110 ≤ N) {ws : List Wd} {ts : List Tn} {br_ : Int} (hF : TFine ws ts br_)
include hF
include hN
end
end Go.Proofs.Ytfamlpbdhhikdaa

namespace Go.Proofs.Ytfamlpbdhhikdaa
set_option linter.all false
open Go

section
variable {R : Nat → Nat → Bool} {m : Nat}
/-- A place that is met, and from which a reading goes on. -/
def metB (R : Nat → Nat → Bool) (p : Nat) : Bool := !(goodsL R p 0).isEmpty
def finB (R : Nat → Nat → Bool) (m p : Nat) : Bool := !(goodsL R m p).isEmpty
def brkB (R : Nat → Nat → Bool) (m p : Nat) : Bool := metB R p && finB R m p
/-- At which places readings were found to break so far. -/
def MetSo (R : Nat → Nat → Bool) (m k : Nat) (M : List Bool) : Prop := M.length = 13 ∧ ∀ q, q ≤ m → (M.getD q false = true ↔ q = 0 ∨ ∃ p, p < k ∧ p < q ∧ brkB R m p = true ∧ R p q = true)
theorem MetSo.skip {k : Nat} {M : List Bool} (h : MetSo R m k M) (hb : brkB R m k = false) : MetSo R m (k + 1) M := by
  refine ⟨h.1, fun q hq => (h.2 q hq).trans ?_⟩
  constructor
  · rintro (h1 | ⟨p, h1, h2⟩)
    · exact .inl h1
    · exact .inr ⟨p, by omega, h2⟩
  · rintro (h1 | ⟨p, h1, h2, h3, h4⟩)
    · exact .inl h1
    · by_cases e : p = k
      · subst e; rw [hb] at h3; cases h3
      · exact .inr ⟨p, by omega, h2, h3, h4⟩
end
section
variable {N : Nat} (hN : 110 ≤ N) {ws : List Wd} {ts : List Tn} {br_ : Int} (hF : TFine ws ts br_)
include hF
end
end Go.Proofs.Ytfamlpbdhhikdaa

namespace Go.Proofs.Ytfamlpbdhhikdaa
set_option linter.all false
open Go

end Go.Proofs.Ytfamlpbdhhikdaa

namespace Go.Proofs.Ytfamlpbdhhikdaa
set_option linter.all false
open Go

def lists_l1 (N : Nat) : Nat → Int → Int → (List (Int × (Int × Bool))) → (List (Int × (Int × Int))) → Int → Option Int
  | 0, _, _, _, _, _ => none
  | n_ + 1, n, i, t, t2, t3 =>
    br (decide (i < (t.length : Int)))
      (chk (2 * n) <|
      chk (i + 1) <|
      lists_l1 N n_ (2 * n) (i + 1) t t2 t3)
      (some (n))
def lists_S (N : Nat) (t : List (Int × (Int × Bool))) (t2 : List (Int × (Int × Int))) (t3 : Int) : Option Int :=
  (lists_l1 N N 1 0 t t2 t3).bind fun n_1 =>
  some n_1
noncomputable def lists_sp (N : Nat) : List Spec := []
theorem lists_all (N : Nat) : AllP (SpecOK Try.prog) (lists_sp N) := trivial
noncomputable def lists_c : Code := (Try.f120.body).getD .skip
noncomputable abbrev lists_B : Body := { c := lists_c, n := 15, res := [.tmp 2], outs := [⟨[.i .i64], []⟩], m0 := 0 }
abbrev lists_rt : altD lists_B.outs → Option Int := fun r => some r.1.1
abbrev lists_l1_at : List PI := [.c [1, 1, 0, 1, 0, 0, 0, 0], .c [1, 1, 0, 1, 0, 0, 0, 1], .c [1, 1, 0, 1, 0, 0, 1], .l [1, 1, 0, 1, 0, 0], .b 0, .c [1, 1, 1]]
abbrev lists_l1_st : Sta := ⟨[1, 3, 4], ⟨[.own 0 0, .i .i64, .i .i64], [.segs [.sl (.pair (.int .i64) (.pair (.int .i64) .bool)), .sl (.pair (.int .i64) (.pair (.int .i64) (.int .i64))), .i .i64]]⟩⟩
abbrev lists_l1_h (rec : Int → Int → (List (Int × (Int × Bool))) → (List (Int × (Int × Int))) → Int → Option Int) : Leaf Int := ⟨lists_l1_at, lists_l1_st, fun p => rec p.1.2.1 p.1.2.2.1 p.2.1.1 p.2.1.2.1 p.2.1.2.2.1⟩
abbrev lists_l1_e0 : Leaf Int := ⟨[.c [1, 1, 1, 0], .c [1, 1, 1, 1]], ⟨[3], ⟨[.i .i64], []⟩⟩, fun p => some (p.1.1)⟩
noncomputable def lists_l1_L (N : Nat) : LoopS := { at_ := lists_l1_at, sta := lists_l1_st, exits := [([.c [1, 1, 1, 0], .c [1, 1, 1, 1]], ⟨[3], ⟨[.i .i64], []⟩⟩)], run := fun p k => (lists_l1 N N p.1.2.1 p.1.2.2.1 p.2.1.1 p.2.1.2.1 p.2.1.2.2.1).bind fun e => k (.inl ((e, ()), ())) }
theorem lists_l1_eq (N n_ : Nat) (n : Int) (i : Int) (t : List (Int × (Int × Bool))) (t2 : List (Int × (Int × Int))) (t3 : Int) : ev (Z := Int) Try.prog (lists_sp N) lists_B [] [lists_l1_h (lists_l1 N n_), lists_l1_e0] none 400 true lists_l1_at (stL lists_l1_st (((), n, i, ()), ((t, t2, t3, ()), ()))) (stH lists_l1_st (((), n, i, ()), ((t, t2, t3, ()), ()))) = lists_l1 N (n_ + 1) n i t t2 t3 := by kernel_rfl
theorem lists_l1_ok (N : Nat) {top : Bool} : LoopOK Try.prog lists_B.c lists_B.n lists_B.m0 top (lists_l1_L N) := loop_of_ev (Z := Int) (N := N) (fun m p => lists_l1 N m p.1.2.1 p.1.2.2.1 p.2.1.1 p.2.1.2.1 p.2.1.2.2.1) (fun e => .inl ((e, ()), ())) (fun _ _ _ => rfl) (fun _ => rfl) (fun m z E Xc hE hX hrec hx => leaf_of_ev (B := lists_B) (loops := []) (leaves := [lists_l1_h (lists_l1 N m), lists_l1_e0]) (lists_all N) mixed trivial hE hX ⟨hrec, (fun p hp => by obtain rfl := Option.some.inj hp; exact hx), trivial⟩ RetOK.no (fun p => lists_l1_eq N m p.1.2.1 p.1.2.2.1 p.2.1.1 p.2.1.2.1 p.2.1.2.2.1))
abbrev lists_st : Sta := ⟨[0], ⟨[.agg [.sl (.pair (.int .i64) (.pair (.int .i64) .bool)), .sl (.pair (.int .i64) (.pair (.int .i64) (.int .i64))), .i .i64]], []⟩⟩
theorem lists_eq (N : Nat) (t : List (Int × (Int × Bool))) (t2 : List (Int × (Int × Int))) (t3 : Int) : ev (Z := Int) Try.prog (lists_sp N) lists_B [lists_l1_L N] [] (some lists_rt) 400 false [.c [0], .c [1]] (stL lists_st (((t, t2, t3, ()), ()), ())) (stH lists_st (((t, t2, t3, ()), ()), ())) = lists_S N t t2 t3 := by kernel_rfl
noncomputable def sp_lists (N : Nat) : Spec := { f := 120, ins := ⟨[.agg [.sl (.pair (.int .i64) (.pair (.int .i64) .bool)), .sl (.pair (.int .i64) (.pair (.int .i64) (.int .i64))), .i .i64]], []⟩, outs := [⟨[.i .i64], []⟩], run := fun p k => (lists_S N p.1.1.1 p.1.1.2.1 p.1.1.2.2.1).bind fun r => k ((r, ()), ()) }
theorem sp_lists_ok (N : Nat) : SpecOK Try.prog (sp_lists N) := fn_sound (B := lists_B) (loops := [lists_l1_L N]) (leaves := []) (fun p => lists_S N p.1.1.1 p.1.1.2.1 p.1.1.2.2.1) (fun r => ((r, ()), ())) lists_rt (fun _ _ _ => rfl) (fun r z h => by cases h; rfl) Try.func120 (by kernel_rfl) (by kernel_rfl) (by kernel_rfl) rfl rfl (by kernel_rfl) (fun args w => Sem.pv_run _ _ _ (by kernel_rfl) w) (lists_all N) mixed ⟨lists_l1_ok N, trivial⟩ (fun z E Xc hE hX hret => trivial) (fun p => lists_eq N p.1.1.1 p.1.1.2.1 p.1.1.2.2.1)

def list__j1 (N : Nat) (rec : Int → Int → (List Int) → Option (List Int)) (n : Int) (w : Int) (out : List Int) : Option (List Int) :=
  chk (w + 1) <|
  rec (IntKind.i64.wrap (Int.tdiv n 2)) (w + 1) out
def list__l1 (N : Nat) : Nat → Int → Int → (List Int) → Option (List Int)
  | 0, _, _, _ => none
  | n_ + 1, n, w, out =>
    br (decide (0 < n))
      (br (decide ((Int.tmod n 2) = 1))
        (lim (out.length + [w].length) <|
        list__j1 N (list__l1 N n_) n w (out ++ [w]))
        (list__j1 N (list__l1 N n_) n w out))
      (some (out))
def list__S (N : Nat) (n : Int) : Option (List Int) :=
  (list__l1 N N n 0 []).bind fun out_1 =>
  some out_1
noncomputable def list__sp (N : Nat) : List Spec := []
theorem list__all (N : Nat) : AllP (SpecOK Try.prog) (list__sp N) := trivial
noncomputable def list__c : Code := (Try.f121.body).getD .skip
noncomputable abbrev list__B : Body := { c := list__c, n := 19, res := [.tmp 2], outs := [⟨[.sl (.int .i64)], []⟩], m0 := 0 }
abbrev list__rt : altD list__B.outs → Option (List Int) := fun r => some r.1.1
abbrev list__l1_at : List PI := [.c [1, 1, 0, 1, 0, 0, 0, 0], .c [1, 1, 0, 1, 0, 0, 0, 1], .c [1, 1, 0, 1, 0, 0, 1], .l [1, 1, 0, 1, 0, 0], .b 0, .c [1, 1, 1]]
abbrev list__l1_st : Sta := ⟨[0, 3, 4], ⟨[.i .i64, .ols 0, .i .i64], [.lst (.int .i64)]⟩⟩
abbrev list__l1_h (rec : Int → Int → (List Int) → Option (List Int)) : Leaf (List Int) := ⟨list__l1_at, list__l1_st, fun p => rec p.1.1 p.1.2.2.1 p.2.1⟩
abbrev list__l1_e0 : Leaf (List Int) := ⟨[.c [1, 1, 1, 0], .c [1, 1, 1, 1]], ⟨[3], ⟨[.ols 0], [.lst (.int .i64)]⟩⟩, fun p => some (p.2.1)⟩
abbrev list__j1_at : List PI := [.c [1, 1, 0, 1, 0, 0, 1, 0, 0, 1], .b 1, .c [1, 1, 0, 1, 0, 0, 1, 1], .l [1, 1, 0, 1, 0, 0], .b 0, .c [1, 1, 1]]
abbrev list__j1_st : Sta := ⟨[0, 3, 4], ⟨[.i .i64, .ols 0, .i .i64], [.lst (.int .i64)]⟩⟩
abbrev list__j1_k (N : Nat) (rec : Int → Int → (List Int) → Option (List Int)) : Leaf (List Int) := ⟨list__j1_at, list__j1_st, fun p => list__j1 N rec p.1.1 p.1.2.2.1 p.2.1⟩
theorem list__j1_eq (N : Nat) (rec : Int → Int → (List Int) → Option (List Int)) (n : Int) (w : Int) (out : List Int) : ev (Z := List Int) Try.prog (list__sp N) list__B [] [list__l1_h rec, list__l1_e0] none 400 true list__j1_at (stL list__j1_st ((n, (), w, ()), (out, ()))) (stH list__j1_st ((n, (), w, ()), (out, ()))) = list__j1 N rec n w out := by kernel_rfl
theorem list__j1_lf (N : Nat) (rec : Int → Int → (List Int) → Option (List Int)) {z : List Int} {top : Bool} {E : EE} {Xc : Ctx} (hE : EOK list__B.m0 E) (hX : CxOK top Xc) (hrec : LeafOK Try.prog list__B.c list__B.n list__B.m0 E Xc z (list__l1_h rec)) (h0 : LeafOK Try.prog list__B.c list__B.n list__B.m0 E Xc z list__l1_e0) : LeafOK Try.prog list__B.c list__B.n list__B.m0 E Xc z (list__j1_k N rec) := leaf_of_ev (B := list__B) (loops := []) (leaves := [list__l1_h rec, list__l1_e0]) (list__all N) mixed trivial hE hX ⟨hrec, h0, trivial⟩ RetOK.no (fun p => list__j1_eq N rec p.1.1 p.1.2.2.1 p.2.1)
noncomputable def list__l1_L (N : Nat) : LoopS := { at_ := list__l1_at, sta := list__l1_st, exits := [([.c [1, 1, 1, 0], .c [1, 1, 1, 1]], ⟨[3], ⟨[.ols 0], [.lst (.int .i64)]⟩⟩)], run := fun p k => (list__l1 N N p.1.1 p.1.2.2.1 p.2.1).bind fun e => k (.inl (((), ()), (e, ()))) }
theorem list__l1_eq (N n_ : Nat) (n : Int) (w : Int) (out : List Int) : ev (Z := List Int) Try.prog (list__sp N) list__B [] [list__l1_h (list__l1 N n_), list__l1_e0, list__j1_k N (list__l1 N n_)] none 400 true list__l1_at (stL list__l1_st ((n, (), w, ()), (out, ()))) (stH list__l1_st ((n, (), w, ()), (out, ()))) = list__l1 N (n_ + 1) n w out := by kernel_rfl
theorem list__l1_ok (N : Nat) {top : Bool} : LoopOK Try.prog list__B.c list__B.n list__B.m0 top (list__l1_L N) := loop_of_ev (Z := List Int) (N := N) (fun m p => list__l1 N m p.1.1 p.1.2.2.1 p.2.1) (fun e => .inl (((), ()), (e, ()))) (fun _ _ _ => rfl) (fun _ => rfl) (fun m z E Xc hE hX hrec hx => leaf_of_ev (B := list__B) (loops := []) (leaves := [list__l1_h (list__l1 N m), list__l1_e0, list__j1_k N (list__l1 N m)]) (list__all N) mixed trivial hE hX ⟨hrec, (fun p hp => by obtain rfl := Option.some.inj hp; exact hx), list__j1_lf N _ hE hX hrec (fun p hp => by obtain rfl := Option.some.inj hp; exact hx), trivial⟩ RetOK.no (fun p => list__l1_eq N m p.1.1 p.1.2.2.1 p.2.1))
abbrev list__st : Sta := ⟨[0], ⟨[.i .i64], []⟩⟩
theorem list__eq (N : Nat) (n : Int) : ev (Z := List Int) Try.prog (list__sp N) list__B [list__l1_L N] [] (some list__rt) 400 false [.c [0], .c [1]] (stL list__st ((n, ()), ())) (stH list__st ((n, ()), ())) = list__S N n := by kernel_rfl
noncomputable def sp_list_ (N : Nat) : Spec := { f := 121, ins := ⟨[.i .i64], []⟩, outs := [⟨[.sl (.int .i64)], []⟩], run := fun p k => (list__S N p.1.1).bind fun r => k ((r, ()), ()) }
theorem sp_list__ok (N : Nat) : SpecOK Try.prog (sp_list_ N) := fn_sound (B := list__B) (loops := [list__l1_L N]) (leaves := []) (fun p => list__S N p.1.1) (fun r => ((r, ()), ())) list__rt (fun _ _ _ => rfl) (fun r z h => by cases h; rfl) Try.func121 (by kernel_rfl) (by kernel_rfl) (by kernel_rfl) rfl rfl (by kernel_rfl) (fun args w => Sem.pv_run _ _ _ (by kernel_rfl) w) (list__all N) mixed ⟨list__l1_ok N, trivial⟩ (fun z E Xc hE hX hret => trivial) (fun p => list__eq N p.1.1)

def before_l1 (N : Nat) : Nat → (List Int) → (List Int) → Int → Option ((List Int × List Int × Int) ⊕ (Unit))
  | 0, _, _, _ => none
  | n_ + 1, a, b, i =>
    br (decide (i < (a.length : Int)))
      (idx a i fun x_1 =>
      idx b i fun x_2 =>
      br (!decide (x_1 = x_2))
        (some (.inl (a, b, i)))
        (chk (i + 1) <|
        before_l1 N n_ a b (i + 1)))
      (some (.inr ()))
def before_S (N : Nat) (a : List Int) (b : List Int) : Option Bool :=
  (before_l1 N N a b 0).bind fun e => match e with
  | .inl (a_3, b_4, i_5) =>
    idx a_3 i_5 fun x_6 =>
    idx b_4 i_5 fun x_7 =>
    some (decide (x_6 < x_7))
  | .inr _ =>
    some false
noncomputable def before_sp (N : Nat) : List Spec := []
theorem before_all (N : Nat) : AllP (SpecOK Try.prog) (before_sp N) := trivial
noncomputable def before_c : Code := (Try.f123.body).getD .skip
noncomputable abbrev before_B : Body := { c := before_c, n := 30, res := [.tmp 4], outs := [⟨[.b], []⟩], m0 := 0 }
abbrev before_rt : altD before_B.outs → Option Bool := fun r => some r.1.1
abbrev before_l1_at : List PI := [.c [1, 0, 1, 0, 0, 0, 0], .c [1, 0, 1, 0, 0, 0, 1], .c [1, 0, 1, 0, 0, 1], .l [1, 0, 1, 0, 0], .b 0, .c [1, 1]]
abbrev before_l1_st : Sta := ⟨[0, 1, 5], ⟨[.sl (.int .i64), .sl (.int .i64), .i .i64], []⟩⟩
abbrev before_l1_h (rec : (List Int) → (List Int) → Int → Option ((List Int × List Int × Int) ⊕ (Unit))) : Leaf ((List Int × List Int × Int) ⊕ (Unit)) := ⟨before_l1_at, before_l1_st, fun p => rec p.1.1 p.1.2.1 p.1.2.2.1⟩
abbrev before_l1_e0 : Leaf ((List Int × List Int × Int) ⊕ (Unit)) := ⟨[.c [1, 0, 1, 0, 0, 1, 0, 0, 1, 0, 0], .c [1, 0, 1, 0, 0, 1, 0, 0, 1, 0, 1], .b 1, .c [1, 0, 1, 0, 0, 1, 1], .l [1, 0, 1, 0, 0], .b 0, .c [1, 1]], ⟨[0, 1, 5], ⟨[.sl (.int .i64), .sl (.int .i64), .i .i64], []⟩⟩, fun p => some (.inl (p.1.1, p.1.2.1, p.1.2.2.1))⟩
abbrev before_l1_e1 : Leaf ((List Int × List Int × Int) ⊕ (Unit)) := ⟨[.c [1, 1, 0], .c [1, 1, 1]], ⟨[], ⟨[], []⟩⟩, fun p => some (.inr ())⟩
noncomputable def before_l1_L (N : Nat) : LoopS := { at_ := before_l1_at, sta := before_l1_st, exits := [([.c [1, 0, 1, 0, 0, 1, 0, 0, 1, 0, 0], .c [1, 0, 1, 0, 0, 1, 0, 0, 1, 0, 1], .b 1, .c [1, 0, 1, 0, 0, 1, 1], .l [1, 0, 1, 0, 0], .b 0, .c [1, 1]], ⟨[0, 1, 5], ⟨[.sl (.int .i64), .sl (.int .i64), .i .i64], []⟩⟩), ([.c [1, 1, 0], .c [1, 1, 1]], ⟨[], ⟨[], []⟩⟩)], run := fun p k => (before_l1 N N p.1.1 p.1.2.1 p.1.2.2.1).bind fun e => match e with | .inl x => k (.inl ((x.1, x.2.1, x.2.2, ()), ())) | .inr x => k (.inr (.inl ((), ()))) }
theorem before_l1_eq (N n_ : Nat) (a : List Int) (b : List Int) (i : Int) : ev (Z := (List Int × List Int × Int) ⊕ (Unit)) Try.prog (before_sp N) before_B [] [before_l1_h (before_l1 N n_), before_l1_e0, before_l1_e1] none 400 true before_l1_at (stL before_l1_st ((a, b, i, ()), ())) (stH before_l1_st ((a, b, i, ()), ())) = before_l1 N (n_ + 1) a b i := by kernel_rfl
theorem before_l1_ok (N : Nat) {top : Bool} : LoopOK Try.prog before_B.c before_B.n before_B.m0 top (before_l1_L N) := loop_of_ev (Z := (List Int × List Int × Int) ⊕ (Unit)) (N := N) (fun m p => before_l1 N m p.1.1 p.1.2.1 p.1.2.2.1) (fun e => match e with | .inl x => .inl ((x.1, x.2.1, x.2.2, ()), ()) | .inr x => .inr (.inl ((), ()))) (fun _ p k => bind_congr_ (before_l1 N N p.1.1 p.1.2.1 p.1.2.2.1) _ _ (fun e => by rcases e with x | x <;> rfl)) (fun _ => rfl) (fun m z E Xc hE hX hrec hx => leaf_of_ev (B := before_B) (loops := []) (leaves := [before_l1_h (before_l1 N m), before_l1_e0, before_l1_e1]) (before_all N) mixed trivial hE hX ⟨hrec, (fun p hp => by obtain rfl := Option.some.inj hp; exact hx), (fun p hp => by obtain rfl := Option.some.inj hp; exact hx), trivial⟩ RetOK.no (fun p => before_l1_eq N m p.1.1 p.1.2.1 p.1.2.2.1))
abbrev before_st : Sta := ⟨[0, 1], ⟨[.sl (.int .i64), .sl (.int .i64)], []⟩⟩
theorem before_eq (N : Nat) (a : List Int) (b : List Int) : ev (Z := Bool) Try.prog (before_sp N) before_B [before_l1_L N] [] (some before_rt) 400 false [.c [0], .c [1]] (stL before_st ((a, b, ()), ())) (stH before_st ((a, b, ()), ())) = before_S N a b := by kernel_rfl
noncomputable def sp_before (N : Nat) : Spec := { f := 123, ins := ⟨[.sl (.int .i64), .sl (.int .i64)], []⟩, outs := [⟨[.b], []⟩], run := fun p k => (before_S N p.1.1 p.1.2.1).bind fun r => k ((r, ()), ()) }
theorem sp_before_ok (N : Nat) : SpecOK Try.prog (sp_before N) := fn_sound (B := before_B) (loops := [before_l1_L N]) (leaves := []) (fun p => before_S N p.1.1 p.1.2.1) (fun r => ((r, ()), ())) before_rt (fun _ _ _ => rfl) (fun r z h => by cases h; rfl) Try.func123 (by kernel_rfl) (by kernel_rfl) (by kernel_rfl) rfl rfl (by kernel_rfl) (fun args w => Sem.pv_run _ _ _ (by kernel_rfl) w) (before_all N) mixed ⟨before_l1_ok N, trivial⟩ (fun z E Xc hE hX hret => trivial) (fun p => before_eq N p.1.1 p.1.2.1)

def rleast_j1 (N : Nat) (rec : Int → (List Int) → Int → (List (Int × (Int × Bool))) → (List (Int × (Int × Int))) → Int → Option (List Int)) (weight : Int) (best : List Int) (n : Int) (t : List (Int × (Int × Bool))) (t2 : List (Int × (Int × Int))) (t3 : Int) : Option (List Int) :=
  chk (n + 1) <|
  rec weight best (n + 1) t t2 t3
def rleast_l1 (N : Nat) : Nat → Int → (List Int) → Int → (List (Int × (Int × Bool))) → (List (Int × (Int × Int))) → Int → Option (List Int)
  | 0, _, _, _, _, _, _ => none
  | n_ + 1, weight, best, n, t, t2, t3 =>
    (lists_S N t t2 t3).bind fun x_2 =>
    br (decide (n < x_2))
      ((list__S N n).bind fun x_3 =>
      (said_S N t t2 t3 x_3).bind fun x_4 =>
      br (decide (0 < (x_4.length : Int)))
        (rleast_j1 N (rleast_l1 N n_) weight best n t t2 t3)
        ((rweight_S N t t2 t3 x_3).bind fun x_5 =>
        br (decide (x_5 < weight))
          (rleast_j1 N (rleast_l1 N n_) weight best n t t2 t3)
          (br (decide ((best.length : Int) = 0))
            (rleast_j1 N (rleast_l1 N n_) weight x_3 n t t2 t3)
            (br (decide ((x_3.length : Int) < (best.length : Int)))
              (rleast_j1 N (rleast_l1 N n_) weight x_3 n t t2 t3)
              (br (decide ((x_3.length : Int) = (best.length : Int)))
                ((before_S N x_3 best).bind fun x_6 =>
                br x_6
                  (rleast_j1 N (rleast_l1 N n_) weight x_3 n t t2 t3)
                  (rleast_j1 N (rleast_l1 N n_) weight best n t t2 t3))
                (rleast_j1 N (rleast_l1 N n_) weight best n t t2 t3))))))
      (some (best))
def rleast_S (N : Nat) (t : List (Int × (Int × Bool))) (t2 : List (Int × (Int × Int))) (t3 : Int) (weight : Int) : Option (List Int × Int) :=
  (rcheck_S N t t2 t3).bind fun x_1 =>
  br (!decide (x_1 = 0))
    (some ([], x_1))
    (br (decide (weight < 0))
      (some ([], 3))
      ((rleast_l1 N N weight [] 1 t t2 t3).bind fun best_7 =>
      br (decide ((best_7.length : Int) = 0))
        (some ([], 6))
        (some (best_7, 0))))
noncomputable def rleast_sp (N : Nat) : List Spec := [sp_rcheck N, sp_said N, sp_rweight N, sp_lists N, sp_list_ N, sp_before N]
theorem rleast_all (N : Nat) : AllP (SpecOK Try.prog) (rleast_sp N) := ⟨sp_rcheck_ok N, sp_said_ok N, sp_rweight_ok N, sp_lists_ok N, sp_list__ok N, sp_before_ok N, trivial⟩
noncomputable def rleast_c : Code := (Try.f52.body).getD .skip
noncomputable abbrev rleast_B : Body := { c := rleast_c, n := 64, res := [.tmp 4, .tmp 5], outs := [⟨[.sl (.int .i64), .i .i64], []⟩], m0 := 0 }
abbrev rleast_rt : altD rleast_B.outs → Option (List Int × Int) := fun r => some (r.1.1, r.1.2.1)
abbrev rleast_l1_at : List PI := [.c [1, 1, 1, 1, 0, 1, 0, 0, 0, 0], .c [1, 1, 1, 1, 0, 1, 0, 0, 0, 1], .c [1, 1, 1, 1, 0, 1, 0, 0, 1], .l [1, 1, 1, 1, 0, 1, 0, 0], .b 0, .c [1, 1, 1, 1, 1]]
abbrev rleast_l1_st : Sta := ⟨[1, 2, 7, 8], ⟨[.i .i64, .own 0 0, .sl (.int .i64), .i .i64], [.segs [.sl (.pair (.int .i64) (.pair (.int .i64) .bool)), .sl (.pair (.int .i64) (.pair (.int .i64) (.int .i64))), .i .i64]]⟩⟩
abbrev rleast_l1_h (rec : Int → (List Int) → Int → (List (Int × (Int × Bool))) → (List (Int × (Int × Int))) → Int → Option (List Int)) : Leaf (List Int) := ⟨rleast_l1_at, rleast_l1_st, fun p => rec p.1.1 p.1.2.2.1 p.1.2.2.2.1 p.2.1.1 p.2.1.2.1 p.2.1.2.2.1⟩
abbrev rleast_l1_e0 : Leaf (List Int) := ⟨[.c [1, 1, 1, 1, 1, 0, 0], .c [1, 1, 1, 1, 1, 0, 1], .c [1, 1, 1, 1, 1, 1]], ⟨[7], ⟨[.sl (.int .i64)], []⟩⟩, fun p => some (p.1.1)⟩
abbrev rleast_j1_at : List PI := [.c [1, 1, 1, 1, 0, 1, 0, 0, 1, 1], .l [1, 1, 1, 1, 0, 1, 0, 0], .b 0, .c [1, 1, 1, 1, 1]]
abbrev rleast_j1_st : Sta := ⟨[1, 2, 7, 8], ⟨[.i .i64, .own 0 0, .sl (.int .i64), .i .i64], [.segs [.sl (.pair (.int .i64) (.pair (.int .i64) .bool)), .sl (.pair (.int .i64) (.pair (.int .i64) (.int .i64))), .i .i64]]⟩⟩
abbrev rleast_j1_k (N : Nat) (rec : Int → (List Int) → Int → (List (Int × (Int × Bool))) → (List (Int × (Int × Int))) → Int → Option (List Int)) : Leaf (List Int) := ⟨rleast_j1_at, rleast_j1_st, fun p => rleast_j1 N rec p.1.1 p.1.2.2.1 p.1.2.2.2.1 p.2.1.1 p.2.1.2.1 p.2.1.2.2.1⟩
theorem rleast_j1_eq (N : Nat) (rec : Int → (List Int) → Int → (List (Int × (Int × Bool))) → (List (Int × (Int × Int))) → Int → Option (List Int)) (weight : Int) (best : List Int) (n : Int) (t : List (Int × (Int × Bool))) (t2 : List (Int × (Int × Int))) (t3 : Int) : ev (Z := List Int) Try.prog (rleast_sp N) rleast_B [] [rleast_l1_h rec, rleast_l1_e0] none 400 true rleast_j1_at (stL rleast_j1_st ((weight, (), best, n, ()), ((t, t2, t3, ()), ()))) (stH rleast_j1_st ((weight, (), best, n, ()), ((t, t2, t3, ()), ()))) = rleast_j1 N rec weight best n t t2 t3 := by kernel_rfl
theorem rleast_j1_lf (N : Nat) (rec : Int → (List Int) → Int → (List (Int × (Int × Bool))) → (List (Int × (Int × Int))) → Int → Option (List Int)) {z : List Int} {top : Bool} {E : EE} {Xc : Ctx} (hE : EOK rleast_B.m0 E) (hX : CxOK top Xc) (hrec : LeafOK Try.prog rleast_B.c rleast_B.n rleast_B.m0 E Xc z (rleast_l1_h rec)) (h0 : LeafOK Try.prog rleast_B.c rleast_B.n rleast_B.m0 E Xc z rleast_l1_e0) : LeafOK Try.prog rleast_B.c rleast_B.n rleast_B.m0 E Xc z (rleast_j1_k N rec) := leaf_of_ev (B := rleast_B) (loops := []) (leaves := [rleast_l1_h rec, rleast_l1_e0]) (rleast_all N) mixed trivial hE hX ⟨hrec, h0, trivial⟩ RetOK.no (fun p => rleast_j1_eq N rec p.1.1 p.1.2.2.1 p.1.2.2.2.1 p.2.1.1 p.2.1.2.1 p.2.1.2.2.1)
noncomputable def rleast_l1_L (N : Nat) : LoopS := { at_ := rleast_l1_at, sta := rleast_l1_st, exits := [([.c [1, 1, 1, 1, 1, 0, 0], .c [1, 1, 1, 1, 1, 0, 1], .c [1, 1, 1, 1, 1, 1]], ⟨[7], ⟨[.sl (.int .i64)], []⟩⟩)], run := fun p k => (rleast_l1 N N p.1.1 p.1.2.2.1 p.1.2.2.2.1 p.2.1.1 p.2.1.2.1 p.2.1.2.2.1).bind fun e => k (.inl ((e, ()), ())) }
theorem rleast_l1_eq (N n_ : Nat) (weight : Int) (best : List Int) (n : Int) (t : List (Int × (Int × Bool))) (t2 : List (Int × (Int × Int))) (t3 : Int) : ev (Z := List Int) Try.prog (rleast_sp N) rleast_B [] [rleast_l1_h (rleast_l1 N n_), rleast_l1_e0, rleast_j1_k N (rleast_l1 N n_)] none 400 true rleast_l1_at (stL rleast_l1_st ((weight, (), best, n, ()), ((t, t2, t3, ()), ()))) (stH rleast_l1_st ((weight, (), best, n, ()), ((t, t2, t3, ()), ()))) = rleast_l1 N (n_ + 1) weight best n t t2 t3 := by kernel_rfl
theorem rleast_l1_ok (N : Nat) {top : Bool} : LoopOK Try.prog rleast_B.c rleast_B.n rleast_B.m0 top (rleast_l1_L N) := loop_of_ev (Z := List Int) (N := N) (fun m p => rleast_l1 N m p.1.1 p.1.2.2.1 p.1.2.2.2.1 p.2.1.1 p.2.1.2.1 p.2.1.2.2.1) (fun e => .inl ((e, ()), ())) (fun _ _ _ => rfl) (fun _ => rfl) (fun m z E Xc hE hX hrec hx => leaf_of_ev (B := rleast_B) (loops := []) (leaves := [rleast_l1_h (rleast_l1 N m), rleast_l1_e0, rleast_j1_k N (rleast_l1 N m)]) (rleast_all N) mixed trivial hE hX ⟨hrec, (fun p hp => by obtain rfl := Option.some.inj hp; exact hx), rleast_j1_lf N _ hE hX hrec (fun p hp => by obtain rfl := Option.some.inj hp; exact hx), trivial⟩ RetOK.no (fun p => rleast_l1_eq N m p.1.1 p.1.2.2.1 p.1.2.2.2.1 p.2.1.1 p.2.1.2.1 p.2.1.2.2.1))
abbrev rleast_st : Sta := ⟨[0, 1], ⟨[.agg [.sl (.pair (.int .i64) (.pair (.int .i64) .bool)), .sl (.pair (.int .i64) (.pair (.int .i64) (.int .i64))), .i .i64], .i .i64], []⟩⟩
theorem rleast_eq (N : Nat) (t : List (Int × (Int × Bool))) (t2 : List (Int × (Int × Int))) (t3 : Int) (weight : Int) : ev (Z := List Int × Int) Try.prog (rleast_sp N) rleast_B [rleast_l1_L N] [] (some rleast_rt) 400 false [.c [0], .c [1]] (stL rleast_st (((t, t2, t3, ()), weight, ()), ())) (stH rleast_st (((t, t2, t3, ()), weight, ()), ())) = rleast_S N t t2 t3 weight := by kernel_rfl
noncomputable def sp_rleast (N : Nat) : Spec := { f := 52, ins := ⟨[.agg [.sl (.pair (.int .i64) (.pair (.int .i64) .bool)), .sl (.pair (.int .i64) (.pair (.int .i64) (.int .i64))), .i .i64], .i .i64], []⟩, outs := [⟨[.sl (.int .i64), .i .i64], []⟩], run := fun p k => (rleast_S N p.1.1.1 p.1.1.2.1 p.1.1.2.2.1 p.1.2.1).bind fun r => k ((r.1, r.2, ()), ()) }
theorem sp_rleast_ok (N : Nat) : SpecOK Try.prog (sp_rleast N) := fn_sound (B := rleast_B) (loops := [rleast_l1_L N]) (leaves := []) (fun p => rleast_S N p.1.1.1 p.1.1.2.1 p.1.1.2.2.1 p.1.2.1) (fun r => ((r.1, r.2, ()), ())) rleast_rt (fun _ _ _ => rfl) (fun r z h => by cases h; rfl) Try.func52 (by kernel_rfl) (by kernel_rfl) (by kernel_rfl) rfl rfl (by kernel_rfl) (fun args w => Sem.pv_run _ _ _ (by kernel_rfl) w) (rleast_all N) mixed ⟨rleast_l1_ok N, trivial⟩ (fun z E Xc hE hX hret => trivial) (fun p => rleast_eq N p.1.1.1 p.1.1.2.1 p.1.1.2.2.1 p.1.2.1)

def wordso_l1 (N : Nat) : Nat → Int → Int → (List Int) → Option (List Int)
  | 0, _, _, _ => none
  | n_ + 1, to, w, out =>
    br (decide (w < to))
      (lim (out.length + [w].length) <|
      chk (w + 1) <|
      wordso_l1 N n_ to (w + 1) (out ++ [w]))
      (some (out))
def wordso_S (N : Nat) (from_ : Int) (to : Int) : Option (List Int) :=
  (wordso_l1 N N to from_ []).bind fun out_1 =>
  some out_1
noncomputable def wordso_sp (N : Nat) : List Spec := []
theorem wordso_all (N : Nat) : AllP (SpecOK Try.prog) (wordso_sp N) := trivial
noncomputable def wordso_c : Code := (Try.f102.body).getD .skip
noncomputable abbrev wordso_B : Body := { c := wordso_c, n := 18, res := [.tmp 4], outs := [⟨[.ols 0], [.lst (.int .i64)]⟩], m0 := 0 }
abbrev wordso_rt : altD wordso_B.outs → Option (List Int) := fun r => some r.2.1
abbrev wordso_l1_at : List PI := [.c [1, 1, 0, 1, 0, 0, 0, 0], .c [1, 1, 0, 1, 0, 0, 0, 1], .c [1, 1, 0, 1, 0, 0, 1], .l [1, 1, 0, 1, 0, 0], .b 0, .c [1, 1, 1]]
abbrev wordso_l1_st : Sta := ⟨[1, 5, 6], ⟨[.i .i64, .ols 0, .i .i64], [.lst (.int .i64)]⟩⟩
abbrev wordso_l1_h (rec : Int → Int → (List Int) → Option (List Int)) : Leaf (List Int) := ⟨wordso_l1_at, wordso_l1_st, fun p => rec p.1.1 p.1.2.2.1 p.2.1⟩
abbrev wordso_l1_e0 : Leaf (List Int) := ⟨[.c [1, 1, 1, 0], .c [1, 1, 1, 1]], ⟨[5], ⟨[.ols 0], [.lst (.int .i64)]⟩⟩, fun p => some (p.2.1)⟩
noncomputable def wordso_l1_L (N : Nat) : LoopS := { at_ := wordso_l1_at, sta := wordso_l1_st, exits := [([.c [1, 1, 1, 0], .c [1, 1, 1, 1]], ⟨[5], ⟨[.ols 0], [.lst (.int .i64)]⟩⟩)], run := fun p k => (wordso_l1 N N p.1.1 p.1.2.2.1 p.2.1).bind fun e => k (.inl (((), ()), (e, ()))) }
theorem wordso_l1_eq (N n_ : Nat) (to : Int) (w : Int) (out : List Int) : ev (Z := List Int) Try.prog (wordso_sp N) wordso_B [] [wordso_l1_h (wordso_l1 N n_), wordso_l1_e0] none 400 true wordso_l1_at (stL wordso_l1_st ((to, (), w, ()), (out, ()))) (stH wordso_l1_st ((to, (), w, ()), (out, ()))) = wordso_l1 N (n_ + 1) to w out := by kernel_rfl
theorem wordso_l1_ok (N : Nat) {top : Bool} : LoopOK Try.prog wordso_B.c wordso_B.n wordso_B.m0 top (wordso_l1_L N) := loop_of_ev (Z := List Int) (N := N) (fun m p => wordso_l1 N m p.1.1 p.1.2.2.1 p.2.1) (fun e => .inl (((), ()), (e, ()))) (fun _ _ _ => rfl) (fun _ => rfl) (fun m z E Xc hE hX hrec hx => leaf_of_ev (B := wordso_B) (loops := []) (leaves := [wordso_l1_h (wordso_l1 N m), wordso_l1_e0]) (wordso_all N) mixed trivial hE hX ⟨hrec, (fun p hp => by obtain rfl := Option.some.inj hp; exact hx), trivial⟩ RetOK.no (fun p => wordso_l1_eq N m p.1.1 p.1.2.2.1 p.2.1))
abbrev wordso_st : Sta := ⟨[0, 1], ⟨[.i .i64, .i .i64], []⟩⟩
theorem wordso_eq (N : Nat) (from_ : Int) (to : Int) : ev (Z := List Int) Try.prog (wordso_sp N) wordso_B [wordso_l1_L N] [] (some wordso_rt) 400 false [.c [0], .c [1]] (stL wordso_st ((from_, to, ()), ())) (stH wordso_st ((from_, to, ()), ())) = wordso_S N from_ to := by kernel_rfl
noncomputable def sp_wordso (N : Nat) : Spec := { f := 102, ins := ⟨[.i .i64, .i .i64], []⟩, outs := [⟨[.ols 0], [.lst (.int .i64)]⟩], run := fun p k => (wordso_S N p.1.1 p.1.2.1).bind fun r => k (((), ()), (r, ())) }
theorem sp_wordso_ok (N : Nat) : SpecOK Try.prog (sp_wordso N) := fn_sound (B := wordso_B) (loops := [wordso_l1_L N]) (leaves := []) (fun p => wordso_S N p.1.1 p.1.2.1) (fun r => (((), ()), (r, ()))) wordso_rt (fun _ _ _ => rfl) (fun r z h => by cases h; rfl) Try.func102 (by kernel_rfl) (by kernel_rfl) (by kernel_rfl) rfl rfl (by kernel_rfl) (fun args w => Sem.pv_run _ _ _ (by kernel_rfl) w) (wordso_all N) mixed ⟨wordso_l1_ok N, trivial⟩ (fun z E Xc hE hX hret => trivial) (fun p => wordso_eq N p.1.1 p.1.2.1)

def rspare_j1 (N : Nat) (rec : Int → (List (Int × (Int × Bool))) → (List (Int × (Int × Int))) → Int → (List Int) → Option (List Int)) (w : Int) (t : List (Int × (Int × Bool))) (t2 : List (Int × (Int × Int))) (t3 : Int) (out : List Int) : Option (List Int) :=
  chk (w + 1) <|
  rec (w + 1) t t2 t3 out
def rspare_l1 (N : Nat) : Nat → Int → (List (Int × (Int × Bool))) → (List (Int × (Int × Int))) → Int → (List Int) → Option (List Int)
  | 0, _, _, _, _, _ => none
  | n_ + 1, w, t, t2, t3, out =>
    br (decide (w < (t.length : Int)))
      (br (decide (1 < (t.length : Int)))
        ((wordso_S N 0 w).bind fun x_2 =>
        chk (w + 1) <|
        (wordso_S N (w + 1) (t.length : Int)).bind fun x_3 =>
        lim (x_2.length + x_3.length) <|
        (said_S N t t2 t3 (x_2 ++ x_3)).bind fun x_4 =>
        br (decide ((x_4.length : Int) = 0))
          (lim (out.length + [w].length) <|
          rspare_j1 N (rspare_l1 N n_) w t t2 t3 (out ++ [w]))
          (rspare_j1 N (rspare_l1 N n_) w t t2 t3 out))
        (some (out)))
      (some (out))
def rspare_S (N : Nat) (t : List (Int × (Int × Bool))) (t2 : List (Int × (Int × Int))) (t3 : Int) : Option (List Int × Int) :=
  (rcheck_S N t t2 t3).bind fun x_1 =>
  br (!decide (x_1 = 0))
    (some ([], x_1))
    ((rspare_l1 N N 0 t t2 t3 []).bind fun out_5 =>
    some (out_5, 0))
noncomputable def rspare_sp (N : Nat) : List Spec := [sp_wordso N, sp_rcheck N, sp_said N]
theorem rspare_all (N : Nat) : AllP (SpecOK Try.prog) (rspare_sp N) := ⟨sp_wordso_ok N, sp_rcheck_ok N, sp_said_ok N, trivial⟩
noncomputable def rspare_c : Code := (Try.f54.body).getD .skip
noncomputable abbrev rspare_B : Body := { c := rspare_c, n := 45, res := [.tmp 2, .tmp 3], outs := [⟨[.sl (.int .i64), .i .i64], []⟩], m0 := 0 }
abbrev rspare_rt : altD rspare_B.outs → Option (List Int × Int) := fun r => some (r.1.1, r.1.2.1)
abbrev rspare_l1_at : List PI := [.c [1, 1, 1, 0, 1, 0, 0, 0, 0], .c [1, 1, 1, 0, 1, 0, 0, 0, 1], .c [1, 1, 1, 0, 1, 0, 0, 1], .l [1, 1, 1, 0, 1, 0, 0], .b 0, .c [1, 1, 1, 1]]
abbrev rspare_l1_st : Sta := ⟨[1, 5, 6], ⟨[.own 0 0, .ols 1, .i .i64], [.segs [.sl (.pair (.int .i64) (.pair (.int .i64) .bool)), .sl (.pair (.int .i64) (.pair (.int .i64) (.int .i64))), .i .i64], .lst (.int .i64)]⟩⟩
abbrev rspare_l1_h (rec : Int → (List (Int × (Int × Bool))) → (List (Int × (Int × Int))) → Int → (List Int) → Option (List Int)) : Leaf (List Int) := ⟨rspare_l1_at, rspare_l1_st, fun p => rec p.1.2.2.1 p.2.1.1 p.2.1.2.1 p.2.1.2.2.1 p.2.2.1⟩
abbrev rspare_l1_e0 : Leaf (List Int) := ⟨[.c [1, 1, 1, 1, 0], .c [1, 1, 1, 1, 1]], ⟨[5], ⟨[.ols 0], [.lst (.int .i64)]⟩⟩, fun p => some (p.2.1)⟩
abbrev rspare_j1_at : List PI := [.c [1, 1, 1, 0, 1, 0, 0, 1, 1], .l [1, 1, 1, 0, 1, 0, 0], .b 0, .c [1, 1, 1, 1]]
abbrev rspare_j1_st : Sta := ⟨[1, 5, 6], ⟨[.own 0 0, .ols 1, .i .i64], [.segs [.sl (.pair (.int .i64) (.pair (.int .i64) .bool)), .sl (.pair (.int .i64) (.pair (.int .i64) (.int .i64))), .i .i64], .lst (.int .i64)]⟩⟩
abbrev rspare_j1_k (N : Nat) (rec : Int → (List (Int × (Int × Bool))) → (List (Int × (Int × Int))) → Int → (List Int) → Option (List Int)) : Leaf (List Int) := ⟨rspare_j1_at, rspare_j1_st, fun p => rspare_j1 N rec p.1.2.2.1 p.2.1.1 p.2.1.2.1 p.2.1.2.2.1 p.2.2.1⟩
theorem rspare_j1_eq (N : Nat) (rec : Int → (List (Int × (Int × Bool))) → (List (Int × (Int × Int))) → Int → (List Int) → Option (List Int)) (w : Int) (t : List (Int × (Int × Bool))) (t2 : List (Int × (Int × Int))) (t3 : Int) (out : List Int) : ev (Z := List Int) Try.prog (rspare_sp N) rspare_B [] [rspare_l1_h rec, rspare_l1_e0] none 400 true rspare_j1_at (stL rspare_j1_st (((), (), w, ()), ((t, t2, t3, ()), out, ()))) (stH rspare_j1_st (((), (), w, ()), ((t, t2, t3, ()), out, ()))) = rspare_j1 N rec w t t2 t3 out := by kernel_rfl
theorem rspare_j1_lf (N : Nat) (rec : Int → (List (Int × (Int × Bool))) → (List (Int × (Int × Int))) → Int → (List Int) → Option (List Int)) {z : List Int} {top : Bool} {E : EE} {Xc : Ctx} (hE : EOK rspare_B.m0 E) (hX : CxOK top Xc) (hrec : LeafOK Try.prog rspare_B.c rspare_B.n rspare_B.m0 E Xc z (rspare_l1_h rec)) (h0 : LeafOK Try.prog rspare_B.c rspare_B.n rspare_B.m0 E Xc z rspare_l1_e0) : LeafOK Try.prog rspare_B.c rspare_B.n rspare_B.m0 E Xc z (rspare_j1_k N rec) := leaf_of_ev (B := rspare_B) (loops := []) (leaves := [rspare_l1_h rec, rspare_l1_e0]) (rspare_all N) mixed trivial hE hX ⟨hrec, h0, trivial⟩ RetOK.no (fun p => rspare_j1_eq N rec p.1.2.2.1 p.2.1.1 p.2.1.2.1 p.2.1.2.2.1 p.2.2.1)
noncomputable def rspare_l1_L (N : Nat) : LoopS := { at_ := rspare_l1_at, sta := rspare_l1_st, exits := [([.c [1, 1, 1, 1, 0], .c [1, 1, 1, 1, 1]], ⟨[5], ⟨[.ols 0], [.lst (.int .i64)]⟩⟩)], run := fun p k => (rspare_l1 N N p.1.2.2.1 p.2.1.1 p.2.1.2.1 p.2.1.2.2.1 p.2.2.1).bind fun e => k (.inl (((), ()), (e, ()))) }
theorem rspare_l1_eq (N n_ : Nat) (w : Int) (t : List (Int × (Int × Bool))) (t2 : List (Int × (Int × Int))) (t3 : Int) (out : List Int) : ev (Z := List Int) Try.prog (rspare_sp N) rspare_B [] [rspare_l1_h (rspare_l1 N n_), rspare_l1_e0, rspare_j1_k N (rspare_l1 N n_)] none 400 true rspare_l1_at (stL rspare_l1_st (((), (), w, ()), ((t, t2, t3, ()), out, ()))) (stH rspare_l1_st (((), (), w, ()), ((t, t2, t3, ()), out, ()))) = rspare_l1 N (n_ + 1) w t t2 t3 out := by kernel_rfl
theorem rspare_l1_ok (N : Nat) {top : Bool} : LoopOK Try.prog rspare_B.c rspare_B.n rspare_B.m0 top (rspare_l1_L N) := loop_of_ev (Z := List Int) (N := N) (fun m p => rspare_l1 N m p.1.2.2.1 p.2.1.1 p.2.1.2.1 p.2.1.2.2.1 p.2.2.1) (fun e => .inl (((), ()), (e, ()))) (fun _ _ _ => rfl) (fun _ => rfl) (fun m z E Xc hE hX hrec hx => leaf_of_ev (B := rspare_B) (loops := []) (leaves := [rspare_l1_h (rspare_l1 N m), rspare_l1_e0, rspare_j1_k N (rspare_l1 N m)]) (rspare_all N) mixed trivial hE hX ⟨hrec, (fun p hp => by obtain rfl := Option.some.inj hp; exact hx), rspare_j1_lf N _ hE hX hrec (fun p hp => by obtain rfl := Option.some.inj hp; exact hx), trivial⟩ RetOK.no (fun p => rspare_l1_eq N m p.1.2.2.1 p.2.1.1 p.2.1.2.1 p.2.1.2.2.1 p.2.2.1))
abbrev rspare_st : Sta := ⟨[0], ⟨[.agg [.sl (.pair (.int .i64) (.pair (.int .i64) .bool)), .sl (.pair (.int .i64) (.pair (.int .i64) (.int .i64))), .i .i64]], []⟩⟩
theorem rspare_eq (N : Nat) (t : List (Int × (Int × Bool))) (t2 : List (Int × (Int × Int))) (t3 : Int) : ev (Z := List Int × Int) Try.prog (rspare_sp N) rspare_B [rspare_l1_L N] [] (some rspare_rt) 400 false [.c [0], .c [1]] (stL rspare_st (((t, t2, t3, ()), ()), ())) (stH rspare_st (((t, t2, t3, ()), ()), ())) = rspare_S N t t2 t3 := by kernel_rfl
noncomputable def sp_rspare (N : Nat) : Spec := { f := 54, ins := ⟨[.agg [.sl (.pair (.int .i64) (.pair (.int .i64) .bool)), .sl (.pair (.int .i64) (.pair (.int .i64) (.int .i64))), .i .i64]], []⟩, outs := [⟨[.sl (.int .i64), .i .i64], []⟩], run := fun p k => (rspare_S N p.1.1.1 p.1.1.2.1 p.1.1.2.2.1).bind fun r => k ((r.1, r.2, ()), ()) }
theorem sp_rspare_ok (N : Nat) : SpecOK Try.prog (sp_rspare N) := fn_sound (B := rspare_B) (loops := [rspare_l1_L N]) (leaves := []) (fun p => rspare_S N p.1.1.1 p.1.1.2.1 p.1.1.2.2.1) (fun r => ((r.1, r.2, ()), ())) rspare_rt (fun _ _ _ => rfl) (fun r z h => by cases h; rfl) Try.func54 (by kernel_rfl) (by kernel_rfl) (by kernel_rfl) rfl rfl (by kernel_rfl) (fun args w => Sem.pv_run _ _ _ (by kernel_rfl) w) (rspare_all N) mixed ⟨rspare_l1_ok N, trivial⟩ (fun z E Xc hE hX hret => trivial) (fun p => rspare_eq N p.1.1.1 p.1.1.2.1 p.1.1.2.2.1)

def tleast_S (N : Nat) (t : List (Int × (Int × Bool))) (t2 : List (Int × (Int × Int))) (t3 : Int) (weight : Int) : Option Bool :=
  (great_S N t t2 t3 10).bind fun x_1 =>
  br x_1
    ((awake_S N).bind fun x_2 =>
    some x_2)
    ((copyx_S N t t2 t3).bind fun (x_3, y_4, y_5) =>
    (theirs_S N t t2 t3).bind fun (x_6, y_7, y_8) =>
    (least_S N x_3 y_4 y_5 weight).bind fun (x_9, y_10) =>
    (rleast_S N x_6 y_7 y_8 weight).bind fun (x_11, y_12) =>
    br (!decide (y_10 = y_12))
      (some false)
      ((likei_S N x_9 x_11).bind fun x_13 =>
      br (!x_13)
        (some false)
        ((spare_S N x_3 y_4 y_5).bind fun (x_14, y_15) =>
        (rspare_S N x_6 y_7 y_8).bind fun (x_16, y_17) =>
        br (decide (y_15 = y_17))
          ((likei_S N x_14 x_16).bind fun x_18 =>
          br x_18
            ((same_S N x_3 y_4 y_5 t t2 t3).bind fun x_19 =>
            br x_19
              ((awake_S N).bind fun x_20 =>
              some x_20)
              (some false))
            (some false))
          (some false))))
noncomputable def tleast_sp (N : Nat) : List Spec := [sp_spare N, sp_least N, sp_likei N, sp_awake N, sp_copyx N, sp_same N, sp_theirs N, sp_great N, sp_rleast N, sp_rspare N]
theorem tleast_all (N : Nat) : AllP (SpecOK Try.prog) (tleast_sp N) := ⟨sp_spare_ok N, sp_least_ok N, sp_likei_ok N, sp_awake_ok N, sp_copyx_ok N, sp_same_ok N, sp_theirs_ok N, sp_great_ok N, sp_rleast_ok N, sp_rspare_ok N, trivial⟩
noncomputable def tleast_c : Code := (Try.f9.body).getD .skip
noncomputable abbrev tleast_B : Body := { c := tleast_c, n := 65, res := [.tmp 4], outs := [⟨[.b], []⟩], m0 := 0 }
abbrev tleast_rt : altD tleast_B.outs → Option Bool := fun r => some r.1.1
abbrev tleast_st : Sta := ⟨[0, 1], ⟨[.agg [.sl (.pair (.int .i64) (.pair (.int .i64) .bool)), .sl (.pair (.int .i64) (.pair (.int .i64) (.int .i64))), .i .i64], .i .i64], []⟩⟩
theorem tleast_eq (N : Nat) (t : List (Int × (Int × Bool))) (t2 : List (Int × (Int × Int))) (t3 : Int) (weight : Int) : ev (Z := Bool) Try.prog (tleast_sp N) tleast_B [] [] (some tleast_rt) 400 false [.c [0], .c [1]] (stL tleast_st (((t, t2, t3, ()), weight, ()), ())) (stH tleast_st (((t, t2, t3, ()), weight, ()), ())) = tleast_S N t t2 t3 weight := by kernel_rfl
noncomputable def sp_tleast (N : Nat) : Spec := { f := 9, ins := ⟨[.agg [.sl (.pair (.int .i64) (.pair (.int .i64) .bool)), .sl (.pair (.int .i64) (.pair (.int .i64) (.int .i64))), .i .i64], .i .i64], []⟩, outs := [⟨[.b], []⟩], run := fun p k => (tleast_S N p.1.1.1 p.1.1.2.1 p.1.1.2.2.1 p.1.2.1).bind fun r => k ((r, ()), ()) }
theorem sp_tleast_ok (N : Nat) : SpecOK Try.prog (sp_tleast N) := fn_sound (B := tleast_B) (loops := []) (leaves := []) (fun p => tleast_S N p.1.1.1 p.1.1.2.1 p.1.1.2.2.1 p.1.2.1) (fun r => ((r, ()), ())) tleast_rt (fun _ _ _ => rfl) (fun r z h => by cases h; rfl) Try.func9 (by kernel_rfl) (by kernel_rfl) (by kernel_rfl) rfl rfl (by kernel_rfl) (fun args w => Sem.pv_run _ _ _ (by kernel_rfl) w) (tleast_all N) mixed trivial (fun z E Xc hE hX hret => trivial) (fun p => tleast_eq N p.1.1.1 p.1.1.2.1 p.1.1.2.2.1 p.1.2.1)

end Go.Proofs.Ytfamlpbdhhikdaa

namespace Go.Proofs.Ytfamlpbdhhikdaa
set_option linter.all false
open Go

section
variable {R : Nat → Nat → Bool} {m : Nat}
end
/-! ### The program of the reference -/
section
variable {N : Nat} (hN : 110 ≤ N)
include hN
end
section
variable {ws : List Wd} {ts : List Tn} {br_ : Int}
variable {N : Nat} (hN : 1030 ≤ N)
include hN
end
/-! ### The fewest breaths -/
section
variable {N : Nat} {l : List (List Int)} (hl : l.length ≤ 100000) (h1 : ∀ x ∈ l, 1 ≤ x.length)
include hl h1
end
end Go.Proofs.Ytfamlpbdhhikdaa

namespace Go.Proofs.Ytfamlpbdhhikdaa
set_option linter.all false
open Go

section
variable {N : Nat} {l : List (List Int)} {ws : List Wd} {ts : List Tn} {br_ : Int} {O : List Int}
end
section
variable {R : Nat → Nat → Bool} {m : Nat}
end
section
variable {N : Nat} {ws : List Wd} {ts : List Tn} {br_ : Int} (hF : TFine ws ts br_) (hN : 1030 ≤ N) (hm : ws.length ≤ 10)
include hF hm hN
end
end Go.Proofs.Ytfamlpbdhhikdaa

namespace Go.Proofs.Ytfamlpbdhhikdaa
set_option linter.all false
open Go

section
variable {ws : List Wd} {ts : List Tn} {br_ : Int}
variable {N : Nat} (hN : 110 ≤ N) (hF : TFine ws ts br_)
include hN hF
end
/-! ### Sure readings -/
section
variable {ws : List Wd} {ts : List Tn} {br_ : Int} {N : Nat} (hN : 110 ≤ N) (hF : TFine ws ts br_)
include hN hF
end
/-! ### No run of a sure reading says a turn otherwise -/
section
variable {ws : List Wd} {ts : List Tn} {br_ : Int}
end
end Go.Proofs.Ytfamlpbdhhikdaa

namespace Go.Proofs.Ytfamlpbdhhikdaa
set_option linter.all false
open Go

section
variable {N : Nat} {ws : List Wd} {ts : List Tn} {br_ : Int} (hN : 110 ≤ N) (hF : TFine ws ts br_)
include hN hF
end
section
variable {N : Nat} {ws : List Wd} {ts : List Tn} {br_ : Int} (hF : TFine ws ts br_) (hN : 1030 ≤ N) (hm : ws.length ≤ 10)
include hF hm hN
end
end Go.Proofs.Ytfamlpbdhhikdaa

namespace Go.Proofs.Ytfamlpbdhhikdaa
set_option linter.all false
open Go

/-! ### Bells -/
/-! ### Texts that are made -/
section
variable {N : Nat} {b : List Int}
/-! ### Readings that are tried -/
end
end Go.Proofs.Ytfamlpbdhhikdaa

namespace Go.Proofs.Ytfamlpbdhhikdaa
set_option linter.all false
open Go

section
variable {N : Nat} {ws : List Wd} {ts : List Tn} {br_ : Int}
variable (hN : 110 ≤ N) (hF : TFine ws ts br_)
include hN hF
omit hN hF
/-! ### Places -/
/-! ### Right readings -/
include hN hF
end
end Go.Proofs.Ytfamlpbdhhikdaa

namespace Go.Proofs.Ytfamlpbdhhikdaa
set_option linter.all false
open Go

section
variable {N : Nat} {ws : List Wd} {ts : List Tn} {br_ : Int} (hN : 110 ≤ N) (hF : TFine ws ts br_)
include hN hF
end
end Go.Proofs.Ytfamlpbdhhikdaa

namespace Go.Proofs.Ytfamlpbdhhikdaa
set_option linter.all false
open Go

/-! ### Runs that no turn is said otherwise by -/
section
variable {N : Nat} {ws : List Wd} {ts : List Tn} {br_ : Int} (hN : 110 ≤ N) (ht : ts.length ≤ 100)
include hN ht
end
/-! ### Turns that are parted -/
section
variable {ws : List Wd} {ts : List Tn} {br_ : Int}
end
section
variable {N : Nat} {ws : List Wd} {ts : List Tn} {br_ : Int} (hN : 110 ≤ N) (hF : TFine ws ts br_)
include hN hF
end
end Go.Proofs.Ytfamlpbdhhikdaa

namespace Go.Proofs.Ytfamlpbdhhikdaa
set_option linter.all false
open Go

section
variable {N : Nat} {ws : List Wd} {ts : List Tn} {br_ : Int} (hN : 110 ≤ N) (hF : TFine ws ts br_)
include hN hF
end
end Go.Proofs.Ytfamlpbdhhikdaa

namespace Go.Proofs.Ytfamlpbdhhikdaa
set_option linter.all false
open Go

/-- Marks from others, lowered at the places of right breaths from places ahead of one. -/
structure Low (R : Nat → Nat → Bool) (m f : Nat) (A M : List Int) : Prop where
  len : M.length = 13
  le : ∀ q, M.getD q 0 ≤ A.getD q 0
  hold : ∀ p q, p < f → p < q → q ≤ m → R p q = true → M.getD q 0 ≤ M.getD p 0 + 1
  why : ∀ q, M.getD q 0 = A.getD q 0 ∨ ∃ p, p < f ∧ p < q ∧ q ≤ m ∧ R p q = true ∧ M.getD q 0 = M.getD p 0 + 1
structure Mk (A : List Int) : Prop where
  len : A.length = 13
  bd : ∀ q, 0 ≤ A.getD q 0 ∧ A.getD q 0 ≤ 99
section
variable {R : Nat → Nat → Bool} {m : Nat} {A M : List Int}
theorem Low.bd (hA : Mk A) {f : Nat} (h : Low R m f A M) : ∀ q, 0 ≤ M.getD q 0 ∧ M.getD q 0 ≤ 99 := by
  intro q
  induction q using Nat.strongRecOn with
  | ind q ih =>
    have h1 := h.le q
    have h2 := hA.bd q
    rcases h.why q with e | ⟨p, _, hp, _, _, e⟩
    · omega
    · have := ih p hp; omega
theorem Low.next {f : Nat} {M' : List Int} (h : Low R m f A M) (hl : M'.length = 13) (hM : ∀ q, M'.getD q 0 = if (f < q ∧ q ≤ m ∧ R f q = true) then min (M.getD q 0) (M.getD f 0 + 1) else M.getD q 0) : Low R m (f + 1) A M' := by
  have hle : ∀ q, M'.getD q 0 ≤ M.getD q 0 := fun q => by
    rw [hM q]; split <;> omega
  have hsm : ∀ p, p ≤ f → M'.getD p 0 = M.getD p 0 := fun p hp => by rw [hM p, if_neg (by omega)]
  refine ⟨hl, fun q => Int.le_trans (hle q) (h.le q), fun p q h1 h2 h3 h4 => ?_, fun q => ?_⟩
  · rw [hsm p (by omega)]
    by_cases e : p = f
    · subst e
      rw [hM q, if_pos ⟨h2, h3, h4⟩]; omega
    · have := h.hold p q (by omega) h2 h3 h4
      have := hle q; omega
  · by_cases e : M'.getD q 0 = M.getD q 0
    · rw [e]
      rcases h.why q with h1 | ⟨p, h1, h2, h3, h4, h5⟩
      · exact .inl h1
      · exact .inr ⟨p, by omega, h2, h3, h4, by rw [hsm p (by omega)]; exact h5⟩
    · by_cases c : f < q ∧ q ≤ m ∧ R f q = true
      · have h1 := hM q
        rw [if_pos c] at h1
        exact .inr ⟨f, by omega, c.1, c.2.1, c.2.2, by rw [hsm f (Nat.le_refl _)]; omega⟩
      · exact absurd (by rw [hM q, if_neg c]) e
theorem Low.holds (h : Low R m m A A) : ∀ p q, p < q → q ≤ m → R p q = true → A.getD q 0 ≤ A.getD p 0 + 1 := fun p q h1 h2 h3 => h.hold p q (by omega) h1 h2 h3
end
section
variable {N : Nat} {ws : List Wd} {ts : List Tn} {br_ : Int} (hN : 110 ≤ N) (hF : TFine ws ts br_)
include hF
include hN
end
end Go.Proofs.Ytfamlpbdhhikdaa

namespace Go.Proofs.Ytfamlpbdhhikdaa
set_option linter.all false
open Go

section
variable {N : Nat} {ws : List Wd} {ts : List Tn} {br_ : Int} (hN : 110 ≤ N) (hF : TFine ws ts br_)
include hN hF
end
end Go.Proofs.Ytfamlpbdhhikdaa

namespace Go.Proofs.Ytfamlpbdhhikdaa
set_option linter.all false
open Go

/-- Words keep the sense of a turn. -/
def keepP (l : List Int) (x : Tn) : Bool := !sayP l x
section
variable {N : Nat} {ws : List Wd} {ts : List Tn} {br_ : Int}
theorem keeps1_l1_p {l : List Int} (hl : l.length ≤ 1000) (hN : l.length < N) {x : Tn} (hx : -1000 ≤ x.2.1 ∧ x.2.2 ≤ 1000) : ∀ (n : Nat) (w : Int), (x.2.2 + 1 - w).toNat < n → x.2.1 ≤ w →
    keeps1_l1 N n l w x.1 x.2.1 x.2.2 = some (if (wordsL w (x.2.2 + 1)).all (fun w => l.contains w) then .inr (l, x.1, x.2.1, x.2.2) else .inl ())
  | 0, w, h, _ => by omega
  | n + 1, w, h, h1 => by
    unfold keeps1_l1
    by_cases c : w ≤ x.2.2
    · have ih := keeps1_l1_p hl hN hx n (w + 1) (by omega) (by omega)
      have e : wordsL w (x.2.2 + 1) = w :: wordsL (w + 1) (x.2.2 + 1) := by
        unfold wordsL
        rw [show (x.2.2 + 1 - w).toNat = (x.2.2 + 1 - (w + 1)).toNat + 1 by omega, List.range_succ_eq_map, List.map_cons, List.map_map]
        congr 1
        · simp
        · refine List.map_congr_left fun i _ => ?_
          simp only [Function.comp]; omega
      rw [e, List.all_cons, br_dec c, containsi_v hl hN]
      simp only [Option.bind_some]
      cases l.contains w
      · rfl
      · rw [Bool.not_true, br_false, chk_eq (by omega), ih, Bool.true_and]
    · rw [br_ndec c]
      have : wordsL w (x.2.2 + 1) = [] := by unfold wordsL; rw [show (x.2.2 + 1 - w).toNat = 0 by omega]; rfl
      rw [this]; rfl
theorem keeps1_v {l : List Int} (hl : l.length ≤ 1000) (hN : l.length < N) {x : Tn} (hx : -1000 ≤ x.2.1 ∧ x.2.2 ≤ 1000) (hN2 : (x.2.2 + 1 - x.2.1).toNat < N) : keeps1_S N x.1 x.2.1 x.2.2 l = some (keepP l x) := by
  unfold keeps1_S keepP sayP coreB
  rw [keeps1_l1_p hl hN hx N x.2.1 hN2 (by omega)]
  cases (wordsL x.2.1 (x.2.2 + 1)).all (fun w => l.contains w)
  · rfl
  · simp only [if_true, Option.bind_some]
    rw [containsi_v hl hN]
    simp
theorem ixft5_gen {l : List Int} {p : Tn → Bool} : ∀ (n : Nat) (s : List Tn) (u u2 : Int), (∀ x ∈ s, keeps1_S N x.1 x.2.1 x.2.2 l = some (p x)) → ixft5_l1 N n s u u2 l = (ixL (fun x => some (!p x)) n s u u2).map fun r => match r with | .inl i => .inl (i, l) | .inr _ => .inr l
  | 0, _, _, _, _ => rfl
  | n + 1, s, u, u2, h => by
    unfold ixft5_l1 ixL every1t5_S
    unfold br
    split
    · unfold idx
      split
      · cases hg : s[u2.toNat]? with
        | none => rfl
        | some a =>
          dsimp only
          rw [h a (List.mem_of_getElem? hg)]
          simp only [Option.bind_some, ixft5_gen n s u (u2 + 1) h]
          cases p a
          · rfl
          · simp only [Bool.not_true, Bool.false_eq_true, if_false]
            unfold chk
            split <;> rfl
      · rfl
    · rfl
theorem everyt5_v {l : List Int} {p : Tn → Bool} (h : ∀ x ∈ ts, keeps1_S N x.1 x.2.1 x.2.2 l = some (p x)) (ht : ts.length ≤ 1000000) (hN : ts.length < N) : everyt5_S N ts l = some (ts.all p) := by
  unfold everyt5_S coft5_S ixft5_S
  rw [← every_gen (f := fun x : Tn => some (p x)) (p := p) (s := ts) (N := N) (fun x _ => rfl) ht hN]
  unfold ixS
  rw [ixft5_gen _ _ _ _ h]
  simp only [Option.bind_some]
  cases ixL (fun x => some (!p x)) N ts ts.length 0 with
  | none => rfl
  | some r => cases r <;> rfl
variable (hN : 110 ≤ N) (hF : TFine ws ts br_)
include hN hF
theorem keeps_v {l : List Int} (hl : l.length ≤ 100) : keeps_S N (ws, ts, br_) l = some (ts.all (keepP l)) := by
  have hn := hF.n; have ht := hF.t
  unfold keeps_S
  dsimp only
  rw [everyt5_v (p := keepP l) (fun x hx => by
    have := hF.x x hx
    exact keeps1_v (by omega) (by omega) (by omega) (by omega)) (by omega) (by omega)]
  rfl
theorem said_keep {l : List Int} (hl : l.length ≤ 100) : ∃ s, said_S N ws ts br_ l = some s ∧ s.length ≤ 100 ∧ decide ((s.length : Int) = 0) = ts.all (keepP l) := by
  have ht := hF.t
  refine ⟨_, hF.said (by omega) (by omega) (by omega), ?_, ?_⟩
  · have := selK_len (sayP l) ts ts.length; omega
  · rw [Bool.eq_iff_iff, decide_eq_true_eq, List.all_eq_true]
    constructor
    · intro h x hx
      obtain ⟨i, hi, rfl⟩ := List.getElem_of_mem hx
      unfold keepP
      cases hs : sayP l ts[i]
      · rfl
      · exfalso
        have : (i : Int) ∈ selK (sayP l) ts ts.length := by
          simp only [selK, List.mem_map, List.mem_filter, List.mem_range]
          exact ⟨i, ⟨hi, by simpa [List.getD, hi] using hs⟩, rfl⟩
        have := List.length_pos_of_mem this
        omega
    · intro h
      have : selK (sayP l) ts ts.length = [] := by
        cases hq : selK (sayP l) ts ts.length with
        | nil => rfl
        | cons a r =>
          exfalso
          have hm : a ∈ selK (sayP l) ts ts.length := by rw [hq]; simp
          simp only [selK, List.mem_map, List.mem_filter, List.mem_range] at hm
          obtain ⟨i, ⟨hi, hp⟩, _⟩ := hm
          have := h _ (getD_mem (d := (0, 0, 0)) hi)
          unfold keepP at this
          rw [hp] at this; cases this
      rw [this]; rfl
omit hN hF
/-- The weight of words. -/
def wtR (ws : List Wd) (l : List Int) : Int := (l.map fun w => (ws.getD w.toNat (0, 0, false)).2.1).sum
def inW (ws : List Wd) (l : List Int) : Prop := ∀ w ∈ l, 0 ≤ w ∧ w < ws.length
include hF
theorem weight_l1_p {l : List Int} (hl : l.length ≤ 1000) (hw : inW ws l) : ∀ (n k : Nat) (O : List Int), l.length < n + k → k ≤ l.length → O.length = k →
    weight_l1 N n (ws, ts, br_) l l.length k O = some (O ++ (l.drop k).map fun w => (ws.getD w.toNat (0, 0, false)).2.1)
  | 0, k, O, h, _, _ => by omega
  | n + 1, k, O, h, hk, hO => by
    by_cases c : k < l.length
    · have g := gets c 0
      have hx := hw _ (getD_mem (d := 0) c)
      rw [drop_cons c 0]
      generalize l.getD k 0 = x at *
      have g2 : ws[x.toNat]? = some (ws.getD x.toNat (0, 0, false)) := by
        simp [List.getD, show x.toNat < ws.length by omega]
      have ih := weight_l1_p hl hw n (k + 1) (O ++ [(ws.getD x.toNat (0, 0, false)).2.1]) (by omega) (by omega) (by simp [hO])
      rw [show ((k + 1 : Nat) : Int) = (k : Int) + 1 by omega] at ih
      rw [weight_l1, br_dec (by omega), idx_eq (by omega) g, idx_eq (l := ws) hx.1 g2, lim_eq (by simp; omega), chk_eq (by omega), ih]
      simp
    · rw [weight_l1, br_ndec (by omega), List.drop_of_length_le (by omega)]; simp
theorem wt_mem {l : List Int} (hw : inW ws l) : ∀ x ∈ l.map fun w => (ws.getD w.toNat (0, 0, false)).2.1, 0 ≤ x ∧ x ≤ 20 := by
  intro x hx
  obtain ⟨w, hm, rfl⟩ := List.mem_map.1 hx
  have := hw w hm
  exact (hF.w _ (getD_mem (show w.toNat < ws.length by omega))).2
theorem weight_v {l : List Int} (hl : l.length ≤ 100) (hNl : 110 ≤ N) (hw : inW ws l) : weight_S N (ws, ts, br_) l = some (wtR ws l) := by
  have e := weight_l1_p (N := N) hF (l := l) (by omega) hw N 0 [] (by omega) (by omega) rfl
  simp only [Int.natCast_zero, List.drop_zero, List.nil_append] at e
  unfold weight_S
  rw [e]
  simp only [Option.bind_some]
  have hm := wt_mem hF hw
  rw [sum_v (m := 20) (by simp; omega) (by simp; omega) (by omega) (fun x hx => by have := hm x hx; omega)]
  rfl
theorem rweight_l1_p {l : List Int} (hl : l.length ≤ 1000) (hw : inW ws l) : ∀ (n k : Nat) (s : Int), l.length < n + k → k ≤ l.length → 0 ≤ s ∧ s ≤ 20 * k →
    rweight_l1 N n l s k ws ts br_ = some (s + ((l.drop k).map fun w => (ws.getD w.toNat (0, 0, false)).2.1).sum)
  | 0, k, s, h, _, _ => by omega
  | n + 1, k, s, h, hk, hs => by
    by_cases c : k < l.length
    · have g := gets c 0
      have hx := hw _ (getD_mem (d := 0) c)
      rw [drop_cons c 0]
      generalize l.getD k 0 = x at *
      have hm := (hF.w _ (getD_mem (d := (0, 0, false)) (show x.toNat < ws.length by omega))).2
      have g2 : ws[x.toNat]? = some (ws.getD x.toNat (0, 0, false)) := by
        simp [List.getD, show x.toNat < ws.length by omega]
      have ih := rweight_l1_p hl hw n (k + 1) (s + (ws.getD x.toNat (0, 0, false)).2.1) (by omega) (by omega) (by omega)
      rw [show ((k + 1 : Nat) : Int) = (k : Int) + 1 by omega] at ih
      rw [rweight_l1, br_dec (by omega), idx_eq (by omega) g, idx_eq hx.1 g2, chk_eq (by omega), chk_eq (by omega), ih, List.map_cons, List.sum_cons, Int.add_assoc]
    · rw [rweight_l1, br_ndec (by omega), List.drop_of_length_le (by omega)]; simp
theorem rweight_v {l : List Int} (hl : l.length ≤ 100) (hNl : 110 ≤ N) (hw : inW ws l) : rweight_S N ws ts br_ l = some (wtR ws l) := by
  have e := rweight_l1_p (N := N) hF (l := l) (by omega) hw N 0 0 (by omega) (by omega) (by omega)
  simp only [Int.natCast_zero, List.drop_zero, Int.zero_add] at e
  unfold rweight_S
  rw [e]; rfl
end
/-! ### Errors of kept words -/
section
variable {N : Nat} {ws : List Wd} {ts : List Tn} {br_ : Int}
end
/-! ### Prices -/
section
variable {N : Nat} {ws : List Wd} {ts : List Tn} {br_ : Int}
end
end Go.Proofs.Ytfamlpbdhhikdaa

namespace Go.Proofs.Ytfamlpbdhhikdaa
set_option linter.all false
open Go

/-! ### Ascending lists -/
/-! ### The binary search -/
/-! ### Kept words -/
section
variable {N : Nat} {ws : List Wd} {ts : List Tn} {br_ : Int}
variable (hN : 110 ≤ N) (hF : TFine ws ts br_)
include hN hF
omit hN hF
include hN hF
omit hN hF
/-! ### The reference -/
include hN hF
omit hN hF
end
/-! ### The statement -/
section
variable {N : Nat}
end
end Go.Proofs.Ytfamlpbdhhikdaa

namespace Go.Proofs.Ytfamlpbdhhikdaa
set_option linter.all false
open Go

/-- Ascending words from one on. -/
def okC (m : Int) : Int → List Int → Prop
  | _, [] => True
  | lo, a :: r => (lo ≤ a ∧ a < m) ∧ okC m (a + 1) r
theorem okC_mono {m lo lo' : Int} (h : lo' ≤ lo) : ∀ {c : List Int}, okC m lo c → okC m lo' c
  | [], _ => trivial
  | a :: r, ⟨⟨h1, h2⟩, h3⟩ => ⟨⟨by omega, h2⟩, h3⟩
theorem okC_len {m : Int} : ∀ {c : List Int} {lo : Int}, okC m lo c → c ≠ [] → lo + c.length ≤ m
  | [], _, _, h => absurd rfl h
  | [a], lo, ⟨⟨h1, h2⟩, _⟩, _ => by simp; omega
  | a :: b :: r, lo, ⟨⟨h1, h2⟩, h3⟩, _ => by
    have := okC_len h3 (by simp)
    simp at this ⊢; omega
theorem okC_mem {m : Int} : ∀ {c : List Int} {lo : Int}, okC m lo c → ∀ x ∈ c, lo ≤ x ∧ x < m
  | a :: r, lo, ⟨⟨h1, h2⟩, h3⟩, x, hx => by
    rcases List.mem_cons.1 hx with rfl | hx
    · exact ⟨h1, h2⟩
    · have := okC_mem h3 x hx; omega
/-- Which of two lists comes ahead. -/
def bef : List Int → List Int → Bool
  | a :: l, b :: r => if a = b then bef l r else decide (a < b)
  | _, _ => false
/-- What a choice of words comes to. -/
def ChF (m : Int) (P : List Int → Bool) (l : List Int) (lo : Int) (k : Nat) : Option (List Int) → Prop
  | none => ∀ c, okC m lo c → c.length = k → P (l ++ c) = false
  | some x => ∃ c, okC m lo c ∧ c.length = k ∧ x = l ++ c ∧ P x = true ∧ ∀ c', okC m lo c' → c'.length = k → P (l ++ c') = true → bef c' c = false
theorem ChF.step {m : Int} {P : List Int → Bool} {l : List Int} {w : Int} {k : Nat} {r : Option (List Int)} (h1 : ∀ c, okC m (w + 1) c → c.length = k → P ((l ++ [w]) ++ c) = false) (h2 : ChF m P l (w + 1) (k + 1) r) : ChF m P l w (k + 1) r := by
  have key : ∀ c, okC m w c → c.length = k + 1 → P (l ++ c) = true → okC m (w + 1) c := by
    intro c hc hl hp
    cases c with
    | nil => simp at hl
    | cons a c =>
      obtain ⟨⟨a1, a2⟩, a3⟩ := hc
      by_cases e : a = w
      · subst e
        have := h1 c a3 (by simpa using hl)
        rw [List.append_assoc, List.singleton_append, hp] at this
        cases this
      · exact ⟨⟨by omega, a2⟩, a3⟩
  cases r with
  | none =>
    intro c hc hl
    cases hp : P (l ++ c)
    · rfl
    · rw [← hp]; exact h2 c (key c hc hl hp) hl
  | some x =>
    obtain ⟨c, c1, c2, c3, c4, c5⟩ := h2
    exact ⟨c, okC_mono (by omega) c1, c2, c3, c4, fun c' d1 d2 d3 => c5 c' (key c' d1 d2 d3) d2 d3⟩
theorem ChF.found {m : Int} {P : List Int → Bool} {l : List Int} {w : Int} {k : Nat} {x : List Int} (hw : w < m) (h : ChF m P (l ++ [w]) (w + 1) k (some x)) : ChF m P l w (k + 1) (some x) := by
  obtain ⟨c, c1, c2, c3, c4, c5⟩ := h
  refine ⟨w :: c, ⟨⟨by omega, hw⟩, c1⟩, by simp [c2], by simp [c3], c4, fun c' d1 d2 d3 => ?_⟩
  cases c' with
  | nil => rfl
  | cons a c' =>
    obtain ⟨⟨a1, a2⟩, a3⟩ := d1
    unfold bef
    by_cases e : a = w
    · subst e
      rw [if_pos rfl]
      exact c5 c' a3 (by simpa using d2) (by simpa using d3)
    · rw [if_neg e, decide_eq_false (by omega)]
theorem ChF.past {m : Int} {P : List Int → Bool} {l : List Int} {w : Int} {k : Nat} (h : m < w + (k + 1 : Nat)) : ChF m P l w (k + 1) none := by
  intro c hc hl
  have := okC_len hc (by intro e; subst e; simp at hl)
  omega
def chO (d : Tx) (wt : Int) : Option (List Int) → (Tx × Int) ⊕ (List Int × Tx × Int)
  | none => .inl (d, wt)
  | some x => .inr (x, d, wt)
def chL (d : Tx) (wt : Int) : Option (List Int) → (List Int × Tx × Int) ⊕ (Tx × Int)
  | none => .inr (d, wt)
  | some x => .inl (x, d, wt)
/-- Words that will do. -/
def goodP (ws : List Wd) (ts : List Tn) (wt : Int) (l : List Int) : Bool := decide (wt ≤ wtR ws l) && ts.all (keepP l)
theorem inW_append {ws : List Wd} {l : List Int} {w : Int} (h : inW ws l) (hw : 0 ≤ w ∧ w < ws.length) : inW ws (l ++ [w]) := fun x hx => by
  rcases List.mem_append.1 hx with hx | hx
  · exact h x hx
  · rw [List.mem_singleton] at hx; subst hx; exact hw
section
variable {N : Nat} {ws : List Wd} {ts : List Tn} {br_ : Int}
theorem cloneo_v {l : List Int} (h : l ≠ []) (hl : l.length ≤ 1000) : cloneo_S N l = some l := by
  unfold cloneo_S
  rw [grd_eq (by cases l <;> simp_all), lim_eq (by simp; omega)]; rfl
variable (hN : 110 ≤ N) (hF : TFine ws ts br_)
include hN hF
theorem choose_l1_p {wt : Int} {self : List Int → Int → Int → Tx → Int → Tx → Int → Option ((Tx × Int) ⊕ (List Int × Tx × Int))} {k : Nat}
    (hrec : ∀ (l' : List Int) (lo : Int), l' ≠ [] → l'.length + k ≤ 20 → inW ws l' → 0 ≤ lo → lo ≤ ws.length → ∃ r, self l' lo k (ws, ts, br_) wt (ws, ts, br_) wt = some (chO (ws, ts, br_) wt r) ∧ ChF ws.length (goodP ws ts wt) l' lo k r)
    {l : List Int} (hl : l ≠ []) (hk : l.length + (k + 1) ≤ 20) (hw : inW ws l) : ∀ (n : Nat) (w : Int), (ws.length + 1 - w).toNat < n → 0 ≤ w →
    w ≤ ws.length → ∃ r, choose_l1 N self n l ((k + 1 : Nat) : Int) (ws, ts, br_) w (ws, ts, br_) wt = some (chL (ws, ts, br_) wt r) ∧ ChF ws.length (goodP ws ts wt) l w (k + 1) r
  | 0, w, h, _, _ => by omega
  | n + 1, w, h, h0, h1 => by
    have hn := hF.n
    unfold choose_l1 end__S
    rw [chk_eq (by omega)]
    simp only [Option.bind_some]
    by_cases c : w + ((k + 1 : Nat) : Int) ≤ ws.length
    · rw [br_dec c, cloneo_v hl (by omega)]
      simp only [Option.bind_some]
      rw [lim_eq (by simp; omega), chk_eq (by omega), chk_eq (by omega), show ((k + 1 : Nat) : Int) - 1 = k by omega]
      obtain ⟨r, e1, hr⟩ := hrec (l ++ [w]) (w + 1) (by simp) (by simp; omega) (inW_append hw (by omega)) (by omega) (by omega)
      rw [e1]
      cases r with
      | none =>
        obtain ⟨r2, e2, hr2⟩ := choose_l1_p hrec hl hk hw n (w + 1) (by omega) (by omega) (by omega)
        refine ⟨r2, ?_, ChF.step hr hr2⟩
        simp only [chO, Option.bind_some]
        rw [chk_eq (by omega), e2]
      | some x =>
        refine ⟨some x, ?_, hr.found (by omega)⟩
        simp only [chO, Option.bind_some]
        obtain ⟨c, _, _, e, _⟩ := hr
        rw [grd_eq (by rw [e]; simp)]; rfl
    · rw [br_ndec c]
      exact ⟨none, rfl, ChF.past (by omega)⟩
theorem choose_v {wt : Int} : ∀ (k n : Nat) (l : List Int) (lo : Int), k < n → l ≠ [] → l.length + k ≤ 20 → inW ws l → 0 ≤ lo → lo ≤ ws.length →
    ∃ r, choose_R N n l lo k (ws, ts, br_) wt (ws, ts, br_) wt = some (chO (ws, ts, br_) wt r) ∧ ChF ws.length (goodP ws ts wt) l lo k r
  | k, 0, l, lo, h, _, _, _, _, _ => by omega
  | 0, n + 1, l, lo, h, hl, hk, hw, h0, h1 => by
    have hn := hF.n
    unfold choose_R choose_S
    rw [br_dec (by omega), weight_v hF (by omega) hN hw]
    simp only [Option.bind_some]
    have nil : ∀ c : List Int, c.length = 0 → c = [] := fun c h => List.eq_nil_of_length_eq_zero h
    by_cases c : wt ≤ wtR ws l
    · rw [br_dec c, keeps_v hN hF (by omega)]
      simp only [Option.bind_some]
      cases hp : ts.all (keepP l)
      · refine ⟨none, by rw [br_false]; rfl, fun c' h1 h2 => ?_⟩
        rw [nil c' h2, List.append_nil]
        unfold goodP; rw [hp, Bool.and_false]
      · refine ⟨some l, by rw [br_true]; rfl, [], trivial, rfl, by simp, ?_, fun c' h1 h2 _ => ?_⟩
        · unfold goodP; rw [hp, decide_eq_true c]; rfl
        · rw [nil c' h2]; rfl
    · refine ⟨none, by rw [br_ndec c]; rfl, fun c' h1 h2 => ?_⟩
      rw [nil c' h2, List.append_nil]
      unfold goodP; rw [decide_eq_false c]; rfl
  | k + 1, n + 1, l, lo, h, hl, hk, hw, h0, h1 => by
    have hn := hF.n
    unfold choose_R choose_S
    rw [br_ndec (by omega)]
    obtain ⟨r, e, hr⟩ := choose_l1_p hN hF (self := choose_R N n) (fun l' lo a b c d e => choose_v k n l' lo (by omega) a b c d e) hl hk hw N lo (by omega) h0 h1
    rw [e]
    refine ⟨r, ?_, hr⟩
    cases r <;> rfl
theorem choose0_l1_p {wt : Int} {k : Nat} (hk : k + 1 ≤ 20) : ∀ (n : Nat) (w : Int), (ws.length + 1 - w).toNat < n → 0 ≤ w →
    w ≤ ws.length → ∃ r, choose0_l1 N n ((k + 1 : Nat) : Int) (ws, ts, br_) w (ws, ts, br_) wt = some (chL (ws, ts, br_) wt r) ∧ ChF ws.length (goodP ws ts wt) [] w (k + 1) r
  | 0, w, h, _, _ => by omega
  | n + 1, w, h, h0, h1 => by
    have hn := hF.n
    unfold choose0_l1 end__S
    rw [chk_eq (by omega)]
    simp only [Option.bind_some]
    by_cases c : w + ((k + 1 : Nat) : Int) ≤ ws.length
    · rw [br_dec c]
      unfold clonen_S
      simp only [Option.bind_some]
      rw [chk_eq (by omega), chk_eq (by omega), show ((k + 1 : Nat) : Int) - 1 = k by omega]
      obtain ⟨r, e1, hr⟩ := choose_v hN hF (wt := wt) k N [w] (w + 1) (by omega) (by simp) (by simp; omega) (fun x hx => by rw [List.mem_singleton] at hx; subst hx; omega) (by omega) (by omega)
      rw [e1]
      cases r with
      | none =>
        obtain ⟨r2, e2, hr2⟩ := choose0_l1_p hk n (w + 1) (by omega) (by omega) (by omega)
        refine ⟨r2, ?_, ChF.step (l := []) hr hr2⟩
        simp only [chO, Option.bind_some]
        rw [chk_eq (by omega), e2]
      | some x =>
        refine ⟨some x, ?_, ChF.found (l := []) (by omega) hr⟩
        simp only [chO, Option.bind_some]
        obtain ⟨c, _, _, e, _⟩ := hr
        rw [grd_eq (by rw [e]; simp)]; rfl
    · rw [br_ndec c]
      exact ⟨none, rfl, ChF.past (by omega)⟩
theorem choose0_v {wt : Int} {k : Nat} (hk : k + 1 ≤ 20) : ∃ r, choose0_S N 0 ((k + 1 : Nat) : Int) (ws, ts, br_) wt (ws, ts, br_) wt = some (chO (ws, ts, br_) wt r) ∧ ChF ws.length (goodP ws ts wt) [] 0 (k + 1) r := by
  have hn := hF.n
  unfold choose0_S
  rw [br_ndec (by omega)]
  obtain ⟨r, e, hr⟩ := choose0_l1_p hN hF (wt := wt) hk N 0 (by omega) (by omega) (by omega)
  rw [e]
  refine ⟨r, ?_, hr⟩
  cases r <;> rfl
/-- What is told as the fewest words. -/
def LeastW (m : Int) (P : List Int → Bool) (l : List Int) : Prop := okC m 0 l ∧ l ≠ [] ∧ P l = true ∧ ∀ c, okC m 0 c → c ≠ [] → P c = true → l.length < c.length ∨ l.length = c.length ∧ bef c l = false
omit hN hF in
theorem least_up {m : Int} {P : List Int → Bool} {k : Nat} {x : List Int} (h : ∀ c, okC m 0 c → c ≠ [] → c.length ≤ k → P c = false) (hx : ChF m P [] 0 (k + 1) (some x)) : LeastW m P x := by
  obtain ⟨c, c1, c2, c3, c4, c5⟩ := hx
  rw [List.nil_append] at c3
  subst c3
  refine ⟨c1, by intro e; subst e; simp at c2, c4, fun c' d1 d2 d3 => ?_⟩
  rcases Nat.lt_trichotomy x.length c'.length with e | e | e
  · exact .inl e
  · exact .inr ⟨e, c5 c' d1 (by omega) d3⟩
  · have := h c' d1 d2 (by omega)
    rw [d3] at this; cases this
theorem least_l1_p {wt : Int} : ∀ (n k : Nat), ws.length < n + k → k ≤ ws.length → (∀ c, okC ws.length 0 c → c ≠ [] → c.length ≤ k → goodP ws ts wt c = false) →
    ∃ r, least_l1 N n ws.length k (ws, ts, br_) wt = some r ∧ match r with
      | .inl l => LeastW ws.length (goodP ws ts wt) l
      | .inr _ => ∀ c, okC ws.length 0 c → c ≠ [] → goodP ws ts wt c = false
  | 0, k, h, hk, _ => by omega
  | n + 1, k, h, hk, hc => by
    have hn := hF.n
    unfold least_l1
    by_cases c : k < ws.length
    · rw [br_dec (by omega), chk_eq (by omega), show (k : Int) + 1 = ((k + 1 : Nat) : Int) by omega]
      obtain ⟨r, e, hr⟩ := choose0_v hN hF (wt := wt) (k := k) (by omega)
      rw [e]
      cases r with
      | none =>
        obtain ⟨r2, e2, hr2⟩ := least_l1_p (wt := wt) n (k + 1) (by omega) (by omega) (fun c d1 d2 d3 => by
          by_cases d : c.length ≤ k
          · exact hc c d1 d2 d
          · have := hr c d1 (by omega)
            rwa [List.nil_append] at this)
        refine ⟨r2, ?_, hr2⟩
        simp only [chO, Option.bind_some]
        rw [chk_eq (by omega), e2]
      | some x =>
        have hx := least_up hc hr
        refine ⟨.inl x, ?_, hx⟩
        simp only [chO, Option.bind_some]
        rw [grd_eq (by have := hx.2.1; cases x <;> simp_all)]
    · rw [br_ndec (by omega)]
      refine ⟨.inr (), rfl, fun c' d1 d2 => hc c' d1 d2 ?_⟩
      have := okC_len d1 d2
      omega
omit hN hF
/-- What is told of the fewest words. -/
def LeastQ (ws : List Wd) (ts : List Tn) (br_ wt : Int) (l : List Int) (e : Int) : Prop :=
  if checkT ws ts br_ ≠ 0 then l = [] ∧ e = checkT ws ts br_ else if wt < 0 then l = [] ∧ e = 3 else e = 0 ∧ LeastW ws.length (goodP ws ts wt) l ∨ (e = 6 ∧ l = []) ∧ ∀ c, okC ws.length 0 c → c ≠ [] → goodP ws ts wt c = false
theorem least_v (hN : 110 ≤ N) (hw : ws.length ≤ 1000000) (ht : ts.length ≤ 1000000) {wt : Int} : ∃ l e, least_S N ws ts br_ wt = some (l, e) ∧ LeastQ ws ts br_ wt l e := by
  unfold least_S
  rw [opened_v (by omega) hw ht]
  by_cases c : checkT ws ts br_ = 0
  · have hF := tfine_of c
    have hn := hF.n
    have hq : ∀ l e, LeastQ ws ts br_ wt l e ↔ (if wt < 0 then l = [] ∧ e = 3 else e = 0 ∧ LeastW ws.length (goodP ws ts wt) l ∨ (e = 6 ∧ l = []) ∧ ∀ c, okC ws.length 0 c → c ≠ [] → goodP ws ts wt c = false) := fun l e => by
      unfold LeastQ
      rw [if_neg (by simpa using c)]
    simp only [hq]
    rw [if_pos c]
    simp only [Option.bind_some]
    rw [br_nd (by first | trivial | rfl)]
    by_cases d : wt < 0
    · rw [br_dec d]
      simp only [if_pos d]
      exact ⟨_, _, rfl, rfl, rfl⟩
    · rw [br_ndec d]
      simp only [if_neg d]
      unfold end__S
      simp only [Option.bind_some]
      obtain ⟨r, e, hr⟩ := least_l1_p hN hF (wt := wt) N 0 (by omega) (by omega) (fun c d1 d2 d3 => by
        cases c with
        | nil => exact absurd rfl d2
        | cons a r => simp at d3)
      simp only [Int.natCast_zero] at e
      rw [e]
      cases r with
      | inl l => exact ⟨_, _, rfl, .inl ⟨rfl, hr⟩⟩
      | inr u => exact ⟨_, _, rfl, .inr ⟨⟨rfl, rfl⟩, hr⟩⟩
  · rw [if_neg c]
    simp only [Option.bind_some]
    rw [br_nnd c]
    refine ⟨_, _, rfl, ?_⟩
    unfold LeastQ
    rw [if_pos c]
    exact ⟨rfl, rfl⟩
end
/-! ### Words that can be left out -/
def butL (m w : Int) : List Int := wordsL 0 w ++ wordsL (w + 1) m
theorem butL_len {m w : Int} (h : 0 ≤ w ∧ w < m) : ((butL m w).length : Int) = m - 1 := by
  unfold butL
  rw [List.length_append, wordsL_len, wordsL_len]
  omega
theorem wordsL_snoc {a b : Int} (h : a ≤ b) : wordsL a (b + 1) = wordsL a b ++ [b] := by
  unfold wordsL
  rw [show (b + 1 - a).toNat = (b - a).toNat + 1 by omega, List.range_succ, List.map_append, List.map_singleton]
  congr 2; omega
theorem wordsL_nil {a b : Int} (h : b ≤ a) : wordsL a b = [] := by
  unfold wordsL
  rw [show (b - a).toNat = 0 by omega]; rfl
def spareK (ws : List Wd) (ts : List Tn) (k : Nat) : List Int := ((List.range k).filter fun (w : Nat) => decide (1 < ws.length) && ts.all (keepP (butL ws.length (w : Int)))).map fun (w : Nat) => (w : Int)
theorem spareK_succ (ws : List Wd) (ts : List Tn) (k : Nat) : spareK ws ts (k + 1) = spareK ws ts k ++ (if (decide (1 < ws.length) && ts.all (keepP (butL ws.length (k : Int)))) = true then [(k : Int)] else []) := by
  unfold spareK
  rw [List.range_succ, List.filter_append, List.map_append]
  congr 1
  rw [List.filter_cons]
  split <;> simp
theorem spareK_len (ws : List Wd) (ts : List Tn) (k : Nat) : (spareK ws ts k).length ≤ k := by
  unfold spareK
  rw [List.length_map]
  exact Nat.le_trans (List.length_filter_le _ _) (by simp)
section
variable {N : Nat} {ws : List Wd} {ts : List Tn} {br_ : Int} (hN : 110 ≤ N) (hF : TFine ws ts br_)
include hN hF
theorem spare_l2_p {w : Nat} {u u2 : Int} {out : List Int} (hw : w < ws.length) : ∀ (n k : Nat), ws.length < n + k → k ≤ ws.length →
    spare_l2 N n (ws, ts, br_) w u u2 ws.length k out (wordsL 0 (min k w : Nat) ++ wordsL (w + 1) k) = some ((ws, ts, br_), (w : Int), u, u2, out, butL ws.length w)
  | 0, k, h, _ => by omega
  | n + 1, k, h, hk => by
    have hn := hF.n
    unfold spare_l2
    by_cases c : k < ws.length
    · have ih := spare_l2_p (u := u) (u2 := u2) (out := out) hw n (k + 1) (by omega) (by omega)
      have hj : ∀ O, O = wordsL 0 (min (k + 1) w : Nat) ++ wordsL (w + 1) ((k : Int) + 1) → spare_j1 N (spare_l2 N n) (ws, ts, br_) w u u2 ws.length k out O = some ((ws, ts, br_), (w : Int), u, u2, out, butL ws.length w) := by
        rintro O rfl
        rw [show ((k + 1 : Nat) : Int) = (k : Int) + 1 by omega] at ih
        unfold spare_j1
        rw [chk_eq (by omega), ih]
      rw [br_dec (by omega)]
      by_cases d : (k : Int) = w
      · rw [br_nd d, hj]
        rw [show min (k + 1) w = min k w by omega, wordsL_nil (a := (w : Int) + 1) (b := (k : Int)) (by omega), wordsL_nil (a := (w : Int) + 1) (b := (k : Int) + 1) (by omega)]
      · rw [br_nnd d, lim_eq (by simp [wordsL_len]; omega), hj]
        by_cases e : k < w
        · rw [show min (k + 1) w = k + 1 by omega, show min k w = k by omega, wordsL_nil (a := (w : Int) + 1) (b := (k : Int)) (by omega), wordsL_nil (a := (w : Int) + 1) (b := (k : Int) + 1) (by omega), show ((k + 1 : Nat) : Int) = (k : Int) + 1 by omega, wordsL_snoc (by omega)]; simp
        · rw [show min (k + 1) w = w by omega, show min k w = w by omega, wordsL_snoc (a := (w : Int) + 1) (b := (k : Int)) (by omega)]; simp
    · rw [br_ndec (by omega)]
      obtain rfl : k = ws.length := by omega
      rw [show min ws.length w = w by omega]; rfl
theorem spare_l1_p : ∀ (n k : Nat), ws.length < n + k → k ≤ ws.length → spare_l1 N n (ws, ts, br_) ws.length k (spareK ws ts k) = some (spareK ws ts ws.length)
  | 0, k, h, _ => by omega
  | n + 1, k, h, hk => by
    have hn := hF.n
    unfold spare_l1
    by_cases c : k < ws.length
    · have ih := spare_l1_p n (k + 1) (by omega) (by omega)
      have hlen := spareK_len ws ts k
      have hb := butL_len (m := ws.length) (w := k) (by omega)
      have e := spare_l2_p hN hF (w := k) (u := ws.length) (u2 := k) (out := spareK ws ts k) c N 0 (by omega) (by omega)
      have hj : ∀ O, O = spareK ws ts (k + 1) → spare_j2 N (spare_l1 N n) (ws, ts, br_) ws.length k O = some (spareK ws ts ws.length) := by
        rintro O rfl
        rw [show ((k + 1 : Nat) : Int) = (k : Int) + 1 by omega] at ih
        unfold spare_j2
        rw [chk_eq (by omega), ih]
      rw [show min 0 k = 0 by omega, Int.natCast_zero, wordsL_nil (by omega), wordsL_nil (by omega), List.append_nil] at e
      rw [br_dec (by omega)]
      simp only
      rw [e]
      simp only [Option.bind_some]
      have es := spareK_succ ws ts k
      by_cases d : 1 < ws.length
      · rw [br_dec (by omega), keeps_v hN hF (by omega)]
        simp only [Option.bind_some]
        rw [decide_eq_true d, Bool.true_and] at es
        cases hp : ts.all (keepP (butL ws.length k))
        · rw [hp] at es
          rw [br_false, hj _ (by rw [es]; simp)]
        · rw [hp] at es
          rw [br_true, lim_eq (by simp; omega), hj _ (by rw [es]; simp)]
      · rw [decide_eq_false d, Bool.false_and] at es
        rw [br_ndec (by omega), hj _ (by rw [es]; simp)]
    · obtain rfl : k = ws.length := by omega
      rw [br_ndec (by omega)]
omit hN hF
def spareR (ws : List Wd) (ts : List Tn) (br_ : Int) : List Int × Int := if checkT ws ts br_ ≠ 0 then ([], checkT ws ts br_) else (spareK ws ts ws.length, 0)
theorem spare_v (hN : 110 ≤ N) (hw : ws.length ≤ 1000000) (ht : ts.length ≤ 1000000) : spare_S N ws ts br_ = some (spareR ws ts br_) := by
  unfold spare_S spareR
  rw [opened_v (by omega) hw ht]
  by_cases c : checkT ws ts br_ = 0
  · have hF := tfine_of c
    have hn := hF.n
    have e := spare_l1_p hN hF N 0 (by omega) (by omega)
    rw [if_pos c, if_neg (by simpa using c)]
    simp only [Option.bind_some]
    rw [br_nd (by first | trivial | rfl)]
    rw [show spareK ws ts 0 = [] from rfl] at e
    simp only [Int.natCast_zero] at e
    rw [e]; rfl
  · rw [if_neg c, if_pos c]
    simp only [Option.bind_some]
    rw [br_nnd c]
theorem wordso_l1_p {a b : Int} (ha : -1000 ≤ a ∧ b ≤ 1000) : ∀ (n : Nat) (w : Int), (b - w).toNat < n → a ≤ w → w ≤ b → wordso_l1 N n b w (wordsL a w) = some (wordsL a b)
  | 0, w, h, _, _ => by omega
  | n + 1, w, h, h1, h2 => by
    unfold wordso_l1
    by_cases c : w < b
    · have ih := wordso_l1_p ha n (w + 1) (by omega) (by omega) (by omega)
      rw [wordsL_snoc h1] at ih
      rw [br_dec c, lim_eq (by simp [wordsL_len]; omega), chk_eq (by omega), ih]
    · rw [br_ndec c, show w = b by omega]
theorem wordso_v {a b : Int} (ha : -1000 ≤ a ∧ b ≤ 1000) (hab : a ≤ b) (hN : (b - a).toNat < N) : wordso_S N a b = some (wordsL a b) := by
  have e := wordso_l1_p (N := N) ha N a hN (by omega) hab
  rw [wordsL_nil (a := a) (b := a) (by omega)] at e
  unfold wordso_S
  rw [e]; rfl
include hN hF
theorem rspare_l1_p : ∀ (n k : Nat), ws.length < n + k → k ≤ ws.length → rspare_l1 N n k ws ts br_ (spareK ws ts k) = some (spareK ws ts ws.length)
  | 0, k, h, _ => by omega
  | n + 1, k, h, hk => by
    have hn := hF.n
    unfold rspare_l1
    by_cases c : k < ws.length
    · have ih := rspare_l1_p n (k + 1) (by omega) (by omega)
      have hlen := spareK_len ws ts k
      have hb := butL_len (m := ws.length) (w := k) (by omega)
      have hj : ∀ O, O = spareK ws ts (k + 1) → rspare_j1 N (rspare_l1 N n) k ws ts br_ O = some (spareK ws ts ws.length) := by
        rintro O rfl
        rw [show ((k + 1 : Nat) : Int) = (k : Int) + 1 by omega] at ih
        unfold rspare_j1
        rw [chk_eq (by omega), ih]
      have es := spareK_succ ws ts k
      rw [br_dec (by omega)]
      by_cases d : 1 < ws.length
      · obtain ⟨s, e1, _, e2⟩ := said_keep hN hF (l := butL ws.length k) (by omega)
        rw [br_dec (by omega), wordso_v (by omega) (by omega) (by omega)]
        simp only [Option.bind_some]
        rw [chk_eq (by omega), wordso_v (by omega) (by omega) (by omega)]
        simp only [Option.bind_some]
        unfold butL at e1
        rw [lim_eq (by rw [wordsL_len, wordsL_len]; omega), e1]
        simp only [Option.bind_some]
        rw [e2]
        rw [decide_eq_true d, Bool.true_and] at es
        cases hp : ts.all (keepP (butL ws.length k))
        · rw [hp] at es
          rw [br_false, hj _ (by rw [es]; simp)]
        · rw [hp] at es
          rw [br_true, lim_eq (by simp; omega), hj _ (by rw [es]; simp)]
      · rw [br_ndec (by omega)]
        have : ∀ j, spareK ws ts j = [] := fun j => by
          unfold spareK
          rw [decide_eq_false d]
          simp
        rw [this, this]
    · obtain rfl : k = ws.length := by omega
      rw [br_ndec (by omega)]
omit hN hF
theorem rspare_v (hN : 110 ≤ N) (hw : ws.length ≤ 1000000) (ht : ts.length ≤ 1000000) : rspare_S N ws ts br_ = some (spareR ws ts br_) := by
  unfold rspare_S spareR
  rw [rcheck_v (by omega) hw ht]
  simp only [Option.bind_some]
  by_cases c : checkT ws ts br_ = 0
  · have hF := tfine_of c
    have hn := hF.n
    have e := rspare_l1_p hN hF N 0 (by omega) (by omega)
    rw [show spareK ws ts 0 = [] from rfl] at e
    simp only [Int.natCast_zero] at e
    rw [br_nd c, if_neg (by simpa using c), e]; rfl
  · rw [br_nnd c, if_pos c]
end
end Go.Proofs.Ytfamlpbdhhikdaa

namespace Go.Proofs.Ytfamlpbdhhikdaa
set_option linter.all false
open Go

/-! ### Which list comes ahead -/
theorem bef_self : ∀ l : List Int, bef l l = false
  | [] => rfl
  | a :: l => by unfold bef; rw [if_pos rfl, bef_self l]
theorem bef_total : ∀ {a b : List Int}, a.length = b.length → bef a b = false → bef b a = false → a = b
  | [], [], _, _, _ => rfl
  | [], _ :: _, h, _, _ => by simp at h
  | _ :: _, [], h, _, _ => by simp at h
  | x :: a, y :: b, h, h1, h2 => by
    unfold bef at h1 h2
    by_cases e : x = y
    · subst e
      rw [if_pos rfl] at h1 h2
      rw [bef_total (by simpa using h) h1 h2]
    · rw [if_neg e, decide_eq_false_iff_not] at h1
      rw [if_neg (Ne.symm e), decide_eq_false_iff_not] at h2
      omega
theorem bef_trans : ∀ {a b c : List Int}, bef a b = true → bef b c = true → bef a c = true
  | [], _, _, h, _ => by simp [bef] at h
  | _ :: _, [], _, h, _ => by simp [bef] at h
  | _ :: _, _ :: _, [], _, h => by simp [bef] at h
  | x :: a, y :: b, z :: c, h1, h2 => by
    unfold bef at h1 h2 ⊢
    by_cases e : x = y
    · subst e
      rw [if_pos rfl] at h1
      by_cases e2 : x = z
      · subst e2
        rw [if_pos rfl] at h2 ⊢
        exact bef_trans h1 h2
      · rw [if_neg e2] at h2 ⊢; exact h2
    · rw [if_neg e, decide_eq_true_eq] at h1
      by_cases e2 : y = z
      · subst e2
        rw [if_neg e, decide_eq_true_eq]; exact h1
      · rw [if_neg e2, decide_eq_true_eq] at h2
        rw [if_neg (by omega), decide_eq_true_eq]; omega
def prec (a b : List Int) : Prop := a.length < b.length ∨ a.length = b.length ∧ bef a b = true
theorem prec_trans {a b c : List Int} : prec a b → prec b c → prec a c := by
  rintro (h | ⟨h, h2⟩) (g | ⟨g, g2⟩)
  · exact .inl (by omega)
  · exact .inl (by omega)
  · exact .inl (by omega)
  · exact .inr ⟨by omega, bef_trans h2 g2⟩
theorem prec_self (l : List Int) : ¬ prec l l := by
  rintro (h | ⟨_, h⟩)
  · omega
  · rw [bef_self] at h; cases h
theorem leastW_uniq {m : Int} {P : List Int → Bool} {a b : List Int} (ha : LeastW m P a) (hb : LeastW m P b) : a = b := by
  obtain ⟨a1, a2, a3, a4⟩ := ha
  obtain ⟨b1, b2, b3, b4⟩ := hb
  rcases a4 b b1 b2 b3 with h | ⟨h, h2⟩ <;> rcases b4 a a1 a2 a3 with g | ⟨g, g2⟩
  · omega
  · omega
  · omega
  · exact bef_total h g2 h2
/-! ### Lists that numbers say -/
def lst : Nat → Int → Nat → List Int
  | 0, _, _ => []
  | k + 1, w, n => (if n % 2 = 1 then [w] else []) ++ lst k (w + 1) (n / 2)
theorem lst_zero : ∀ (k : Nat) (w : Int), lst k w 0 = []
  | 0, _ => rfl
  | k + 1, w => by unfold lst; rw [if_neg (by decide), List.nil_append, Nat.zero_div, lst_zero k]
theorem lst_len : ∀ (k : Nat) (w : Int) (n : Nat), (lst k w n).length ≤ k
  | 0, _, _ => by simp [lst]
  | k + 1, w, n => by
    have := lst_len k (w + 1) (n / 2)
    unfold lst
    rw [List.length_append]
    split <;> simp <;> omega
theorem lst_ok : ∀ (k : Nat) (w : Int) (n : Nat), okC (w + k) w (lst k w n)
  | 0, _, _ => trivial
  | k + 1, w, n => by
    have := lst_ok k (w + 1) (n / 2)
    rw [show w + 1 + (k : Int) = w + ((k + 1 : Nat) : Int) by omega] at this
    unfold lst
    split
    · exact ⟨by omega, this⟩
    · exact okC_mono (by omega) this
theorem lst_all : ∀ (k : Nat) (w : Int) (c : List Int), okC (w + k) w c → ∃ n, n < 2 ^ k ∧ lst k w n = c
  | 0, w, c, h => by
    cases c with
    | nil => exact ⟨0, by decide, rfl⟩
    | cons a r => have := h.1; omega
  | k + 1, w, c, h => by
    have hp : 2 ^ (k + 1) = 2 * 2 ^ k := by rw [Nat.pow_succ]; omega
    have e : w + ((k + 1 : Nat) : Int) = w + 1 + (k : Int) := by omega
    rw [e] at h
    by_cases d : ∃ r, c = w :: r
    · obtain ⟨r, rfl⟩ := d
      obtain ⟨n, h1, h2⟩ := lst_all k (w + 1) r h.2
      refine ⟨2 * n + 1, by omega, ?_⟩
      unfold lst
      rw [if_pos (by omega), show (2 * n + 1) / 2 = n by omega, h2]; rfl
    · have h' : okC (w + 1 + (k : Int)) (w + 1) c := by
        cases c with
        | nil => trivial
        | cons a r =>
          have : a ≠ w := fun ha => d ⟨r, by rw [ha]⟩
          obtain ⟨⟨h1, h2⟩, h3⟩ := h
          exact ⟨⟨by omega, h2⟩, h3⟩
      obtain ⟨n, h1, h2⟩ := lst_all k (w + 1) c h'
      refine ⟨2 * n, by omega, ?_⟩
      unfold lst
      rw [if_neg (by omega), show (2 * n) / 2 = n by omega, h2]; rfl
theorem lst_ne {k : Nat} {w : Int} {n : Nat} (h : n < 2 ^ k) (h0 : n ≠ 0) : lst k w n ≠ [] := by
  induction k generalizing w n with
  | zero => simp at h; omega
  | succ k ih =>
    have hp : 2 ^ (k + 1) = 2 * 2 ^ k := by rw [Nat.pow_succ]; omega
    unfold lst
    split
    · simp
    · rw [List.nil_append]
      exact ih (by omega) (by omega)
section
variable {N : Nat} {ws : List Wd} {ts : List Tn} {br_ : Int}
theorem list_l1_p : ∀ (k f n : Nat) (w : Int) (out : List Int), n < 2 ^ k → k < f → k ≤ 20 → 0 ≤ w ∧ w + k ≤ 1000 → out.length + k ≤ 1000 → list__l1 N f n w out = some (out ++ lst k w n)
  | _, 0, _, _, _, _, h, _, _, _ => by omega
  | 0, f + 1, n, w, out, h, _, _, _, _ => by
    have : n = 0 := by simpa using h
    subst this
    unfold list__l1
    rw [br_ndec (by simp)]; simp [lst]
  | k + 1, f + 1, n, w, out, h, h1, h2, h3, h4 => by
    have hp : 2 ^ (k + 1) = 2 * 2 ^ k := by rw [Nat.pow_succ]; omega
    have hp2 : 2 ^ k ≤ 2 ^ 20 := Nat.pow_le_pow_right (by decide) (by omega)
    unfold list__l1
    by_cases c : 0 < n
    · have hj : ∀ O : List Int, O.length + k ≤ 1000 → list__j1 N (list__l1 N f) n w O = some (O ++ lst k (w + 1) (n / 2)) := by
        intro O hO
        have ih := list_l1_p k f (n / 2) (w + 1) O (by omega) (by omega) (by omega) (by omega) hO
        unfold list__j1
        rw [chk_eq (by omega), Int.tdiv_eq_ediv_of_nonneg (by omega), IntWalk.i64_in _ (by omega)]
        rw [show (n : Int) / 2 = ((n / 2 : Nat) : Int) by omega, ih]
      rw [br_dec (by omega), Int.tmod_eq_emod_of_nonneg (by omega)]
      unfold lst
      by_cases d : n % 2 = 1
      · rw [br_dec (by omega), lim_eq (by simp; omega), hj _ (by simp; omega), if_pos d]; simp
      · rw [br_ndec (by omega), hj _ (by omega), if_neg d]; simp
    · obtain rfl : n = 0 := by omega
      rw [br_ndec (by simp), lst_zero]; simp
theorem list_v {k n : Nat} (h : n < 2 ^ k) (hk : k ≤ 20) (hN : k < N) : list__S N n = some (lst k 0 n) := by
  unfold list__S
  rw [list_l1_p k N n 0 [] h hN hk (by omega) (by simp; omega)]; rfl
theorem lists_l1_p (hw : ws.length ≤ 12) : ∀ (f i : Nat), ws.length < f + i → i ≤ ws.length → lists_l1 N f ((2 ^ i : Nat) : Int) i ws ts br_ = some ((2 ^ ws.length : Nat) : Int)
  | 0, i, h, _ => by omega
  | f + 1, i, h, hi => by
    unfold lists_l1
    by_cases c : i < ws.length
    · have ih := lists_l1_p hw f (i + 1) (by omega) (by omega)
      have hp : 2 ^ (i + 1) = 2 * 2 ^ i := by rw [Nat.pow_succ]; omega
      have hp2 : 2 ^ i ≤ 2 ^ 12 := Nat.pow_le_pow_right (by decide) (by omega)
      rw [show (2 : Int) * ((2 ^ i : Nat) : Int) = ((2 ^ (i + 1) : Nat) : Int) by rw [hp]; omega, br_dec (by omega), chk_eq (by omega), chk_eq (by omega)]
      rw [show ((i + 1 : Nat) : Int) = (i : Int) + 1 by omega] at ih
      exact ih
    · obtain rfl : i = ws.length := by omega
      rw [br_ndec (by omega)]
theorem lists_v (hw : ws.length ≤ 12) (hN : 110 ≤ N) : lists_S N ws ts br_ = some ((2 ^ ws.length : Nat) : Int) := by
  have e := lists_l1_p (N := N) (ts := ts) (br_ := br_) hw N 0 (by omega) (by omega)
  simp only [Int.natCast_zero, Nat.pow_zero, Int.natCast_one] at e
  unfold lists_S
  rw [e]; rfl
theorem before_l1_p {a b : List Int} (hab : a.length = b.length) (ha : a.length ≤ 1000) : ∀ (n k : Nat), a.length < n + k → k ≤ a.length → ∃ r, before_l1 N n a b k = some r ∧ match r with
    | .inl x => x.1 = a ∧ x.2.1 = b ∧ ∃ j : Nat, x.2.2 = j ∧ j < a.length ∧ bef (a.drop k) (b.drop k) = decide (a.getD j 0 < b.getD j 0)
    | .inr _ => bef (a.drop k) (b.drop k) = false
  | 0, k, h, _ => by omega
  | n + 1, k, h, hk => by
    unfold before_l1
    by_cases c : k < a.length
    · have g1 := gets c 0
      have g2 := gets (l := b) (k := k) (by omega) 0
      rw [br_dec (by omega), idx_eq (by omega) g1, idx_eq (by omega) g2, drop_cons c 0, drop_cons (l := b) (k := k) (by omega) 0]
      unfold bef
      by_cases d : a.getD k 0 = b.getD k 0
      · obtain ⟨r, e, hr⟩ := before_l1_p hab ha n (k + 1) (by omega) (by omega)
        rw [show ((k + 1 : Nat) : Int) = (k : Int) + 1 by omega] at e
        rw [br_nd d, chk_eq (by omega), e, if_pos d]
        exact ⟨r, rfl, hr⟩
      · rw [br_nnd d, if_neg d]
        exact ⟨_, rfl, rfl, rfl, k, rfl, c, rfl⟩
    · rw [br_ndec (by omega), List.drop_of_length_le (by omega)]
      exact ⟨_, rfl, rfl⟩
theorem before_v {a b : List Int} (hab : a.length = b.length) (ha : a.length ≤ 1000) (hN : a.length < N) : before_S N a b = some (bef a b) := by
  obtain ⟨r, e, hr⟩ := before_l1_p (N := N) hab ha N 0 (by omega) (by omega)
  simp only [Int.natCast_zero] at e
  unfold before_S
  rw [e]
  simp only [Option.bind_some]
  cases r with
  | inl x =>
    obtain ⟨x1, x2, x3⟩ := x
    obtain ⟨rfl, rfl, j, rfl, hj, e2⟩ := hr
    simp only [List.drop_zero] at e2
    simp only
    have hab' : x1.length = x2.length := hab
    have hj' : j < x1.length := hj
    have e2' : bef x1 x2 = decide (x1.getD j 0 < x2.getD j 0) := e2
    rw [idx_eq (by omega) (gets hj' 0), idx_eq (by omega) (gets (l := x2) (k := j) (by omega) 0), e2']
  | inr u =>
    simp only [List.drop_zero] at hr
    rw [hr]
/-- The best of the lists that were looked at. -/
def BestI (m : Nat) (P : List Int → Bool) (k : Nat) (best : List Int) : Prop :=
  best = [] ∧ (∀ i, 1 ≤ i → i < k → P (lst m 0 i) = false) ∨ (okC m 0 best ∧ best ≠ [] ∧ P best = true) ∧ ∀ i, 1 ≤ i → i < k → P (lst m 0 i) = true → ¬ prec (lst m 0 i) best
theorem BestI.skip {m : Nat} {P : List Int → Bool} {k : Nat} {best : List Int} (h : BestI m P k best) (hp : P (lst m 0 k) = false) : BestI m P (k + 1) best := by
  rcases h with ⟨h1, h2⟩ | ⟨h1, h2⟩
  · refine .inl ⟨h1, fun i a b => ?_⟩
    by_cases e : i = k
    · rw [e]; exact hp
    · exact h2 i a (by omega)
  · refine .inr ⟨h1, fun i a b c => ?_⟩
    by_cases e : i = k
    · rw [e, hp] at c; cases c
    · exact h2 i a (by omega) c
theorem BestI.keep {m : Nat} {P : List Int → Bool} {k : Nat} {best : List Int} (h : BestI m P k best) (hb : best ≠ []) (hp : ¬ prec (lst m 0 k) best) : BestI m P (k + 1) best := by
  rcases h with ⟨h1, h2⟩ | ⟨h1, h2⟩
  · exact absurd h1 hb
  · refine .inr ⟨h1, fun i a b c => ?_⟩
    by_cases e : i = k
    · rw [e]; exact hp
    · exact h2 i a (by omega) c
theorem BestI.take {m : Nat} {P : List Int → Bool} {k : Nat} {best : List Int} (h : BestI m P k best) (hk : 1 ≤ k ∧ k < 2 ^ m) (hp : P (lst m 0 k) = true) (hb : best = [] ∨ prec (lst m 0 k) best) : BestI m P (k + 1) (lst m 0 k) := by
  have ho := lst_ok m 0 k
  rw [Int.zero_add] at ho
  refine .inr ⟨⟨ho, lst_ne hk.2 (by omega), hp⟩, fun i a b c => ?_⟩
  by_cases e : i = k
  · rw [e]; exact prec_self _
  · rcases h with ⟨h1, h2⟩ | ⟨h1, h2⟩
    · rw [h2 i a (by omega)] at c; cases c
    · rcases hb with hb | hb
      · exact absurd hb h1.2.1
      · exact fun hpr => h2 i a (by omega) c (prec_trans hpr hb)
theorem BestI.done {m : Nat} {P : List Int → Bool} {best : List Int} (h : BestI m P (2 ^ m) best) : best ≠ [] ∧ LeastW m P best ∨ best = [] ∧ ∀ c, okC m 0 c → c ≠ [] → P c = false := by
  have key : ∀ c, okC (m : Int) 0 c → c ≠ [] → ∃ i, 1 ≤ i ∧ i < 2 ^ m ∧ lst m 0 i = c := by
    intro c hc hn
    obtain ⟨n, h1, h2⟩ := lst_all m 0 c (by rw [Int.zero_add]; exact hc)
    refine ⟨n, ?_, h1, h2⟩
    rcases Nat.eq_zero_or_pos n with e | e
    · subst e; rw [lst_zero] at h2; exact absurd h2.symm hn
    · exact e
  rcases h with ⟨h1, h2⟩ | ⟨⟨h1, h3, h4⟩, h2⟩
  · refine .inr ⟨h1, fun c hc hn => ?_⟩
    obtain ⟨i, a, b, rfl⟩ := key c hc hn
    exact h2 i a b
  · refine .inl ⟨h3, h1, h3, h4, fun c hc hn hp => ?_⟩
    obtain ⟨i, a, b, rfl⟩ := key c hc hn
    have := h2 i a b hp
    unfold prec at this
    rcases Nat.lt_trichotomy best.length (lst m 0 i).length with e | e | e
    · exact .inl e
    · refine .inr ⟨e, ?_⟩
      cases hb : bef (lst m 0 i) best
      · rfl
      · exact absurd (.inr ⟨e.symm, hb⟩) this
    · exact absurd (.inl e) this
variable (hN : 110 ≤ N) (hF : TFine ws ts br_)
include hN hF
theorem rleast_l1_p {wt : Int} : ∀ (n k : Nat) (best : List Int), 2 ^ ws.length < n + k → 1 ≤ k → k ≤ 2 ^ ws.length → BestI ws.length (goodP ws ts wt) k best → best.length ≤ 20 →
    ∃ b, rleast_l1 N n wt best k ws ts br_ = some b ∧ b.length ≤ 20 ∧ BestI ws.length (goodP ws ts wt) (2 ^ ws.length) b
  | 0, k, best, h, _, _, _, _ => by omega
  | n + 1, k, best, h, hk, hk2, hb, hbl => by
    have hn := hF.n
    have hp2 : 2 ^ ws.length ≤ 2 ^ 12 := Nat.pow_le_pow_right (by decide) (by omega)
    unfold rleast_l1
    rw [lists_v (by omega) hN]
    simp only [Option.bind_some]
    by_cases c : k < 2 ^ ws.length
    · have hll := lst_len ws.length 0 k
      have hlo := lst_ok ws.length 0 k
      rw [Int.zero_add] at hlo
      have hlm := okC_mem hlo
      have hj : ∀ best' : List Int, BestI ws.length (goodP ws ts wt) (k + 1) best' → best'.length ≤ 20 → ∃ b, rleast_j1 N (rleast_l1 N n) wt best' k ws ts br_ = some b ∧ b.length ≤ 20 ∧ BestI ws.length (goodP ws ts wt) (2 ^ ws.length) b := by
        intro best' h1 h2
        obtain ⟨b, e, hb⟩ := rleast_l1_p (wt := wt) n (k + 1) best' (by omega) (by omega) (by omega) h1 h2
        rw [show ((k + 1 : Nat) : Int) = (k : Int) + 1 by omega] at e
        unfold rleast_j1
        rw [chk_eq (by omega), e]
        exact ⟨b, rfl, hb⟩
      obtain ⟨s, e1, _, e2⟩ := said_keep hN hF (l := lst ws.length 0 k) (by omega)
      rw [br_dec (by omega), list_v c (by omega) (by omega)]
      simp only [Option.bind_some]
      rw [e1]
      simp only [Option.bind_some]
      cases hp : ts.all (keepP (lst ws.length 0 k))
      · rw [hp, decide_eq_false_iff_not] at e2
        rw [br_dec (by omega)]
        exact hj best (hb.skip (by unfold goodP; rw [hp, Bool.and_false])) hbl
      rw [hp, decide_eq_true_eq] at e2
      rw [br_ndec (by omega), rweight_v hF (by omega) hN hlm]
      simp only [Option.bind_some]
      by_cases d : wtR ws (lst ws.length 0 k) < wt
      · rw [br_dec d]
        exact hj best (hb.skip (by unfold goodP; rw [decide_eq_false (by omega), Bool.false_and])) hbl
      have hg : goodP ws ts wt (lst ws.length 0 k) = true := by unfold goodP; rw [hp, decide_eq_true (by omega)]; rfl
      rw [br_ndec d]
      by_cases d1 : (best.length : Int) = 0
      · rw [br_dec d1]
        exact hj _ (hb.take ⟨hk, c⟩ hg (.inl (List.eq_nil_of_length_eq_zero (by omega)))) (by omega)
      have hbn : best ≠ [] := by intro e; subst e; simp at d1
      rw [br_ndec d1]
      by_cases d2 : ((lst ws.length 0 k).length : Int) < (best.length : Int)
      · rw [br_dec d2]
        exact hj _ (hb.take ⟨hk, c⟩ hg (.inr (.inl (by omega)))) (by omega)
      rw [br_ndec d2]
      by_cases d3 : ((lst ws.length 0 k).length : Int) = (best.length : Int)
      · rw [br_dec d3, before_v (by omega) (by omega) (by omega)]
        simp only [Option.bind_some]
        cases hbf : bef (lst ws.length 0 k) best
        · rw [br_false]
          refine hj _ (hb.keep hbn ?_) hbl
          rintro (h | ⟨_, h⟩)
          · omega
          · rw [hbf] at h; cases h
        · rw [br_true]
          exact hj _ (hb.take ⟨hk, c⟩ hg (.inr (.inr ⟨by omega, hbf⟩))) (by omega)
      · rw [br_ndec d3]
        refine hj _ (hb.keep hbn ?_) hbl
        rintro (h | ⟨h, _⟩) <;> omega
    · obtain rfl : k = 2 ^ ws.length := by omega
      rw [br_ndec (by omega)]
      exact ⟨best, rfl, hbl, hb⟩
omit hN hF
theorem rleast_v (hN : 110 ≤ N) (hw : ws.length ≤ 1000000) (ht : ts.length ≤ 1000000) {wt : Int} (hp : checkT ws ts br_ = 0 → 2 ^ ws.length < N) : ∃ l e, rleast_S N ws ts br_ wt = some (l, e) ∧ LeastQ ws ts br_ wt l e := by
  unfold rleast_S
  rw [rcheck_v (by omega) hw ht]
  simp only [Option.bind_some]
  by_cases c : checkT ws ts br_ = 0
  · have hF := tfine_of c
    have hn := hF.n
    have hpos : 1 ≤ 2 ^ ws.length := Nat.one_le_two_pow
    have hq : ∀ l e, LeastQ ws ts br_ wt l e ↔ (if wt < 0 then l = [] ∧ e = 3 else e = 0 ∧ LeastW ws.length (goodP ws ts wt) l ∨ (e = 6 ∧ l = []) ∧ ∀ c, okC ws.length 0 c → c ≠ [] → goodP ws ts wt c = false) := fun l e => by
      unfold LeastQ
      rw [if_neg (by simpa using c)]
    simp only [hq]
    rw [br_nd c]
    by_cases d : wt < 0
    · rw [br_dec d]
      simp only [if_pos d]
      exact ⟨_, _, rfl, rfl, rfl⟩
    · rw [br_ndec d]
      simp only [if_neg d]
      have := hp c
      obtain ⟨b, e, hb1, hb⟩ := rleast_l1_p hN hF (wt := wt) N 1 [] (by omega) (by omega) hpos (.inl ⟨rfl, fun i a b => by omega⟩) (by simp)
      simp only [Int.natCast_one] at e
      rw [e]
      simp only [Option.bind_some]
      rcases hb.done with ⟨h1, h2⟩ | ⟨h1, h2⟩
      · rw [br_ndec (by intro h0; exact h1 (List.eq_nil_of_length_eq_zero (by omega)))]
        exact ⟨_, _, rfl, .inl ⟨rfl, h2⟩⟩
      · subst h1
        rw [br_dec (by simp)]
        exact ⟨_, _, rfl, .inr ⟨⟨rfl, rfl⟩, h2⟩⟩
  · rw [br_nnd c]
    refine ⟨_, _, rfl, ?_⟩
    unfold LeastQ
    rw [if_pos c]
    exact ⟨rfl, rfl⟩
end
theorem spareR_len (ws : List Wd) (ts : List Tn) (br_ : Int) : (spareR ws ts br_).1.length ≤ ws.length := by
  unfold spareR
  split
  · simp
  · exact spareK_len ws ts _
theorem tleast_true {ws : List Wd} {ts : List Tn} {br_ wt : Int} (h0 : Ty.inB TextT (ws, ts, br_)) (h1 : Ty.inB (.int .i64) wt) : tleast_S 1100 ws ts br_ wt = some true := by
  unfold tleast_S
  have aw : ((awake_S 1100).bind fun x => some x) = some true := by rw [awake_v]; rfl
  rcases great_v (N := 1100) (ws := ws) (ts := ts) (br_ := br_) 10 with e | ⟨e, hw, ht, h10⟩ <;> rw [e] <;> simp only [Option.bind_some]
  · rw [br_true]; exact aw
  rw [br_false, copyx_v (by omega) (by omega)]
  simp only [Option.bind_some]
  rw [theirs_v (by omega) (by omega) (by omega) (by omega)]
  simp only [Option.bind_some]
  obtain ⟨l, e1, q1, r1⟩ := least_v (N := 1100) (ws := ws) (ts := ts) (br_ := br_) (wt := wt) (by omega) (by omega) (by omega)
  obtain ⟨l2, e2, q2, r2⟩ := rleast_v (N := 1100) (ws := ws) (ts := ts) (br_ := br_) (wt := wt) (by omega) (by omega) (by omega) (fun c => by
    have := (tfine_of c).n
    have hp2 : 2 ^ ws.length ≤ 2 ^ 10 := Nat.pow_le_pow_right (by decide) (by omega)
    omega)
  have key : l2 = l ∧ e2 = e1 ∧ l.length ≤ 100 := by
    unfold LeastQ at r1 r2
    split at r1
    · rename_i c
      rw [if_pos c] at r2
      rw [r1.1, r1.2, r2.1, r2.2]; exact ⟨rfl, rfl, by simp⟩
    rename_i c
    have hn := (tfine_of (by simpa using c)).n
    rw [if_neg c] at r2
    split at r1
    · rename_i d
      rw [if_pos d] at r2
      rw [r1.1, r1.2, r2.1, r2.2]; exact ⟨rfl, rfl, by simp⟩
    rename_i d
    rw [if_neg d] at r2
    rcases r1 with ⟨a1, a2⟩ | ⟨⟨a1, a2⟩, a3⟩ <;> rcases r2 with ⟨b1, b2⟩ | ⟨⟨b1, b2⟩, b3⟩
    · refine ⟨leastW_uniq b2 a2, by omega, ?_⟩
      have := okC_len a2.1 a2.2.1
      omega
    · have := b3 l a2.1 a2.2.1
      rw [a2.2.2.1] at this; cases this
    · have := a3 l2 b2.1 b2.2.1
      rw [b2.2.2.1] at this; cases this
    · rw [a1, a2, b1, b2]; exact ⟨rfl, rfl, by simp⟩
  obtain ⟨k1, k2, k3⟩ := key
  subst k1; subst k2
  have hsl := spareR_len ws ts br_
  rw [q1]
  simp only [Option.bind_some]
  rw [q2]
  simp only [Option.bind_some]
  rw [br_nd (by first | trivial | rfl), likei_v (by omega) (by omega)]
  simp only [Option.bind_some]
  rw [Bool.not_true, br_false, spare_v (by omega) (by omega) (by omega), rspare_v (by omega) (by omega) (by omega)]
  simp only [Option.bind_some]
  rw [br_dec (by first | trivial | rfl), likei_v (by omega) (by omega)]
  simp only [Option.bind_some]
  rw [br_true, same_v (by omega) (by omega) (by omega) (by omega)]
  simp only [Option.bind_some]
  rw [br_true]; exact aw
end Go.Proofs.Ytfamlpbdhhikdaa

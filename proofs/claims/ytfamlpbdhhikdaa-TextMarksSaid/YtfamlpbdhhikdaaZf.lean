/-
  Parts of a proof, put together: X3, TAw, TP2, TP3, TP4, TP5, TD1, TD2, TD3, TD4, TD5, X4.
  Conditions: none.
-/
import Derived.Test.YtfamlpbdhhikdaaZe
namespace Go.Proofs.Ytfamlpbdhhikdaa
set_option linter.all false
open Go

def copyi_S (N : Nat) (l : List Int) : Option (List Int) :=
  grd (lmI (l.length : Int)) <|
  some (l.take (min l.length (List.replicate (l.length : Int).toNat (0 : Int)).length) ++ (List.replicate (l.length : Int).toNat (0 : Int)).drop (min l.length (List.replicate (l.length : Int).toNat (0 : Int)).length))
noncomputable def copyi_sp (N : Nat) : List Spec := []
theorem copyi_all (N : Nat) : AllP (SpecOK Try.prog) (copyi_sp N) := trivial
noncomputable def copyi_c : Code := (Try.f32.body).getD .skip
noncomputable abbrev copyi_B : Body := { c := copyi_c, n := 11, res := [.tmp 2], outs := [⟨[.sl (.int .i64)], []⟩], m0 := 0 }
abbrev copyi_rt : altD copyi_B.outs → Option (List Int) := fun r => some r.1.1
abbrev copyi_st : Sta := ⟨[0], ⟨[.sl (.int .i64)], []⟩⟩
theorem copyi_eq (N : Nat) (l : List Int) : ev (Z := List Int) Try.prog (copyi_sp N) copyi_B [] [] (some copyi_rt) 400 false [.c [0], .c [1]] (stL copyi_st ((l, ()), ())) (stH copyi_st ((l, ()), ())) = copyi_S N l := by kernel_rfl
noncomputable def sp_copyi (N : Nat) : Spec := { f := 32, ins := ⟨[.sl (.int .i64)], []⟩, outs := [⟨[.sl (.int .i64)], []⟩], run := fun p k => (copyi_S N p.1.1).bind fun r => k ((r, ()), ()) }
theorem sp_copyi_ok (N : Nat) : SpecOK Try.prog (sp_copyi N) := fn_sound (B := copyi_B) (loops := []) (leaves := []) (fun p => copyi_S N p.1.1) (fun r => ((r, ()), ())) copyi_rt (fun _ _ _ => rfl) (fun r z h => by cases h; rfl) Try.func32 (by kernel_rfl) (by kernel_rfl) (by kernel_rfl) rfl rfl (by kernel_rfl) (fun args w => Sem.pv_run _ _ _ (by kernel_rfl) w) (copyi_all N) mixed trivial (fun z E Xc hE hX hret => trivial) (fun p => copyi_eq N p.1.1)

def copyw_S (N : Nat) (l : List (Int × (Int × Bool))) : Option (List (Int × (Int × Bool))) :=
  grd (lmI (l.length : Int)) <|
  some (l.take (min l.length (List.replicate (l.length : Int).toNat ((0, (0, false)) : (Int × (Int × Bool)))).length) ++ (List.replicate (l.length : Int).toNat ((0, (0, false)) : (Int × (Int × Bool)))).drop (min l.length (List.replicate (l.length : Int).toNat ((0, (0, false)) : (Int × (Int × Bool)))).length))
noncomputable def copyw_sp (N : Nat) : List Spec := []
theorem copyw_all (N : Nat) : AllP (SpecOK Try.prog) (copyw_sp N) := trivial
noncomputable def copyw_c : Code := (Try.f84.body).getD .skip
noncomputable abbrev copyw_B : Body := { c := copyw_c, n := 11, res := [.tmp 2], outs := [⟨[.sl (.pair (.int .i64) (.pair (.int .i64) .bool))], []⟩], m0 := 0 }
abbrev copyw_rt : altD copyw_B.outs → Option (List (Int × (Int × Bool))) := fun r => some r.1.1
abbrev copyw_st : Sta := ⟨[0], ⟨[.sl (.pair (.int .i64) (.pair (.int .i64) .bool))], []⟩⟩
theorem copyw_eq (N : Nat) (l : List (Int × (Int × Bool))) : ev (Z := (List (Int × (Int × Bool)))) Try.prog (copyw_sp N) copyw_B [] [] (some copyw_rt) 400 false [.c [0], .c [1]] (stL copyw_st ((l, ()), ())) (stH copyw_st ((l, ()), ())) = copyw_S N l := by kernel_rfl
noncomputable def sp_copyw (N : Nat) : Spec := { f := 84, ins := ⟨[.sl (.pair (.int .i64) (.pair (.int .i64) .bool))], []⟩, outs := [⟨[.sl (.pair (.int .i64) (.pair (.int .i64) .bool))], []⟩], run := fun p k => (copyw_S N p.1.1).bind fun r => k ((r, ()), ()) }
theorem sp_copyw_ok (N : Nat) : SpecOK Try.prog (sp_copyw N) := fn_sound (B := copyw_B) (loops := []) (leaves := []) (fun p => copyw_S N p.1.1) (fun r => ((r, ()), ())) copyw_rt (fun _ _ _ => rfl) (fun r z h => by cases h; rfl) Try.func84 (by kernel_rfl) (by kernel_rfl) (by kernel_rfl) rfl rfl (by kernel_rfl) (fun args w => Sem.pv_run _ _ _ (by kernel_rfl) w) (copyw_all N) mixed trivial (fun z E Xc hE hX hret => trivial) (fun p => copyw_eq N p.1.1)

def copyt_S (N : Nat) (l : List (Int × (Int × Int))) : Option (List (Int × (Int × Int))) :=
  grd (lmI (l.length : Int)) <|
  some (l.take (min l.length (List.replicate (l.length : Int).toNat ((0, (0, 0)) : (Int × (Int × Int)))).length) ++ (List.replicate (l.length : Int).toNat ((0, (0, 0)) : (Int × (Int × Int)))).drop (min l.length (List.replicate (l.length : Int).toNat ((0, (0, 0)) : (Int × (Int × Int)))).length))
noncomputable def copyt_sp (N : Nat) : List Spec := []
theorem copyt_all (N : Nat) : AllP (SpecOK Try.prog) (copyt_sp N) := trivial
noncomputable def copyt_c : Code := (Try.f85.body).getD .skip
noncomputable abbrev copyt_B : Body := { c := copyt_c, n := 11, res := [.tmp 2], outs := [⟨[.sl (.pair (.int .i64) (.pair (.int .i64) (.int .i64)))], []⟩], m0 := 0 }
abbrev copyt_rt : altD copyt_B.outs → Option (List (Int × (Int × Int))) := fun r => some r.1.1
abbrev copyt_st : Sta := ⟨[0], ⟨[.sl (.pair (.int .i64) (.pair (.int .i64) (.int .i64)))], []⟩⟩
theorem copyt_eq (N : Nat) (l : List (Int × (Int × Int))) : ev (Z := (List (Int × (Int × Int)))) Try.prog (copyt_sp N) copyt_B [] [] (some copyt_rt) 400 false [.c [0], .c [1]] (stL copyt_st ((l, ()), ())) (stH copyt_st ((l, ()), ())) = copyt_S N l := by kernel_rfl
noncomputable def sp_copyt (N : Nat) : Spec := { f := 85, ins := ⟨[.sl (.pair (.int .i64) (.pair (.int .i64) (.int .i64)))], []⟩, outs := [⟨[.sl (.pair (.int .i64) (.pair (.int .i64) (.int .i64)))], []⟩], run := fun p k => (copyt_S N p.1.1).bind fun r => k ((r, ()), ()) }
theorem sp_copyt_ok (N : Nat) : SpecOK Try.prog (sp_copyt N) := fn_sound (B := copyt_B) (loops := []) (leaves := []) (fun p => copyt_S N p.1.1) (fun r => ((r, ()), ())) copyt_rt (fun _ _ _ => rfl) (fun r z h => by cases h; rfl) Try.func85 (by kernel_rfl) (by kernel_rfl) (by kernel_rfl) rfl rfl (by kernel_rfl) (fun args w => Sem.pv_run _ _ _ (by kernel_rfl) w) (copyt_all N) mixed trivial (fun z E Xc hE hX hret => trivial) (fun p => copyt_eq N p.1.1)

def copyx_S (N : Nat) (t : List (Int × (Int × Bool))) (t2 : List (Int × (Int × Int))) (t3 : Int) : Option ((List (Int × (Int × Bool))) × (List (Int × (Int × Int))) × Int) :=
  (copyw_S N t).bind fun x_1 =>
  (copyt_S N t2).bind fun x_2 =>
  some (x_1, x_2, t3)
noncomputable def copyx_sp (N : Nat) : List Spec := [sp_copyw N, sp_copyt N]
theorem copyx_all (N : Nat) : AllP (SpecOK Try.prog) (copyx_sp N) := ⟨sp_copyw_ok N, sp_copyt_ok N, trivial⟩
noncomputable def copyx_c : Code := (Try.f20.body).getD .skip
noncomputable abbrev copyx_B : Body := { c := copyx_c, n := 12, res := [.cell 2 25], outs := [⟨[.agg [.sl (.pair (.int .i64) (.pair (.int .i64) .bool)), .sl (.pair (.int .i64) (.pair (.int .i64) (.int .i64))), .i .i64]], []⟩], m0 := 0 }
abbrev copyx_rt : altD copyx_B.outs → Option ((List (Int × (Int × Bool))) × (List (Int × (Int × Int))) × Int) := fun r => some (r.1.1.1, r.1.1.2.1, r.1.1.2.2.1)
abbrev copyx_st : Sta := ⟨[0], ⟨[.agg [.sl (.pair (.int .i64) (.pair (.int .i64) .bool)), .sl (.pair (.int .i64) (.pair (.int .i64) (.int .i64))), .i .i64]], []⟩⟩
theorem copyx_eq (N : Nat) (t : List (Int × (Int × Bool))) (t2 : List (Int × (Int × Int))) (t3 : Int) : ev (Z := (List (Int × (Int × Bool))) × (List (Int × (Int × Int))) × Int) Try.prog (copyx_sp N) copyx_B [] [] (some copyx_rt) 400 false [.c [0], .c [1]] (stL copyx_st (((t, t2, t3, ()), ()), ())) (stH copyx_st (((t, t2, t3, ()), ()), ())) = copyx_S N t t2 t3 := by kernel_rfl
noncomputable def sp_copyx (N : Nat) : Spec := { f := 20, ins := ⟨[.agg [.sl (.pair (.int .i64) (.pair (.int .i64) .bool)), .sl (.pair (.int .i64) (.pair (.int .i64) (.int .i64))), .i .i64]], []⟩, outs := [⟨[.agg [.sl (.pair (.int .i64) (.pair (.int .i64) .bool)), .sl (.pair (.int .i64) (.pair (.int .i64) (.int .i64))), .i .i64]], []⟩], run := fun p k => (copyx_S N p.1.1.1 p.1.1.2.1 p.1.1.2.2.1).bind fun r => k (((r.1, r.2.1, r.2.2, ()), ()), ()) }
theorem sp_copyx_ok (N : Nat) : SpecOK Try.prog (sp_copyx N) := fn_sound (B := copyx_B) (loops := []) (leaves := []) (fun p => copyx_S N p.1.1.1 p.1.1.2.1 p.1.1.2.2.1) (fun r => (((r.1, r.2.1, r.2.2, ()), ()), ())) copyx_rt (fun _ _ _ => rfl) (fun r z h => by cases h; rfl) Try.func20 (by kernel_rfl) (by kernel_rfl) (by kernel_rfl) rfl rfl (by kernel_rfl) (fun args w => Sem.pv_run _ _ _ (by kernel_rfl) w) (copyx_all N) mixed trivial (fun z E Xc hE hX hret => trivial) (fun p => copyx_eq N p.1.1.1 p.1.1.2.1 p.1.1.2.2.1)

def same_S (N : Nat) (a : List (Int × (Int × Bool))) (a2 : List (Int × (Int × Int))) (a3 : Int) (b : List (Int × (Int × Bool))) (b2 : List (Int × (Int × Int))) (b3 : Int) : Option Bool :=
  (likew_S N a b).bind fun x_1 =>
  br x_1
    ((liket_S N a2 b2).bind fun x_2 =>
    br x_2
      (some (decide (a3 = b3)))
      (some false))
    (some false)
noncomputable def same_sp (N : Nat) : List Spec := [sp_likew N, sp_liket N]
theorem same_all (N : Nat) : AllP (SpecOK Try.prog) (same_sp N) := ⟨sp_likew_ok N, sp_liket_ok N, trivial⟩
noncomputable def same_c : Code := (Try.f28.body).getD .skip
noncomputable abbrev same_B : Body := { c := same_c, n := 24, res := [.tmp 4], outs := [⟨[.b], []⟩], m0 := 0 }
abbrev same_rt : altD same_B.outs → Option Bool := fun r => some r.1.1
abbrev same_st : Sta := ⟨[0, 1], ⟨[.agg [.sl (.pair (.int .i64) (.pair (.int .i64) .bool)), .sl (.pair (.int .i64) (.pair (.int .i64) (.int .i64))), .i .i64], .agg [.sl (.pair (.int .i64) (.pair (.int .i64) .bool)), .sl (.pair (.int .i64) (.pair (.int .i64) (.int .i64))), .i .i64]], []⟩⟩
theorem same_eq (N : Nat) (a : List (Int × (Int × Bool))) (a2 : List (Int × (Int × Int))) (a3 : Int) (b : List (Int × (Int × Bool))) (b2 : List (Int × (Int × Int))) (b3 : Int) : ev (Z := Bool) Try.prog (same_sp N) same_B [] [] (some same_rt) 400 false [.c [0], .c [1]] (stL same_st (((a, a2, a3, ()), (b, b2, b3, ()), ()), ())) (stH same_st (((a, a2, a3, ()), (b, b2, b3, ()), ()), ())) = same_S N a a2 a3 b b2 b3 := by kernel_rfl
noncomputable def sp_same (N : Nat) : Spec := { f := 28, ins := ⟨[.agg [.sl (.pair (.int .i64) (.pair (.int .i64) .bool)), .sl (.pair (.int .i64) (.pair (.int .i64) (.int .i64))), .i .i64], .agg [.sl (.pair (.int .i64) (.pair (.int .i64) .bool)), .sl (.pair (.int .i64) (.pair (.int .i64) (.int .i64))), .i .i64]], []⟩, outs := [⟨[.b], []⟩], run := fun p k => (same_S N p.1.1.1 p.1.1.2.1 p.1.1.2.2.1 p.1.2.1.1 p.1.2.1.2.1 p.1.2.1.2.2.1).bind fun r => k ((r, ()), ()) }
theorem sp_same_ok (N : Nat) : SpecOK Try.prog (sp_same N) := fn_sound (B := same_B) (loops := []) (leaves := []) (fun p => same_S N p.1.1.1 p.1.1.2.1 p.1.1.2.2.1 p.1.2.1.1 p.1.2.1.2.1 p.1.2.1.2.2.1) (fun r => ((r, ()), ())) same_rt (fun _ _ _ => rfl) (fun r z h => by cases h; rfl) Try.func28 (by kernel_rfl) (by kernel_rfl) (by kernel_rfl) rfl rfl (by kernel_rfl) (fun args w => Sem.pv_run _ _ _ (by kernel_rfl) w) (same_all N) mixed trivial (fun z E Xc hE hX hret => trivial) (fun p => same_eq N p.1.1.1 p.1.1.2.1 p.1.1.2.2.1 p.1.2.1.1 p.1.2.1.2.1 p.1.2.1.2.2.1)

def theirs_l1 (N : Nat) : Nat → (List (Int × (Int × Bool))) → Int → Int → (List (Int × (Int × Bool))) → (List (Int × (Int × Int))) → Int → Int → Int → (List (Int × (Int × Bool))) → Option ((List (Int × (Int × Bool))) × (List (Int × (Int × Int))) × Int × Int × Int × (List (Int × (Int × Bool))))
  | 0, _, _, _, _, _, _, _, _, _ => none
  | n_ + 1, u, u2, u3, t, t2, t3, g, out, out2 =>
    br (decide (u3 < u2))
      (idx u u3 fun x_1 =>
      lim (out2.length + [(x_1.1, x_1.2.1, x_1.2.2)].length) <|
      chk (u3 + 1) <|
      theirs_l1 N n_ u u2 (u3 + 1) t t2 t3 g out (out2 ++ [(x_1.1, x_1.2.1, x_1.2.2)]))
      (some ((t, t2, t3, g, out, out2)))
def theirs_l2 (N : Nat) : Nat → (List (Int × (Int × Int))) → Int → Int → Int → Int → (List (Int × (Int × Bool))) → (List (Int × (Int × Int))) → Option (Int × Int × (List (Int × (Int × Bool))) × (List (Int × (Int × Int))))
  | 0, _, _, _, _, _, _, _ => none
  | n_ + 1, u, u2, u3, g, out, out2, out3 =>
    br (decide (u3 < u2))
      (idx u u3 fun x_8 =>
      lim (out3.length + [(x_8.1, x_8.2.1, x_8.2.2)].length) <|
      chk (u3 + 1) <|
      theirs_l2 N n_ u u2 (u3 + 1) g out out2 (out3 ++ [(x_8.1, x_8.2.1, x_8.2.2)]))
      (some ((g, out, out2, out3)))
def theirs_S (N : Nat) (t : List (Int × (Int × Bool))) (t2 : List (Int × (Int × Int))) (t3 : Int) : Option ((List (Int × (Int × Bool))) × (List (Int × (Int × Int))) × Int) :=
  (theirs_l1 N N t (t.length : Int) 0 t t2 t3 0 t3 []).bind fun (t_2, t2_3, t3_4, g_5, out_6, out2_7) =>
  (theirs_l2 N N t2_3 (t2_3.length : Int) 0 g_5 out_6 out2_7 []).bind fun (g_9, out_10, out2_11, out3_12) =>
  some (out2_11, out3_12, out_10)
noncomputable def theirs_sp (N : Nat) : List Spec := []
theorem theirs_all (N : Nat) : AllP (SpecOK Try.prog) (theirs_sp N) := trivial
noncomputable def theirs_c : Code := (Try.f21.body).getD .skip
noncomputable abbrev theirs_B : Body := { c := theirs_c, n := 40, res := [.cell 2 32], outs := [⟨[.agg [.sl (.pair (.int .i64) (.pair (.int .i64) .bool)), .sl (.pair (.int .i64) (.pair (.int .i64) (.int .i64))), .i .i64]], []⟩], m0 := 0 }
abbrev theirs_rt : altD theirs_B.outs → Option ((List (Int × (Int × Bool))) × (List (Int × (Int × Int))) × Int) := fun r => some (r.1.1.1, r.1.1.2.1, r.1.1.2.2.1)
abbrev theirs_l1_at : List PI := [.c [1, 1, 0, 1, 0, 0, 0], .c [1, 1, 0, 1, 0, 0, 1], .l [1, 1, 0, 1, 0, 0], .b 0, .c [1, 1, 1]]
abbrev theirs_l1_st : Sta := ⟨[1, 2, 3, 12, 13, 14], ⟨[.own 0 0, .own 1 0, .own 2 0, .sl (.pair (.int .i64) (.pair (.int .i64) .bool)), .i .i64, .i .i64], [.segs [.sl (.pair (.int .i64) (.pair (.int .i64) .bool)), .sl (.pair (.int .i64) (.pair (.int .i64) (.int .i64))), .i .i64], .segs [.nils, .nils, .i .i64], .segs [.ols 3, .nils, .i .i64], .lst (.pair (.int .i64) (.pair (.int .i64) .bool))]⟩⟩
abbrev theirs_l1_h (rec : (List (Int × (Int × Bool))) → Int → Int → (List (Int × (Int × Bool))) → (List (Int × (Int × Int))) → Int → Int → Int → (List (Int × (Int × Bool))) → Option ((List (Int × (Int × Bool))) × (List (Int × (Int × Int))) × Int × Int × Int × (List (Int × (Int × Bool))))) : Leaf ((List (Int × (Int × Bool))) × (List (Int × (Int × Int))) × Int × Int × Int × (List (Int × (Int × Bool)))) := ⟨theirs_l1_at, theirs_l1_st, fun p => rec p.1.2.2.2.1 p.1.2.2.2.2.1 p.1.2.2.2.2.2.1 p.2.1.1 p.2.1.2.1 p.2.1.2.2.1 p.2.2.1.2.2.1 p.2.2.2.1.2.2.1 p.2.2.2.2.1⟩
abbrev theirs_l1_e0 : Leaf ((List (Int × (Int × Bool))) × (List (Int × (Int × Int))) × Int × Int × Int × (List (Int × (Int × Bool)))) := ⟨[.c [1, 1, 1, 0, 0], .c [1, 1, 1, 0, 1], .c [1, 1, 1, 1]], ⟨[1, 2, 3], ⟨[.own 0 0, .own 1 0, .own 2 0], [.segs [.sl (.pair (.int .i64) (.pair (.int .i64) .bool)), .sl (.pair (.int .i64) (.pair (.int .i64) (.int .i64))), .i .i64], .segs [.nils, .nils, .i .i64], .segs [.ols 3, .nils, .i .i64], .lst (.pair (.int .i64) (.pair (.int .i64) .bool))]⟩⟩, fun p => some ((p.2.1.1, p.2.1.2.1, p.2.1.2.2.1, p.2.2.1.2.2.1, p.2.2.2.1.2.2.1, p.2.2.2.2.1))⟩
noncomputable def theirs_l1_L (N : Nat) : LoopS := { at_ := theirs_l1_at, sta := theirs_l1_st, exits := [([.c [1, 1, 1, 0, 0], .c [1, 1, 1, 0, 1], .c [1, 1, 1, 1]], ⟨[1, 2, 3], ⟨[.own 0 0, .own 1 0, .own 2 0], [.segs [.sl (.pair (.int .i64) (.pair (.int .i64) .bool)), .sl (.pair (.int .i64) (.pair (.int .i64) (.int .i64))), .i .i64], .segs [.nils, .nils, .i .i64], .segs [.ols 3, .nils, .i .i64], .lst (.pair (.int .i64) (.pair (.int .i64) .bool))]⟩⟩)], run := fun p k => (theirs_l1 N N p.1.2.2.2.1 p.1.2.2.2.2.1 p.1.2.2.2.2.2.1 p.2.1.1 p.2.1.2.1 p.2.1.2.2.1 p.2.2.1.2.2.1 p.2.2.2.1.2.2.1 p.2.2.2.2.1).bind fun e => k (.inl (((), (), (), ()), ((e.1, e.2.1, e.2.2.1, ()), ((), (), e.2.2.2.1, ()), ((), (), e.2.2.2.2.1, ()), e.2.2.2.2.2, ()))) }
theorem theirs_l1_eq (N n_ : Nat) (u : List (Int × (Int × Bool))) (u2 : Int) (u3 : Int) (t : List (Int × (Int × Bool))) (t2 : List (Int × (Int × Int))) (t3 : Int) (g : Int) (out : Int) (out2 : List (Int × (Int × Bool))) : ev (Z := (List (Int × (Int × Bool))) × (List (Int × (Int × Int))) × Int × Int × Int × (List (Int × (Int × Bool)))) Try.prog (theirs_sp N) theirs_B [] [theirs_l1_h (theirs_l1 N n_), theirs_l1_e0] none 400 true theirs_l1_at (stL theirs_l1_st (((), (), (), u, u2, u3, ()), ((t, t2, t3, ()), ((), (), g, ()), ((), (), out, ()), out2, ()))) (stH theirs_l1_st (((), (), (), u, u2, u3, ()), ((t, t2, t3, ()), ((), (), g, ()), ((), (), out, ()), out2, ()))) = theirs_l1 N (n_ + 1) u u2 u3 t t2 t3 g out out2 := by kernel_rfl
theorem theirs_l1_ok (N : Nat) {top : Bool} : LoopOK Try.prog theirs_B.c theirs_B.n theirs_B.m0 top (theirs_l1_L N) := loop_of_ev (Z := (List (Int × (Int × Bool))) × (List (Int × (Int × Int))) × Int × Int × Int × (List (Int × (Int × Bool)))) (N := N) (fun m p => theirs_l1 N m p.1.2.2.2.1 p.1.2.2.2.2.1 p.1.2.2.2.2.2.1 p.2.1.1 p.2.1.2.1 p.2.1.2.2.1 p.2.2.1.2.2.1 p.2.2.2.1.2.2.1 p.2.2.2.2.1) (fun e => .inl (((), (), (), ()), ((e.1, e.2.1, e.2.2.1, ()), ((), (), e.2.2.2.1, ()), ((), (), e.2.2.2.2.1, ()), e.2.2.2.2.2, ()))) (fun _ _ _ => rfl) (fun _ => rfl) (fun m z E Xc hE hX hrec hx => leaf_of_ev (B := theirs_B) (loops := []) (leaves := [theirs_l1_h (theirs_l1 N m), theirs_l1_e0]) (theirs_all N) mixed trivial hE hX ⟨hrec, (fun p hp => by obtain rfl := Option.some.inj hp; exact hx), trivial⟩ RetOK.no (fun p => theirs_l1_eq N m p.1.2.2.2.1 p.1.2.2.2.2.1 p.1.2.2.2.2.2.1 p.2.1.1 p.2.1.2.1 p.2.1.2.2.1 p.2.2.1.2.2.1 p.2.2.2.1.2.2.1 p.2.2.2.2.1))
abbrev theirs_l2_at : List PI := [.c [1, 1, 1, 0, 1, 0, 0, 0], .c [1, 1, 1, 0, 1, 0, 0, 1], .l [1, 1, 1, 0, 1, 0, 0], .b 2, .c [1, 1, 1, 1]]
abbrev theirs_l2_st : Sta := ⟨[2, 3, 26, 27, 28], ⟨[.own 0 0, .own 1 0, .sl (.pair (.int .i64) (.pair (.int .i64) (.int .i64))), .i .i64, .i .i64], [.segs [.nils, .nils, .i .i64], .segs [.ols 2, .ols 3, .i .i64], .lst (.pair (.int .i64) (.pair (.int .i64) .bool)), .lst (.pair (.int .i64) (.pair (.int .i64) (.int .i64)))]⟩⟩
abbrev theirs_l2_h (rec : (List (Int × (Int × Int))) → Int → Int → Int → Int → (List (Int × (Int × Bool))) → (List (Int × (Int × Int))) → Option (Int × Int × (List (Int × (Int × Bool))) × (List (Int × (Int × Int))))) : Leaf (Int × Int × (List (Int × (Int × Bool))) × (List (Int × (Int × Int)))) := ⟨theirs_l2_at, theirs_l2_st, fun p => rec p.1.2.2.1 p.1.2.2.2.1 p.1.2.2.2.2.1 p.2.1.2.2.1 p.2.2.1.2.2.1 p.2.2.2.1 p.2.2.2.2.1⟩
abbrev theirs_l2_e0 : Leaf (Int × Int × (List (Int × (Int × Bool))) × (List (Int × (Int × Int)))) := ⟨[.c [1, 1, 1, 1, 0], .c [1, 1, 1, 1, 1]], ⟨[2, 3], ⟨[.own 0 0, .own 1 0], [.segs [.nils, .nils, .i .i64], .segs [.ols 2, .ols 3, .i .i64], .lst (.pair (.int .i64) (.pair (.int .i64) .bool)), .lst (.pair (.int .i64) (.pair (.int .i64) (.int .i64)))]⟩⟩, fun p => some ((p.2.1.2.2.1, p.2.2.1.2.2.1, p.2.2.2.1, p.2.2.2.2.1))⟩
noncomputable def theirs_l2_L (N : Nat) : LoopS := { at_ := theirs_l2_at, sta := theirs_l2_st, exits := [([.c [1, 1, 1, 1, 0], .c [1, 1, 1, 1, 1]], ⟨[2, 3], ⟨[.own 0 0, .own 1 0], [.segs [.nils, .nils, .i .i64], .segs [.ols 2, .ols 3, .i .i64], .lst (.pair (.int .i64) (.pair (.int .i64) .bool)), .lst (.pair (.int .i64) (.pair (.int .i64) (.int .i64)))]⟩⟩)], run := fun p k => (theirs_l2 N N p.1.2.2.1 p.1.2.2.2.1 p.1.2.2.2.2.1 p.2.1.2.2.1 p.2.2.1.2.2.1 p.2.2.2.1 p.2.2.2.2.1).bind fun e => k (.inl (((), (), ()), (((), (), e.1, ()), ((), (), e.2.1, ()), e.2.2.1, e.2.2.2, ()))) }
theorem theirs_l2_eq (N n_ : Nat) (u : List (Int × (Int × Int))) (u2 : Int) (u3 : Int) (g : Int) (out : Int) (out2 : List (Int × (Int × Bool))) (out3 : List (Int × (Int × Int))) : ev (Z := Int × Int × (List (Int × (Int × Bool))) × (List (Int × (Int × Int)))) Try.prog (theirs_sp N) theirs_B [theirs_l1_L N] [theirs_l2_h (theirs_l2 N n_), theirs_l2_e0] none 400 true theirs_l2_at (stL theirs_l2_st (((), (), u, u2, u3, ()), (((), (), g, ()), ((), (), out, ()), out2, out3, ()))) (stH theirs_l2_st (((), (), u, u2, u3, ()), (((), (), g, ()), ((), (), out, ()), out2, out3, ()))) = theirs_l2 N (n_ + 1) u u2 u3 g out out2 out3 := by kernel_rfl
theorem theirs_l2_ok (N : Nat) {top : Bool} : LoopOK Try.prog theirs_B.c theirs_B.n theirs_B.m0 top (theirs_l2_L N) := loop_of_ev (Z := Int × Int × (List (Int × (Int × Bool))) × (List (Int × (Int × Int)))) (N := N) (fun m p => theirs_l2 N m p.1.2.2.1 p.1.2.2.2.1 p.1.2.2.2.2.1 p.2.1.2.2.1 p.2.2.1.2.2.1 p.2.2.2.1 p.2.2.2.2.1) (fun e => .inl (((), (), ()), (((), (), e.1, ()), ((), (), e.2.1, ()), e.2.2.1, e.2.2.2, ()))) (fun _ _ _ => rfl) (fun _ => rfl) (fun m z E Xc hE hX hrec hx => leaf_of_ev (B := theirs_B) (loops := [theirs_l1_L N]) (leaves := [theirs_l2_h (theirs_l2 N m), theirs_l2_e0]) (theirs_all N) mixed ⟨theirs_l1_ok N, trivial⟩ hE hX ⟨hrec, (fun p hp => by obtain rfl := Option.some.inj hp; exact hx), trivial⟩ RetOK.no (fun p => theirs_l2_eq N m p.1.2.2.1 p.1.2.2.2.1 p.1.2.2.2.2.1 p.2.1.2.2.1 p.2.2.1.2.2.1 p.2.2.2.1 p.2.2.2.2.1))
abbrev theirs_st : Sta := ⟨[0], ⟨[.agg [.sl (.pair (.int .i64) (.pair (.int .i64) .bool)), .sl (.pair (.int .i64) (.pair (.int .i64) (.int .i64))), .i .i64]], []⟩⟩
theorem theirs_eq (N : Nat) (t : List (Int × (Int × Bool))) (t2 : List (Int × (Int × Int))) (t3 : Int) : ev (Z := (List (Int × (Int × Bool))) × (List (Int × (Int × Int))) × Int) Try.prog (theirs_sp N) theirs_B [theirs_l1_L N, theirs_l2_L N] [] (some theirs_rt) 400 false [.c [0], .c [1]] (stL theirs_st (((t, t2, t3, ()), ()), ())) (stH theirs_st (((t, t2, t3, ()), ()), ())) = theirs_S N t t2 t3 := by kernel_rfl
noncomputable def sp_theirs (N : Nat) : Spec := { f := 21, ins := ⟨[.agg [.sl (.pair (.int .i64) (.pair (.int .i64) .bool)), .sl (.pair (.int .i64) (.pair (.int .i64) (.int .i64))), .i .i64]], []⟩, outs := [⟨[.agg [.sl (.pair (.int .i64) (.pair (.int .i64) .bool)), .sl (.pair (.int .i64) (.pair (.int .i64) (.int .i64))), .i .i64]], []⟩], run := fun p k => (theirs_S N p.1.1.1 p.1.1.2.1 p.1.1.2.2.1).bind fun r => k (((r.1, r.2.1, r.2.2, ()), ()), ()) }
theorem sp_theirs_ok (N : Nat) : SpecOK Try.prog (sp_theirs N) := fn_sound (B := theirs_B) (loops := [theirs_l1_L N, theirs_l2_L N]) (leaves := []) (fun p => theirs_S N p.1.1.1 p.1.1.2.1 p.1.1.2.2.1) (fun r => (((r.1, r.2.1, r.2.2, ()), ()), ())) theirs_rt (fun _ _ _ => rfl) (fun r z h => by cases h; rfl) Try.func21 (by kernel_rfl) (by kernel_rfl) (by kernel_rfl) rfl rfl (by kernel_rfl) (fun args w => Sem.pv_run _ _ _ (by kernel_rfl) w) (theirs_all N) mixed ⟨theirs_l1_ok N, theirs_l2_ok N, trivial⟩ (fun z E Xc hE hX hret => trivial) (fun p => theirs_eq N p.1.1.1 p.1.1.2.1 p.1.1.2.2.1)

def great_S (N : Nat) (t : List (Int × (Int × Bool))) (t2 : List (Int × (Int × Int))) (t3 : Int) (words : Int) : Option Bool :=
  br (decide (20 < (t.length : Int)))
    (some true)
    (br (decide (20 < (t2.length : Int)))
      (some true)
      (br (decide (words < (t.length : Int)))
        (some (decide ((t.length : Int) ≤ 12)))
        (some false)))
noncomputable def great_sp (N : Nat) : List Spec := []
theorem great_all (N : Nat) : AllP (SpecOK Try.prog) (great_sp N) := trivial
noncomputable def great_c : Code := (Try.f18.body).getD .skip
noncomputable abbrev great_B : Body := { c := great_c, n := 28, res := [.tmp 4], outs := [⟨[.b], []⟩], m0 := 0 }
abbrev great_rt : altD great_B.outs → Option Bool := fun r => some r.1.1
abbrev great_st : Sta := ⟨[0, 1], ⟨[.agg [.sl (.pair (.int .i64) (.pair (.int .i64) .bool)), .sl (.pair (.int .i64) (.pair (.int .i64) (.int .i64))), .i .i64], .i .i64], []⟩⟩
theorem great_eq (N : Nat) (t : List (Int × (Int × Bool))) (t2 : List (Int × (Int × Int))) (t3 : Int) (words : Int) : ev (Z := Bool) Try.prog (great_sp N) great_B [] [] (some great_rt) 400 false [.c [0], .c [1]] (stL great_st (((t, t2, t3, ()), words, ()), ())) (stH great_st (((t, t2, t3, ()), words, ()), ())) = great_S N t t2 t3 words := by kernel_rfl
noncomputable def sp_great (N : Nat) : Spec := { f := 18, ins := ⟨[.agg [.sl (.pair (.int .i64) (.pair (.int .i64) .bool)), .sl (.pair (.int .i64) (.pair (.int .i64) (.int .i64))), .i .i64], .i .i64], []⟩, outs := [⟨[.b], []⟩], run := fun p k => (great_S N p.1.1.1 p.1.1.2.1 p.1.1.2.2.1 p.1.2.1).bind fun r => k ((r, ()), ()) }
theorem sp_great_ok (N : Nat) : SpecOK Try.prog (sp_great N) := fn_sound (B := great_B) (loops := []) (leaves := []) (fun p => great_S N p.1.1.1 p.1.1.2.1 p.1.1.2.2.1 p.1.2.1) (fun r => ((r, ()), ())) great_rt (fun _ _ _ => rfl) (fun r z h => by cases h; rfl) Try.func18 (by kernel_rfl) (by kernel_rfl) (by kernel_rfl) rfl rfl (by kernel_rfl) (fun args w => Sem.pv_run _ _ _ (by kernel_rfl) w) (great_all N) mixed trivial (fun z E Xc hE hX hret => trivial) (fun p => great_eq N p.1.1.1 p.1.1.2.1 p.1.1.2.2.1 p.1.2.1)

def off_S (N : Nat) (n : Int) (lo : Int) (hi : Int) : Option Bool :=
  br (decide (n < lo))
    (some true)
    (some (decide (hi < n)))
noncomputable def off_sp (N : Nat) : List Spec := []
theorem off_all (N : Nat) : AllP (SpecOK Try.prog) (off_sp N) := trivial
noncomputable def off_c : Code := (Try.f92.body).getD .skip
noncomputable abbrev off_B : Body := { c := off_c, n := 15, res := [.tmp 6], outs := [⟨[.b], []⟩], m0 := 0 }
abbrev off_rt : altD off_B.outs → Option Bool := fun r => some r.1.1
abbrev off_st : Sta := ⟨[0, 1, 2], ⟨[.i .i64, .i .i64, .i .i64], []⟩⟩
theorem off_eq (N : Nat) (n : Int) (lo : Int) (hi : Int) : ev (Z := Bool) Try.prog (off_sp N) off_B [] [] (some off_rt) 400 false [.c [0], .c [1]] (stL off_st ((n, lo, hi, ()), ())) (stH off_st ((n, lo, hi, ()), ())) = off_S N n lo hi := by kernel_rfl
noncomputable def sp_off (N : Nat) : Spec := { f := 92, ins := ⟨[.i .i64, .i .i64, .i .i64], []⟩, outs := [⟨[.b], []⟩], run := fun p k => (off_S N p.1.1 p.1.2.1 p.1.2.2.1).bind fun r => k ((r, ()), ()) }
theorem sp_off_ok (N : Nat) : SpecOK Try.prog (sp_off N) := fn_sound (B := off_B) (loops := []) (leaves := []) (fun p => off_S N p.1.1 p.1.2.1 p.1.2.2.1) (fun r => ((r, ()), ())) off_rt (fun _ _ _ => rfl) (fun r z h => by cases h; rfl) Try.func92 (by kernel_rfl) (by kernel_rfl) (by kernel_rfl) rfl rfl (by kernel_rfl) (fun args w => Sem.pv_run _ _ _ (by kernel_rfl) w) (off_all N) mixed trivial (fun z E Xc hE hX hret => trivial) (fun p => off_eq N p.1.1 p.1.2.1 p.1.2.2.1)

def rcheck_l1 (N : Nat) : Nat → Int → Int → (List (Int × (Int × Bool))) → (List (Int × (Int × Int))) → Int → Option ((Unit) ⊕ (Int × (List (Int × (Int × Bool))) × (List (Int × (Int × Int))) × Int))
  | 0, _, _, _, _, _ => none
  | n_ + 1, many, i, t, t2, t3 =>
    br (decide (i < many))
      (idx t i fun x_3 =>
      (off_S N x_3.1 1 9).bind fun x_4 =>
      br x_4
        (some (.inl ()))
        (idx t i fun x_5 =>
        (off_S N x_5.2.1 0 20).bind fun x_6 =>
        br x_6
          (some (.inl ()))
          (chk (i + 1) <|
          rcheck_l1 N n_ many (i + 1) t t2 t3)))
      (some (.inr (many, t, t2, t3)))
def rcheck_l2 (N : Nat) : Nat → Int → Int → (List (Int × (Int × Bool))) → (List (Int × (Int × Int))) → Int → Option ((Unit) ⊕ ((List (Int × (Int × Bool))) × (List (Int × (Int × Int))) × Int))
  | 0, _, _, _, _, _ => none
  | n_ + 1, many, i, t, t2, t3 =>
    br (decide (i < (t2.length : Int)))
      (idx t2 i fun x_11 =>
      chk (many - 1) <|
      (off_S N x_11.1 0 (many - 1)).bind fun x_12 =>
      br x_12
        (some (.inl ()))
        (idx t2 i fun x_13 =>
        chk (many - 1) <|
        (off_S N x_13.2.1 0 (many - 1)).bind fun x_14 =>
        br x_14
          (some (.inl ()))
          (idx t2 i fun x_15 =>
          chk (many - 1) <|
          (off_S N x_15.2.2 0 (many - 1)).bind fun x_16 =>
          br x_16
            (some (.inl ()))
            (chk (i + 1) <|
            rcheck_l2 N n_ many (i + 1) t t2 t3))))
      (some (.inr (t, t2, t3)))
def rcheck_l3 (N : Nat) : Nat → Int → (List (Int × (Int × Bool))) → (List (Int × (Int × Int))) → Int → Option ((Unit) ⊕ ((List (Int × (Int × Bool))) × (List (Int × (Int × Int))) × Int))
  | 0, _, _, _, _ => none
  | n_ + 1, i, t, t2, t3 =>
    br (decide (i < (t2.length : Int)))
      (idx t2 i fun x_20 =>
      idx t2 i fun x_21 =>
      br (decide (x_21.2.2 < x_20.2.1))
        (some (.inl ()))
        (chk (i + 1) <|
        rcheck_l3 N n_ (i + 1) t t2 t3))
      (some (.inr (t, t2, t3)))
def rcheck_l4 (N : Nat) : Nat → Int → (List (Int × (Int × Bool))) → (List (Int × (Int × Int))) → Int → Option ((Unit) ⊕ (Unit))
  | 0, _, _, _, _ => none
  | n_ + 1, i, t, t2, t3 =>
    br (decide (i < (t2.length : Int)))
      (idx t2 i fun x_25 =>
      idx t2 i fun x_26 =>
      idx t2 i fun x_27 =>
      (off_S N x_25.1 x_26.2.1 x_27.2.2).bind fun x_28 =>
      br (!x_28)
        (some (.inl ()))
        (chk (i + 1) <|
        rcheck_l4 N n_ (i + 1) t t2 t3))
      (some (.inr ()))
def rcheck_S (N : Nat) (t : List (Int × (Int × Bool))) (t2 : List (Int × (Int × Int))) (t3 : Int) : Option Int :=
  (off_S N (t.length : Int) 1 12).bind fun x_1 =>
  br x_1
    (some 2)
    (br (decide (6 < (t2.length : Int)))
      (some 2)
      ((off_S N t3 1 40).bind fun x_2 =>
      br x_2
        (some 3)
        ((rcheck_l1 N N (t.length : Int) 0 t t2 t3).bind fun e => match e with
        | .inl _ =>
          some 3
        | .inr (many_7, t_8, t2_9, t3_10) =>
          (rcheck_l2 N N many_7 0 t_8 t2_9 t3_10).bind fun e => match e with
          | .inl _ =>
            some 1
          | .inr (t_17, t2_18, t3_19) =>
            (rcheck_l3 N N 0 t_17 t2_18 t3_19).bind fun e => match e with
            | .inl _ =>
              some 4
            | .inr (t_22, t2_23, t3_24) =>
              (rcheck_l4 N N 0 t_22 t2_23 t3_24).bind fun e => match e with
              | .inl _ =>
                some 7
              | .inr _ =>
                some 0)))
noncomputable def rcheck_sp (N : Nat) : List Spec := [sp_off N]
theorem rcheck_all (N : Nat) : AllP (SpecOK Try.prog) (rcheck_sp N) := ⟨sp_off_ok N, trivial⟩
noncomputable def rcheck_c : Code := (Try.f25.body).getD .skip
noncomputable abbrev rcheck_B : Body := { c := rcheck_c, n := 134, res := [.tmp 2], outs := [⟨[.i .i64], []⟩], m0 := 0 }
abbrev rcheck_rt : altD rcheck_B.outs → Option Int := fun r => some r.1.1
abbrev rcheck_l1_at : List PI := [.c [1, 1, 1, 1, 0, 1, 0, 0, 0, 0], .c [1, 1, 1, 1, 0, 1, 0, 0, 0, 1], .c [1, 1, 1, 1, 0, 1, 0, 0, 1], .l [1, 1, 1, 1, 0, 1, 0, 0], .b 0, .c [1, 1, 1, 1, 1]]
abbrev rcheck_l1_st : Sta := ⟨[1, 3, 4], ⟨[.own 0 0, .i .i64, .i .i64], [.segs [.sl (.pair (.int .i64) (.pair (.int .i64) .bool)), .sl (.pair (.int .i64) (.pair (.int .i64) (.int .i64))), .i .i64]]⟩⟩
abbrev rcheck_l1_h (rec : Int → Int → (List (Int × (Int × Bool))) → (List (Int × (Int × Int))) → Int → Option ((Unit) ⊕ (Int × (List (Int × (Int × Bool))) × (List (Int × (Int × Int))) × Int))) : Leaf ((Unit) ⊕ (Int × (List (Int × (Int × Bool))) × (List (Int × (Int × Int))) × Int)) := ⟨rcheck_l1_at, rcheck_l1_st, fun p => rec p.1.2.1 p.1.2.2.1 p.2.1.1 p.2.1.2.1 p.2.1.2.2.1⟩
abbrev rcheck_l1_e0 : Leaf ((Unit) ⊕ (Int × (List (Int × (Int × Bool))) × (List (Int × (Int × Int))) × Int)) := ⟨[.c [1, 1, 1, 1, 0, 1, 0, 0, 1, 0, 0, 1, 0, 0], .c [1, 1, 1, 1, 0, 1, 0, 0, 1, 0, 0, 1, 0, 1], .b 1, .c [1, 1, 1, 1, 0, 1, 0, 0, 1, 1], .l [1, 1, 1, 1, 0, 1, 0, 0], .b 0, .c [1, 1, 1, 1, 1]], ⟨[], ⟨[], []⟩⟩, fun p => some (.inl ())⟩
abbrev rcheck_l1_e1 : Leaf ((Unit) ⊕ (Int × (List (Int × (Int × Bool))) × (List (Int × (Int × Int))) × Int)) := ⟨[.c [1, 1, 1, 1, 1, 0, 0], .c [1, 1, 1, 1, 1, 0, 1], .c [1, 1, 1, 1, 1, 1]], ⟨[1, 3], ⟨[.own 0 0, .i .i64], [.segs [.sl (.pair (.int .i64) (.pair (.int .i64) .bool)), .sl (.pair (.int .i64) (.pair (.int .i64) (.int .i64))), .i .i64]]⟩⟩, fun p => some (.inr (p.1.2.1, p.2.1.1, p.2.1.2.1, p.2.1.2.2.1))⟩
noncomputable def rcheck_l1_L (N : Nat) : LoopS := { at_ := rcheck_l1_at, sta := rcheck_l1_st, exits := [([.c [1, 1, 1, 1, 0, 1, 0, 0, 1, 0, 0, 1, 0, 0], .c [1, 1, 1, 1, 0, 1, 0, 0, 1, 0, 0, 1, 0, 1], .b 1, .c [1, 1, 1, 1, 0, 1, 0, 0, 1, 1], .l [1, 1, 1, 1, 0, 1, 0, 0], .b 0, .c [1, 1, 1, 1, 1]], ⟨[], ⟨[], []⟩⟩), ([.c [1, 1, 1, 1, 1, 0, 0], .c [1, 1, 1, 1, 1, 0, 1], .c [1, 1, 1, 1, 1, 1]], ⟨[1, 3], ⟨[.own 0 0, .i .i64], [.segs [.sl (.pair (.int .i64) (.pair (.int .i64) .bool)), .sl (.pair (.int .i64) (.pair (.int .i64) (.int .i64))), .i .i64]]⟩⟩)], run := fun p k => (rcheck_l1 N N p.1.2.1 p.1.2.2.1 p.2.1.1 p.2.1.2.1 p.2.1.2.2.1).bind fun e => match e with | .inl x => k (.inl ((), ())) | .inr x => k (.inr (.inl (((), x.1, ()), ((x.2.1, x.2.2.1, x.2.2.2, ()), ())))) }
theorem rcheck_l1_eq (N n_ : Nat) (many : Int) (i : Int) (t : List (Int × (Int × Bool))) (t2 : List (Int × (Int × Int))) (t3 : Int) : ev (Z := (Unit) ⊕ (Int × (List (Int × (Int × Bool))) × (List (Int × (Int × Int))) × Int)) Try.prog (rcheck_sp N) rcheck_B [] [rcheck_l1_h (rcheck_l1 N n_), rcheck_l1_e0, rcheck_l1_e1] none 400 true rcheck_l1_at (stL rcheck_l1_st (((), many, i, ()), ((t, t2, t3, ()), ()))) (stH rcheck_l1_st (((), many, i, ()), ((t, t2, t3, ()), ()))) = rcheck_l1 N (n_ + 1) many i t t2 t3 := by kernel_rfl
theorem rcheck_l1_ok (N : Nat) {top : Bool} : LoopOK Try.prog rcheck_B.c rcheck_B.n rcheck_B.m0 top (rcheck_l1_L N) := loop_of_ev (Z := (Unit) ⊕ (Int × (List (Int × (Int × Bool))) × (List (Int × (Int × Int))) × Int)) (N := N) (fun m p => rcheck_l1 N m p.1.2.1 p.1.2.2.1 p.2.1.1 p.2.1.2.1 p.2.1.2.2.1) (fun e => match e with | .inl x => .inl ((), ()) | .inr x => .inr (.inl (((), x.1, ()), ((x.2.1, x.2.2.1, x.2.2.2, ()), ())))) (fun _ p k => bind_congr_ (rcheck_l1 N N p.1.2.1 p.1.2.2.1 p.2.1.1 p.2.1.2.1 p.2.1.2.2.1) _ _ (fun e => by rcases e with x | x <;> rfl)) (fun _ => rfl) (fun m z E Xc hE hX hrec hx => leaf_of_ev (B := rcheck_B) (loops := []) (leaves := [rcheck_l1_h (rcheck_l1 N m), rcheck_l1_e0, rcheck_l1_e1]) (rcheck_all N) mixed trivial hE hX ⟨hrec, (fun p hp => by obtain rfl := Option.some.inj hp; exact hx), (fun p hp => by obtain rfl := Option.some.inj hp; exact hx), trivial⟩ RetOK.no (fun p => rcheck_l1_eq N m p.1.2.1 p.1.2.2.1 p.2.1.1 p.2.1.2.1 p.2.1.2.2.1))
abbrev rcheck_l2_at : List PI := [.c [1, 1, 1, 1, 1, 0, 1, 0, 0, 0, 0], .c [1, 1, 1, 1, 1, 0, 1, 0, 0, 0, 1], .c [1, 1, 1, 1, 1, 0, 1, 0, 0, 1], .l [1, 1, 1, 1, 1, 0, 1, 0, 0], .b 2, .c [1, 1, 1, 1, 1, 1]]
abbrev rcheck_l2_st : Sta := ⟨[1, 3, 5], ⟨[.own 0 0, .i .i64, .i .i64], [.segs [.sl (.pair (.int .i64) (.pair (.int .i64) .bool)), .sl (.pair (.int .i64) (.pair (.int .i64) (.int .i64))), .i .i64]]⟩⟩
abbrev rcheck_l2_h (rec : Int → Int → (List (Int × (Int × Bool))) → (List (Int × (Int × Int))) → Int → Option ((Unit) ⊕ ((List (Int × (Int × Bool))) × (List (Int × (Int × Int))) × Int))) : Leaf ((Unit) ⊕ ((List (Int × (Int × Bool))) × (List (Int × (Int × Int))) × Int)) := ⟨rcheck_l2_at, rcheck_l2_st, fun p => rec p.1.2.1 p.1.2.2.1 p.2.1.1 p.2.1.2.1 p.2.1.2.2.1⟩
abbrev rcheck_l2_e0 : Leaf ((Unit) ⊕ ((List (Int × (Int × Bool))) × (List (Int × (Int × Int))) × Int)) := ⟨[.c [1, 1, 1, 1, 1, 0, 1, 0, 0, 1, 0, 0, 1, 0, 0], .c [1, 1, 1, 1, 1, 0, 1, 0, 0, 1, 0, 0, 1, 0, 1], .b 3, .c [1, 1, 1, 1, 1, 0, 1, 0, 0, 1, 1], .l [1, 1, 1, 1, 1, 0, 1, 0, 0], .b 2, .c [1, 1, 1, 1, 1, 1]], ⟨[], ⟨[], []⟩⟩, fun p => some (.inl ())⟩
abbrev rcheck_l2_e1 : Leaf ((Unit) ⊕ ((List (Int × (Int × Bool))) × (List (Int × (Int × Int))) × Int)) := ⟨[.c [1, 1, 1, 1, 1, 1, 0, 0], .c [1, 1, 1, 1, 1, 1, 0, 1], .c [1, 1, 1, 1, 1, 1, 1]], ⟨[1], ⟨[.own 0 0], [.segs [.sl (.pair (.int .i64) (.pair (.int .i64) .bool)), .sl (.pair (.int .i64) (.pair (.int .i64) (.int .i64))), .i .i64]]⟩⟩, fun p => some (.inr (p.2.1.1, p.2.1.2.1, p.2.1.2.2.1))⟩
noncomputable def rcheck_l2_L (N : Nat) : LoopS := { at_ := rcheck_l2_at, sta := rcheck_l2_st, exits := [([.c [1, 1, 1, 1, 1, 0, 1, 0, 0, 1, 0, 0, 1, 0, 0], .c [1, 1, 1, 1, 1, 0, 1, 0, 0, 1, 0, 0, 1, 0, 1], .b 3, .c [1, 1, 1, 1, 1, 0, 1, 0, 0, 1, 1], .l [1, 1, 1, 1, 1, 0, 1, 0, 0], .b 2, .c [1, 1, 1, 1, 1, 1]], ⟨[], ⟨[], []⟩⟩), ([.c [1, 1, 1, 1, 1, 1, 0, 0], .c [1, 1, 1, 1, 1, 1, 0, 1], .c [1, 1, 1, 1, 1, 1, 1]], ⟨[1], ⟨[.own 0 0], [.segs [.sl (.pair (.int .i64) (.pair (.int .i64) .bool)), .sl (.pair (.int .i64) (.pair (.int .i64) (.int .i64))), .i .i64]]⟩⟩)], run := fun p k => (rcheck_l2 N N p.1.2.1 p.1.2.2.1 p.2.1.1 p.2.1.2.1 p.2.1.2.2.1).bind fun e => match e with | .inl x => k (.inl ((), ())) | .inr x => k (.inr (.inl (((), ()), ((x.1, x.2.1, x.2.2, ()), ())))) }
theorem rcheck_l2_eq (N n_ : Nat) (many : Int) (i : Int) (t : List (Int × (Int × Bool))) (t2 : List (Int × (Int × Int))) (t3 : Int) : ev (Z := (Unit) ⊕ ((List (Int × (Int × Bool))) × (List (Int × (Int × Int))) × Int)) Try.prog (rcheck_sp N) rcheck_B [rcheck_l1_L N] [rcheck_l2_h (rcheck_l2 N n_), rcheck_l2_e0, rcheck_l2_e1] none 400 true rcheck_l2_at (stL rcheck_l2_st (((), many, i, ()), ((t, t2, t3, ()), ()))) (stH rcheck_l2_st (((), many, i, ()), ((t, t2, t3, ()), ()))) = rcheck_l2 N (n_ + 1) many i t t2 t3 := by kernel_rfl
theorem rcheck_l2_ok (N : Nat) {top : Bool} : LoopOK Try.prog rcheck_B.c rcheck_B.n rcheck_B.m0 top (rcheck_l2_L N) := loop_of_ev (Z := (Unit) ⊕ ((List (Int × (Int × Bool))) × (List (Int × (Int × Int))) × Int)) (N := N) (fun m p => rcheck_l2 N m p.1.2.1 p.1.2.2.1 p.2.1.1 p.2.1.2.1 p.2.1.2.2.1) (fun e => match e with | .inl x => .inl ((), ()) | .inr x => .inr (.inl (((), ()), ((x.1, x.2.1, x.2.2, ()), ())))) (fun _ p k => bind_congr_ (rcheck_l2 N N p.1.2.1 p.1.2.2.1 p.2.1.1 p.2.1.2.1 p.2.1.2.2.1) _ _ (fun e => by rcases e with x | x <;> rfl)) (fun _ => rfl) (fun m z E Xc hE hX hrec hx => leaf_of_ev (B := rcheck_B) (loops := [rcheck_l1_L N]) (leaves := [rcheck_l2_h (rcheck_l2 N m), rcheck_l2_e0, rcheck_l2_e1]) (rcheck_all N) mixed ⟨rcheck_l1_ok N, trivial⟩ hE hX ⟨hrec, (fun p hp => by obtain rfl := Option.some.inj hp; exact hx), (fun p hp => by obtain rfl := Option.some.inj hp; exact hx), trivial⟩ RetOK.no (fun p => rcheck_l2_eq N m p.1.2.1 p.1.2.2.1 p.2.1.1 p.2.1.2.1 p.2.1.2.2.1))
abbrev rcheck_l3_at : List PI := [.c [1, 1, 1, 1, 1, 1, 0, 1, 0, 0, 0, 0], .c [1, 1, 1, 1, 1, 1, 0, 1, 0, 0, 0, 1], .c [1, 1, 1, 1, 1, 1, 0, 1, 0, 0, 1], .l [1, 1, 1, 1, 1, 1, 0, 1, 0, 0], .b 4, .c [1, 1, 1, 1, 1, 1, 1]]
abbrev rcheck_l3_st : Sta := ⟨[1, 6], ⟨[.own 0 0, .i .i64], [.segs [.sl (.pair (.int .i64) (.pair (.int .i64) .bool)), .sl (.pair (.int .i64) (.pair (.int .i64) (.int .i64))), .i .i64]]⟩⟩
abbrev rcheck_l3_h (rec : Int → (List (Int × (Int × Bool))) → (List (Int × (Int × Int))) → Int → Option ((Unit) ⊕ ((List (Int × (Int × Bool))) × (List (Int × (Int × Int))) × Int))) : Leaf ((Unit) ⊕ ((List (Int × (Int × Bool))) × (List (Int × (Int × Int))) × Int)) := ⟨rcheck_l3_at, rcheck_l3_st, fun p => rec p.1.2.1 p.2.1.1 p.2.1.2.1 p.2.1.2.2.1⟩
abbrev rcheck_l3_e0 : Leaf ((Unit) ⊕ ((List (Int × (Int × Bool))) × (List (Int × (Int × Int))) × Int)) := ⟨[.c [1, 1, 1, 1, 1, 1, 0, 1, 0, 0, 1, 0, 0, 1, 0, 0], .c [1, 1, 1, 1, 1, 1, 0, 1, 0, 0, 1, 0, 0, 1, 0, 1], .b 5, .c [1, 1, 1, 1, 1, 1, 0, 1, 0, 0, 1, 1], .l [1, 1, 1, 1, 1, 1, 0, 1, 0, 0], .b 4, .c [1, 1, 1, 1, 1, 1, 1]], ⟨[], ⟨[], []⟩⟩, fun p => some (.inl ())⟩
abbrev rcheck_l3_e1 : Leaf ((Unit) ⊕ ((List (Int × (Int × Bool))) × (List (Int × (Int × Int))) × Int)) := ⟨[.c [1, 1, 1, 1, 1, 1, 1, 0, 0], .c [1, 1, 1, 1, 1, 1, 1, 0, 1], .c [1, 1, 1, 1, 1, 1, 1, 1]], ⟨[1], ⟨[.own 0 0], [.segs [.sl (.pair (.int .i64) (.pair (.int .i64) .bool)), .sl (.pair (.int .i64) (.pair (.int .i64) (.int .i64))), .i .i64]]⟩⟩, fun p => some (.inr (p.2.1.1, p.2.1.2.1, p.2.1.2.2.1))⟩
noncomputable def rcheck_l3_L (N : Nat) : LoopS := { at_ := rcheck_l3_at, sta := rcheck_l3_st, exits := [([.c [1, 1, 1, 1, 1, 1, 0, 1, 0, 0, 1, 0, 0, 1, 0, 0], .c [1, 1, 1, 1, 1, 1, 0, 1, 0, 0, 1, 0, 0, 1, 0, 1], .b 5, .c [1, 1, 1, 1, 1, 1, 0, 1, 0, 0, 1, 1], .l [1, 1, 1, 1, 1, 1, 0, 1, 0, 0], .b 4, .c [1, 1, 1, 1, 1, 1, 1]], ⟨[], ⟨[], []⟩⟩), ([.c [1, 1, 1, 1, 1, 1, 1, 0, 0], .c [1, 1, 1, 1, 1, 1, 1, 0, 1], .c [1, 1, 1, 1, 1, 1, 1, 1]], ⟨[1], ⟨[.own 0 0], [.segs [.sl (.pair (.int .i64) (.pair (.int .i64) .bool)), .sl (.pair (.int .i64) (.pair (.int .i64) (.int .i64))), .i .i64]]⟩⟩)], run := fun p k => (rcheck_l3 N N p.1.2.1 p.2.1.1 p.2.1.2.1 p.2.1.2.2.1).bind fun e => match e with | .inl x => k (.inl ((), ())) | .inr x => k (.inr (.inl (((), ()), ((x.1, x.2.1, x.2.2, ()), ())))) }
theorem rcheck_l3_eq (N n_ : Nat) (i : Int) (t : List (Int × (Int × Bool))) (t2 : List (Int × (Int × Int))) (t3 : Int) : ev (Z := (Unit) ⊕ ((List (Int × (Int × Bool))) × (List (Int × (Int × Int))) × Int)) Try.prog (rcheck_sp N) rcheck_B [rcheck_l1_L N, rcheck_l2_L N] [rcheck_l3_h (rcheck_l3 N n_), rcheck_l3_e0, rcheck_l3_e1] none 400 true rcheck_l3_at (stL rcheck_l3_st (((), i, ()), ((t, t2, t3, ()), ()))) (stH rcheck_l3_st (((), i, ()), ((t, t2, t3, ()), ()))) = rcheck_l3 N (n_ + 1) i t t2 t3 := by kernel_rfl
theorem rcheck_l3_ok (N : Nat) {top : Bool} : LoopOK Try.prog rcheck_B.c rcheck_B.n rcheck_B.m0 top (rcheck_l3_L N) := loop_of_ev (Z := (Unit) ⊕ ((List (Int × (Int × Bool))) × (List (Int × (Int × Int))) × Int)) (N := N) (fun m p => rcheck_l3 N m p.1.2.1 p.2.1.1 p.2.1.2.1 p.2.1.2.2.1) (fun e => match e with | .inl x => .inl ((), ()) | .inr x => .inr (.inl (((), ()), ((x.1, x.2.1, x.2.2, ()), ())))) (fun _ p k => bind_congr_ (rcheck_l3 N N p.1.2.1 p.2.1.1 p.2.1.2.1 p.2.1.2.2.1) _ _ (fun e => by rcases e with x | x <;> rfl)) (fun _ => rfl) (fun m z E Xc hE hX hrec hx => leaf_of_ev (B := rcheck_B) (loops := [rcheck_l1_L N, rcheck_l2_L N]) (leaves := [rcheck_l3_h (rcheck_l3 N m), rcheck_l3_e0, rcheck_l3_e1]) (rcheck_all N) mixed ⟨rcheck_l1_ok N, rcheck_l2_ok N, trivial⟩ hE hX ⟨hrec, (fun p hp => by obtain rfl := Option.some.inj hp; exact hx), (fun p hp => by obtain rfl := Option.some.inj hp; exact hx), trivial⟩ RetOK.no (fun p => rcheck_l3_eq N m p.1.2.1 p.2.1.1 p.2.1.2.1 p.2.1.2.2.1))
abbrev rcheck_l4_at : List PI := [.c [1, 1, 1, 1, 1, 1, 1, 0, 1, 0, 0, 0, 0], .c [1, 1, 1, 1, 1, 1, 1, 0, 1, 0, 0, 0, 1], .c [1, 1, 1, 1, 1, 1, 1, 0, 1, 0, 0, 1], .l [1, 1, 1, 1, 1, 1, 1, 0, 1, 0, 0], .b 6, .c [1, 1, 1, 1, 1, 1, 1, 1]]
abbrev rcheck_l4_st : Sta := ⟨[1, 7], ⟨[.own 0 0, .i .i64], [.segs [.sl (.pair (.int .i64) (.pair (.int .i64) .bool)), .sl (.pair (.int .i64) (.pair (.int .i64) (.int .i64))), .i .i64]]⟩⟩
abbrev rcheck_l4_h (rec : Int → (List (Int × (Int × Bool))) → (List (Int × (Int × Int))) → Int → Option ((Unit) ⊕ (Unit))) : Leaf ((Unit) ⊕ (Unit)) := ⟨rcheck_l4_at, rcheck_l4_st, fun p => rec p.1.2.1 p.2.1.1 p.2.1.2.1 p.2.1.2.2.1⟩
abbrev rcheck_l4_e0 : Leaf ((Unit) ⊕ (Unit)) := ⟨[.c [1, 1, 1, 1, 1, 1, 1, 0, 1, 0, 0, 1, 0, 0, 1, 0, 0], .c [1, 1, 1, 1, 1, 1, 1, 0, 1, 0, 0, 1, 0, 0, 1, 0, 1], .b 7, .c [1, 1, 1, 1, 1, 1, 1, 0, 1, 0, 0, 1, 1], .l [1, 1, 1, 1, 1, 1, 1, 0, 1, 0, 0], .b 6, .c [1, 1, 1, 1, 1, 1, 1, 1]], ⟨[], ⟨[], []⟩⟩, fun p => some (.inl ())⟩
abbrev rcheck_l4_e1 : Leaf ((Unit) ⊕ (Unit)) := ⟨[.c [1, 1, 1, 1, 1, 1, 1, 1, 0], .c [1, 1, 1, 1, 1, 1, 1, 1, 1]], ⟨[], ⟨[], []⟩⟩, fun p => some (.inr ())⟩
noncomputable def rcheck_l4_L (N : Nat) : LoopS := { at_ := rcheck_l4_at, sta := rcheck_l4_st, exits := [([.c [1, 1, 1, 1, 1, 1, 1, 0, 1, 0, 0, 1, 0, 0, 1, 0, 0], .c [1, 1, 1, 1, 1, 1, 1, 0, 1, 0, 0, 1, 0, 0, 1, 0, 1], .b 7, .c [1, 1, 1, 1, 1, 1, 1, 0, 1, 0, 0, 1, 1], .l [1, 1, 1, 1, 1, 1, 1, 0, 1, 0, 0], .b 6, .c [1, 1, 1, 1, 1, 1, 1, 1]], ⟨[], ⟨[], []⟩⟩), ([.c [1, 1, 1, 1, 1, 1, 1, 1, 0], .c [1, 1, 1, 1, 1, 1, 1, 1, 1]], ⟨[], ⟨[], []⟩⟩)], run := fun p k => (rcheck_l4 N N p.1.2.1 p.2.1.1 p.2.1.2.1 p.2.1.2.2.1).bind fun e => match e with | .inl x => k (.inl ((), ())) | .inr x => k (.inr (.inl ((), ()))) }
theorem rcheck_l4_eq (N n_ : Nat) (i : Int) (t : List (Int × (Int × Bool))) (t2 : List (Int × (Int × Int))) (t3 : Int) : ev (Z := (Unit) ⊕ (Unit)) Try.prog (rcheck_sp N) rcheck_B [rcheck_l1_L N, rcheck_l2_L N, rcheck_l3_L N] [rcheck_l4_h (rcheck_l4 N n_), rcheck_l4_e0, rcheck_l4_e1] none 400 true rcheck_l4_at (stL rcheck_l4_st (((), i, ()), ((t, t2, t3, ()), ()))) (stH rcheck_l4_st (((), i, ()), ((t, t2, t3, ()), ()))) = rcheck_l4 N (n_ + 1) i t t2 t3 := by kernel_rfl
theorem rcheck_l4_ok (N : Nat) {top : Bool} : LoopOK Try.prog rcheck_B.c rcheck_B.n rcheck_B.m0 top (rcheck_l4_L N) := loop_of_ev (Z := (Unit) ⊕ (Unit)) (N := N) (fun m p => rcheck_l4 N m p.1.2.1 p.2.1.1 p.2.1.2.1 p.2.1.2.2.1) (fun e => match e with | .inl x => .inl ((), ()) | .inr x => .inr (.inl ((), ()))) (fun _ p k => bind_congr_ (rcheck_l4 N N p.1.2.1 p.2.1.1 p.2.1.2.1 p.2.1.2.2.1) _ _ (fun e => by rcases e with x | x <;> rfl)) (fun _ => rfl) (fun m z E Xc hE hX hrec hx => leaf_of_ev (B := rcheck_B) (loops := [rcheck_l1_L N, rcheck_l2_L N, rcheck_l3_L N]) (leaves := [rcheck_l4_h (rcheck_l4 N m), rcheck_l4_e0, rcheck_l4_e1]) (rcheck_all N) mixed ⟨rcheck_l1_ok N, rcheck_l2_ok N, rcheck_l3_ok N, trivial⟩ hE hX ⟨hrec, (fun p hp => by obtain rfl := Option.some.inj hp; exact hx), (fun p hp => by obtain rfl := Option.some.inj hp; exact hx), trivial⟩ RetOK.no (fun p => rcheck_l4_eq N m p.1.2.1 p.2.1.1 p.2.1.2.1 p.2.1.2.2.1))
abbrev rcheck_st : Sta := ⟨[0], ⟨[.agg [.sl (.pair (.int .i64) (.pair (.int .i64) .bool)), .sl (.pair (.int .i64) (.pair (.int .i64) (.int .i64))), .i .i64]], []⟩⟩
theorem rcheck_eq (N : Nat) (t : List (Int × (Int × Bool))) (t2 : List (Int × (Int × Int))) (t3 : Int) : ev (Z := Int) Try.prog (rcheck_sp N) rcheck_B [rcheck_l1_L N, rcheck_l2_L N, rcheck_l3_L N, rcheck_l4_L N] [] (some rcheck_rt) 400 false [.c [0], .c [1]] (stL rcheck_st (((t, t2, t3, ()), ()), ())) (stH rcheck_st (((t, t2, t3, ()), ()), ())) = rcheck_S N t t2 t3 := by kernel_rfl
noncomputable def sp_rcheck (N : Nat) : Spec := { f := 25, ins := ⟨[.agg [.sl (.pair (.int .i64) (.pair (.int .i64) .bool)), .sl (.pair (.int .i64) (.pair (.int .i64) (.int .i64))), .i .i64]], []⟩, outs := [⟨[.i .i64], []⟩], run := fun p k => (rcheck_S N p.1.1.1 p.1.1.2.1 p.1.1.2.2.1).bind fun r => k ((r, ()), ()) }
theorem sp_rcheck_ok (N : Nat) : SpecOK Try.prog (sp_rcheck N) := fn_sound (B := rcheck_B) (loops := [rcheck_l1_L N, rcheck_l2_L N, rcheck_l3_L N, rcheck_l4_L N]) (leaves := []) (fun p => rcheck_S N p.1.1.1 p.1.1.2.1 p.1.1.2.2.1) (fun r => ((r, ()), ())) rcheck_rt (fun _ _ _ => rfl) (fun r z h => by cases h; rfl) Try.func25 (by kernel_rfl) (by kernel_rfl) (by kernel_rfl) rfl rfl (by kernel_rfl) (fun args w => Sem.pv_run _ _ _ (by kernel_rfl) w) (rcheck_all N) mixed ⟨rcheck_l1_ok N, rcheck_l2_ok N, rcheck_l3_ok N, rcheck_l4_ok N, trivial⟩ (fun z E Xc hE hX hret => trivial) (fun p => rcheck_eq N p.1.1.1 p.1.1.2.1 p.1.1.2.2.1)

def has_l1 (N : Nat) : Nat → (List Int) → Int → Int → Option ((Unit) ⊕ (Unit))
  | 0, _, _, _ => none
  | n_ + 1, l, n, i =>
    br (decide (i < (l.length : Int)))
      (idx l i fun x_1 =>
      br (decide (x_1 = n))
        (some (.inl ()))
        (chk (i + 1) <|
        has_l1 N n_ l n (i + 1)))
      (some (.inr ()))
def has_S (N : Nat) (l : List Int) (n : Int) : Option Bool :=
  (has_l1 N N l n 0).bind fun e => match e with
  | .inl _ =>
    some true
  | .inr _ =>
    some false
noncomputable def has_sp (N : Nat) : List Spec := []
theorem has_all (N : Nat) : AllP (SpecOK Try.prog) (has_sp N) := trivial
noncomputable def has_c : Code := (Try.f139.body).getD .skip
noncomputable abbrev has_B : Body := { c := has_c, n := 18, res := [.tmp 4], outs := [⟨[.b], []⟩], m0 := 0 }
abbrev has_rt : altD has_B.outs → Option Bool := fun r => some r.1.1
abbrev has_l1_at : List PI := [.c [1, 0, 1, 0, 0, 0, 0], .c [1, 0, 1, 0, 0, 0, 1], .c [1, 0, 1, 0, 0, 1], .l [1, 0, 1, 0, 0], .b 0, .c [1, 1]]
abbrev has_l1_st : Sta := ⟨[0, 1, 5], ⟨[.sl (.int .i64), .i .i64, .i .i64], []⟩⟩
abbrev has_l1_h (rec : (List Int) → Int → Int → Option ((Unit) ⊕ (Unit))) : Leaf ((Unit) ⊕ (Unit)) := ⟨has_l1_at, has_l1_st, fun p => rec p.1.1 p.1.2.1 p.1.2.2.1⟩
abbrev has_l1_e0 : Leaf ((Unit) ⊕ (Unit)) := ⟨[.c [1, 0, 1, 0, 0, 1, 0, 0, 1, 0, 0], .c [1, 0, 1, 0, 0, 1, 0, 0, 1, 0, 1], .b 1, .c [1, 0, 1, 0, 0, 1, 1], .l [1, 0, 1, 0, 0], .b 0, .c [1, 1]], ⟨[], ⟨[], []⟩⟩, fun p => some (.inl ())⟩
abbrev has_l1_e1 : Leaf ((Unit) ⊕ (Unit)) := ⟨[.c [1, 1, 0], .c [1, 1, 1]], ⟨[], ⟨[], []⟩⟩, fun p => some (.inr ())⟩
noncomputable def has_l1_L (N : Nat) : LoopS := { at_ := has_l1_at, sta := has_l1_st, exits := [([.c [1, 0, 1, 0, 0, 1, 0, 0, 1, 0, 0], .c [1, 0, 1, 0, 0, 1, 0, 0, 1, 0, 1], .b 1, .c [1, 0, 1, 0, 0, 1, 1], .l [1, 0, 1, 0, 0], .b 0, .c [1, 1]], ⟨[], ⟨[], []⟩⟩), ([.c [1, 1, 0], .c [1, 1, 1]], ⟨[], ⟨[], []⟩⟩)], run := fun p k => (has_l1 N N p.1.1 p.1.2.1 p.1.2.2.1).bind fun e => match e with | .inl x => k (.inl ((), ())) | .inr x => k (.inr (.inl ((), ()))) }
theorem has_l1_eq (N n_ : Nat) (l : List Int) (n : Int) (i : Int) : ev (Z := (Unit) ⊕ (Unit)) Try.prog (has_sp N) has_B [] [has_l1_h (has_l1 N n_), has_l1_e0, has_l1_e1] none 400 true has_l1_at (stL has_l1_st ((l, n, i, ()), ())) (stH has_l1_st ((l, n, i, ()), ())) = has_l1 N (n_ + 1) l n i := by kernel_rfl
theorem has_l1_ok (N : Nat) {top : Bool} : LoopOK Try.prog has_B.c has_B.n has_B.m0 top (has_l1_L N) := loop_of_ev (Z := (Unit) ⊕ (Unit)) (N := N) (fun m p => has_l1 N m p.1.1 p.1.2.1 p.1.2.2.1) (fun e => match e with | .inl x => .inl ((), ()) | .inr x => .inr (.inl ((), ()))) (fun _ p k => bind_congr_ (has_l1 N N p.1.1 p.1.2.1 p.1.2.2.1) _ _ (fun e => by rcases e with x | x <;> rfl)) (fun _ => rfl) (fun m z E Xc hE hX hrec hx => leaf_of_ev (B := has_B) (loops := []) (leaves := [has_l1_h (has_l1 N m), has_l1_e0, has_l1_e1]) (has_all N) mixed trivial hE hX ⟨hrec, (fun p hp => by obtain rfl := Option.some.inj hp; exact hx), (fun p hp => by obtain rfl := Option.some.inj hp; exact hx), trivial⟩ RetOK.no (fun p => has_l1_eq N m p.1.1 p.1.2.1 p.1.2.2.1))
abbrev has_st : Sta := ⟨[0, 1], ⟨[.sl (.int .i64), .i .i64], []⟩⟩
theorem has_eq (N : Nat) (l : List Int) (n : Int) : ev (Z := Bool) Try.prog (has_sp N) has_B [has_l1_L N] [] (some has_rt) 400 false [.c [0], .c [1]] (stL has_st ((l, n, ()), ())) (stH has_st ((l, n, ()), ())) = has_S N l n := by kernel_rfl
noncomputable def sp_has (N : Nat) : Spec := { f := 139, ins := ⟨[.sl (.int .i64), .i .i64], []⟩, outs := [⟨[.b], []⟩], run := fun p k => (has_S N p.1.1 p.1.2.1).bind fun r => k ((r, ()), ()) }
theorem sp_has_ok (N : Nat) : SpecOK Try.prog (sp_has N) := fn_sound (B := has_B) (loops := [has_l1_L N]) (leaves := []) (fun p => has_S N p.1.1 p.1.2.1) (fun r => ((r, ()), ())) has_rt (fun _ _ _ => rfl) (fun r z h => by cases h; rfl) Try.func139 (by kernel_rfl) (by kernel_rfl) (by kernel_rfl) rfl rfl (by kernel_rfl) (fun args w => Sem.pv_run _ _ _ (by kernel_rfl) w) (has_all N) mixed ⟨has_l1_ok N, trivial⟩ (fun z E Xc hE hX hret => trivial) (fun p => has_eq N p.1.1 p.1.2.1)

def words_l1 (N : Nat) : Nat → Int → Int → (List Int) → Option (List Int)
  | 0, _, _, _ => none
  | n_ + 1, to, w, out =>
    br (decide (w < to))
      (lim (out.length + [w].length) <|
      chk (w + 1) <|
      words_l1 N n_ to (w + 1) (out ++ [w]))
      (some (out))
def words_S (N : Nat) (from_ : Int) (to : Int) : Option (List Int) :=
  (words_l1 N N to from_ []).bind fun out_1 =>
  some out_1
noncomputable def words_sp (N : Nat) : List Spec := []
theorem words_all (N : Nat) : AllP (SpecOK Try.prog) (words_sp N) := trivial
noncomputable def words_c : Code := (Try.f102.body).getD .skip
noncomputable abbrev words_B : Body := { c := words_c, n := 18, res := [.tmp 4], outs := [⟨[.sl (.int .i64)], []⟩], m0 := 0 }
abbrev words_rt : altD words_B.outs → Option (List Int) := fun r => some r.1.1
abbrev words_l1_at : List PI := [.c [1, 1, 0, 1, 0, 0, 0, 0], .c [1, 1, 0, 1, 0, 0, 0, 1], .c [1, 1, 0, 1, 0, 0, 1], .l [1, 1, 0, 1, 0, 0], .b 0, .c [1, 1, 1]]
abbrev words_l1_st : Sta := ⟨[1, 5, 6], ⟨[.i .i64, .ols 0, .i .i64], [.lst (.int .i64)]⟩⟩
abbrev words_l1_h (rec : Int → Int → (List Int) → Option (List Int)) : Leaf (List Int) := ⟨words_l1_at, words_l1_st, fun p => rec p.1.1 p.1.2.2.1 p.2.1⟩
abbrev words_l1_e0 : Leaf (List Int) := ⟨[.c [1, 1, 1, 0], .c [1, 1, 1, 1]], ⟨[5], ⟨[.ols 0], [.lst (.int .i64)]⟩⟩, fun p => some (p.2.1)⟩
noncomputable def words_l1_L (N : Nat) : LoopS := { at_ := words_l1_at, sta := words_l1_st, exits := [([.c [1, 1, 1, 0], .c [1, 1, 1, 1]], ⟨[5], ⟨[.ols 0], [.lst (.int .i64)]⟩⟩)], run := fun p k => (words_l1 N N p.1.1 p.1.2.2.1 p.2.1).bind fun e => k (.inl (((), ()), (e, ()))) }
theorem words_l1_eq (N n_ : Nat) (to : Int) (w : Int) (out : List Int) : ev (Z := List Int) Try.prog (words_sp N) words_B [] [words_l1_h (words_l1 N n_), words_l1_e0] none 400 true words_l1_at (stL words_l1_st ((to, (), w, ()), (out, ()))) (stH words_l1_st ((to, (), w, ()), (out, ()))) = words_l1 N (n_ + 1) to w out := by kernel_rfl
theorem words_l1_ok (N : Nat) {top : Bool} : LoopOK Try.prog words_B.c words_B.n words_B.m0 top (words_l1_L N) := loop_of_ev (Z := List Int) (N := N) (fun m p => words_l1 N m p.1.1 p.1.2.2.1 p.2.1) (fun e => .inl (((), ()), (e, ()))) (fun _ _ _ => rfl) (fun _ => rfl) (fun m z E Xc hE hX hrec hx => leaf_of_ev (B := words_B) (loops := []) (leaves := [words_l1_h (words_l1 N m), words_l1_e0]) (words_all N) mixed trivial hE hX ⟨hrec, (fun p hp => by obtain rfl := Option.some.inj hp; exact hx), trivial⟩ RetOK.no (fun p => words_l1_eq N m p.1.1 p.1.2.2.1 p.2.1))
abbrev words_st : Sta := ⟨[0, 1], ⟨[.i .i64, .i .i64], []⟩⟩
theorem words_eq (N : Nat) (from_ : Int) (to : Int) : ev (Z := List Int) Try.prog (words_sp N) words_B [words_l1_L N] [] (some words_rt) 400 false [.c [0], .c [1]] (stL words_st ((from_, to, ()), ())) (stH words_st ((from_, to, ()), ())) = words_S N from_ to := by kernel_rfl
noncomputable def sp_words (N : Nat) : Spec := { f := 102, ins := ⟨[.i .i64, .i .i64], []⟩, outs := [⟨[.sl (.int .i64)], []⟩], run := fun p k => (words_S N p.1.1 p.1.2.1).bind fun r => k ((r, ()), ()) }
theorem sp_words_ok (N : Nat) : SpecOK Try.prog (sp_words N) := fn_sound (B := words_B) (loops := [words_l1_L N]) (leaves := []) (fun p => words_S N p.1.1 p.1.2.1) (fun r => ((r, ()), ())) words_rt (fun _ _ _ => rfl) (fun r z h => by cases h; rfl) Try.func102 (by kernel_rfl) (by kernel_rfl) (by kernel_rfl) rfl rfl (by kernel_rfl) (fun args w => Sem.pv_run _ _ _ (by kernel_rfl) w) (words_all N) mixed ⟨words_l1_ok N, trivial⟩ (fun z E Xc hE hX hret => trivial) (fun p => words_eq N p.1.1 p.1.2.1)

def otherwise_l1 (N : Nat) : Nat → (List Int) → Int → Int → Int → Int → Option ((Unit) ⊕ (List Int × Int × Int × Int))
  | 0, _, _, _, _, _ => none
  | n_ + 1, l, w, x, x2, x3 =>
    br (decide (w ≤ x3))
      ((has_S N l w).bind fun x_1 =>
      br (!x_1)
        (some (.inl ()))
        (chk (w + 1) <|
        otherwise_l1 N n_ l (w + 1) x x2 x3))
      (some (.inr (l, x, x2, x3)))
def otherwise_S (N : Nat) (x : Int) (x2 : Int) (x3 : Int) (l : List Int) : Option Bool :=
  (otherwise_l1 N N l x2 x x2 x3).bind fun e => match e with
  | .inl _ =>
    some false
  | .inr (l_2, x_3, x2_4, x3_5) =>
    (has_S N l_2 x_3).bind fun x_6 =>
    some (!x_6)
noncomputable def otherwise_sp (N : Nat) : List Spec := [sp_has N]
theorem otherwise_all (N : Nat) : AllP (SpecOK Try.prog) (otherwise_sp N) := ⟨sp_has_ok N, trivial⟩
noncomputable def otherwise_c : Code := (Try.f101.body).getD .skip
noncomputable abbrev otherwise_B : Body := { c := otherwise_c, n := 25, res := [.tmp 4], outs := [⟨[.b], []⟩], m0 := 0 }
abbrev otherwise_rt : altD otherwise_B.outs → Option Bool := fun r => some r.1.1
abbrev otherwise_l1_at : List PI := [.c [1, 0, 1, 0, 0, 0, 0], .c [1, 0, 1, 0, 0, 0, 1], .c [1, 0, 1, 0, 0, 1], .l [1, 0, 1, 0, 0], .b 0, .c [1, 1]]
abbrev otherwise_l1_st : Sta := ⟨[1, 2, 5], ⟨[.sl (.int .i64), .own 0 0, .i .i64], [.segs [.i .i64, .i .i64, .i .i64]]⟩⟩
abbrev otherwise_l1_h (rec : (List Int) → Int → Int → Int → Int → Option ((Unit) ⊕ (List Int × Int × Int × Int))) : Leaf ((Unit) ⊕ (List Int × Int × Int × Int)) := ⟨otherwise_l1_at, otherwise_l1_st, fun p => rec p.1.1 p.1.2.2.1 p.2.1.1 p.2.1.2.1 p.2.1.2.2.1⟩
abbrev otherwise_l1_e0 : Leaf ((Unit) ⊕ (List Int × Int × Int × Int)) := ⟨[.c [1, 0, 1, 0, 0, 1, 0, 0, 1, 0, 0], .c [1, 0, 1, 0, 0, 1, 0, 0, 1, 0, 1], .b 1, .c [1, 0, 1, 0, 0, 1, 1], .l [1, 0, 1, 0, 0], .b 0, .c [1, 1]], ⟨[], ⟨[], []⟩⟩, fun p => some (.inl ())⟩
abbrev otherwise_l1_e1 : Leaf ((Unit) ⊕ (List Int × Int × Int × Int)) := ⟨[.c [1, 1, 0], .c [1, 1, 1]], ⟨[1, 2], ⟨[.sl (.int .i64), .own 0 0], [.segs [.i .i64, .i .i64, .i .i64]]⟩⟩, fun p => some (.inr (p.1.1, p.2.1.1, p.2.1.2.1, p.2.1.2.2.1))⟩
noncomputable def otherwise_l1_L (N : Nat) : LoopS := { at_ := otherwise_l1_at, sta := otherwise_l1_st, exits := [([.c [1, 0, 1, 0, 0, 1, 0, 0, 1, 0, 0], .c [1, 0, 1, 0, 0, 1, 0, 0, 1, 0, 1], .b 1, .c [1, 0, 1, 0, 0, 1, 1], .l [1, 0, 1, 0, 0], .b 0, .c [1, 1]], ⟨[], ⟨[], []⟩⟩), ([.c [1, 1, 0], .c [1, 1, 1]], ⟨[1, 2], ⟨[.sl (.int .i64), .own 0 0], [.segs [.i .i64, .i .i64, .i .i64]]⟩⟩)], run := fun p k => (otherwise_l1 N N p.1.1 p.1.2.2.1 p.2.1.1 p.2.1.2.1 p.2.1.2.2.1).bind fun e => match e with | .inl x => k (.inl ((), ())) | .inr x => k (.inr (.inl ((x.1, (), ()), ((x.2.1, x.2.2.1, x.2.2.2, ()), ())))) }
theorem otherwise_l1_eq (N n_ : Nat) (l : List Int) (w : Int) (x : Int) (x2 : Int) (x3 : Int) : ev (Z := (Unit) ⊕ (List Int × Int × Int × Int)) Try.prog (otherwise_sp N) otherwise_B [] [otherwise_l1_h (otherwise_l1 N n_), otherwise_l1_e0, otherwise_l1_e1] none 400 true otherwise_l1_at (stL otherwise_l1_st ((l, (), w, ()), ((x, x2, x3, ()), ()))) (stH otherwise_l1_st ((l, (), w, ()), ((x, x2, x3, ()), ()))) = otherwise_l1 N (n_ + 1) l w x x2 x3 := by kernel_rfl
theorem otherwise_l1_ok (N : Nat) {top : Bool} : LoopOK Try.prog otherwise_B.c otherwise_B.n otherwise_B.m0 top (otherwise_l1_L N) := loop_of_ev (Z := (Unit) ⊕ (List Int × Int × Int × Int)) (N := N) (fun m p => otherwise_l1 N m p.1.1 p.1.2.2.1 p.2.1.1 p.2.1.2.1 p.2.1.2.2.1) (fun e => match e with | .inl x => .inl ((), ()) | .inr x => .inr (.inl ((x.1, (), ()), ((x.2.1, x.2.2.1, x.2.2.2, ()), ())))) (fun _ p k => bind_congr_ (otherwise_l1 N N p.1.1 p.1.2.2.1 p.2.1.1 p.2.1.2.1 p.2.1.2.2.1) _ _ (fun e => by rcases e with x | x <;> rfl)) (fun _ => rfl) (fun m z E Xc hE hX hrec hx => leaf_of_ev (B := otherwise_B) (loops := []) (leaves := [otherwise_l1_h (otherwise_l1 N m), otherwise_l1_e0, otherwise_l1_e1]) (otherwise_all N) mixed trivial hE hX ⟨hrec, (fun p hp => by obtain rfl := Option.some.inj hp; exact hx), (fun p hp => by obtain rfl := Option.some.inj hp; exact hx), trivial⟩ RetOK.no (fun p => otherwise_l1_eq N m p.1.1 p.1.2.2.1 p.2.1.1 p.2.1.2.1 p.2.1.2.2.1))
abbrev otherwise_st : Sta := ⟨[0, 1], ⟨[.agg [.i .i64, .i .i64, .i .i64], .sl (.int .i64)], []⟩⟩
theorem otherwise_eq (N : Nat) (x : Int) (x2 : Int) (x3 : Int) (l : List Int) : ev (Z := Bool) Try.prog (otherwise_sp N) otherwise_B [otherwise_l1_L N] [] (some otherwise_rt) 400 false [.c [0], .c [1]] (stL otherwise_st (((x, x2, x3, ()), l, ()), ())) (stH otherwise_st (((x, x2, x3, ()), l, ()), ())) = otherwise_S N x x2 x3 l := by kernel_rfl
noncomputable def sp_otherwise (N : Nat) : Spec := { f := 101, ins := ⟨[.agg [.i .i64, .i .i64, .i .i64], .sl (.int .i64)], []⟩, outs := [⟨[.b], []⟩], run := fun p k => (otherwise_S N p.1.1.1 p.1.1.2.1 p.1.1.2.2.1 p.1.2.1).bind fun r => k ((r, ()), ()) }
theorem sp_otherwise_ok (N : Nat) : SpecOK Try.prog (sp_otherwise N) := fn_sound (B := otherwise_B) (loops := [otherwise_l1_L N]) (leaves := []) (fun p => otherwise_S N p.1.1.1 p.1.1.2.1 p.1.1.2.2.1 p.1.2.1) (fun r => ((r, ()), ())) otherwise_rt (fun _ _ _ => rfl) (fun r z h => by cases h; rfl) Try.func101 (by kernel_rfl) (by kernel_rfl) (by kernel_rfl) rfl rfl (by kernel_rfl) (fun args w => Sem.pv_run _ _ _ (by kernel_rfl) w) (otherwise_all N) mixed ⟨otherwise_l1_ok N, trivial⟩ (fun z E Xc hE hX hret => trivial) (fun p => otherwise_eq N p.1.1.1 p.1.1.2.1 p.1.1.2.2.1 p.1.2.1)

def said_j1 (N : Nat) (rec : (List Int) → Int → (List (Int × (Int × Bool))) → (List (Int × (Int × Int))) → Int → (List Int) → Option (List Int)) (l : List Int) (i : Int) (t : List (Int × (Int × Bool))) (t2 : List (Int × (Int × Int))) (t3 : Int) (out : List Int) : Option (List Int) :=
  chk (i + 1) <|
  rec l (i + 1) t t2 t3 out
def said_l1 (N : Nat) : Nat → (List Int) → Int → (List (Int × (Int × Bool))) → (List (Int × (Int × Int))) → Int → (List Int) → Option (List Int)
  | 0, _, _, _, _, _, _ => none
  | n_ + 1, l, i, t, t2, t3, out =>
    br (decide (i < (t2.length : Int)))
      (idx t2 i fun x_1 =>
      (otherwise_S N x_1.1 x_1.2.1 x_1.2.2 l).bind fun x_2 =>
      br x_2
        (lim (out.length + [i].length) <|
        said_j1 N (said_l1 N n_) l i t t2 t3 (out ++ [i]))
        (said_j1 N (said_l1 N n_) l i t t2 t3 out))
      (some (out))
def said_S (N : Nat) (t : List (Int × (Int × Bool))) (t2 : List (Int × (Int × Int))) (t3 : Int) (l : List Int) : Option (List Int) :=
  (said_l1 N N l 0 t t2 t3 []).bind fun out_3 =>
  some out_3
noncomputable def said_sp (N : Nat) : List Spec := [sp_otherwise N]
theorem said_all (N : Nat) : AllP (SpecOK Try.prog) (said_sp N) := ⟨sp_otherwise_ok N, trivial⟩
noncomputable def said_c : Code := (Try.f112.body).getD .skip
noncomputable abbrev said_B : Body := { c := said_c, n := 26, res := [.tmp 4], outs := [⟨[.sl (.int .i64)], []⟩], m0 := 0 }
abbrev said_rt : altD said_B.outs → Option (List Int) := fun r => some r.1.1
abbrev said_l1_at : List PI := [.c [1, 1, 0, 1, 0, 0, 0, 0], .c [1, 1, 0, 1, 0, 0, 0, 1], .c [1, 1, 0, 1, 0, 0, 1], .l [1, 1, 0, 1, 0, 0], .b 0, .c [1, 1, 1]]
abbrev said_l1_st : Sta := ⟨[1, 2, 5, 6], ⟨[.sl (.int .i64), .own 0 0, .ols 1, .i .i64], [.segs [.sl (.pair (.int .i64) (.pair (.int .i64) .bool)), .sl (.pair (.int .i64) (.pair (.int .i64) (.int .i64))), .i .i64], .lst (.int .i64)]⟩⟩
abbrev said_l1_h (rec : (List Int) → Int → (List (Int × (Int × Bool))) → (List (Int × (Int × Int))) → Int → (List Int) → Option (List Int)) : Leaf (List Int) := ⟨said_l1_at, said_l1_st, fun p => rec p.1.1 p.1.2.2.2.1 p.2.1.1 p.2.1.2.1 p.2.1.2.2.1 p.2.2.1⟩
abbrev said_l1_e0 : Leaf (List Int) := ⟨[.c [1, 1, 1, 0], .c [1, 1, 1, 1]], ⟨[5], ⟨[.ols 0], [.lst (.int .i64)]⟩⟩, fun p => some (p.2.1)⟩
abbrev said_j1_at : List PI := [.c [1, 1, 0, 1, 0, 0, 1, 1], .l [1, 1, 0, 1, 0, 0], .b 0, .c [1, 1, 1]]
abbrev said_j1_st : Sta := ⟨[1, 2, 5, 6], ⟨[.sl (.int .i64), .own 0 0, .ols 1, .i .i64], [.segs [.sl (.pair (.int .i64) (.pair (.int .i64) .bool)), .sl (.pair (.int .i64) (.pair (.int .i64) (.int .i64))), .i .i64], .lst (.int .i64)]⟩⟩
abbrev said_j1_k (N : Nat) (rec : (List Int) → Int → (List (Int × (Int × Bool))) → (List (Int × (Int × Int))) → Int → (List Int) → Option (List Int)) : Leaf (List Int) := ⟨said_j1_at, said_j1_st, fun p => said_j1 N rec p.1.1 p.1.2.2.2.1 p.2.1.1 p.2.1.2.1 p.2.1.2.2.1 p.2.2.1⟩
theorem said_j1_eq (N : Nat) (rec : (List Int) → Int → (List (Int × (Int × Bool))) → (List (Int × (Int × Int))) → Int → (List Int) → Option (List Int)) (l : List Int) (i : Int) (t : List (Int × (Int × Bool))) (t2 : List (Int × (Int × Int))) (t3 : Int) (out : List Int) : ev (Z := List Int) Try.prog (said_sp N) said_B [] [said_l1_h rec, said_l1_e0] none 400 true said_j1_at (stL said_j1_st ((l, (), (), i, ()), ((t, t2, t3, ()), out, ()))) (stH said_j1_st ((l, (), (), i, ()), ((t, t2, t3, ()), out, ()))) = said_j1 N rec l i t t2 t3 out := by kernel_rfl
theorem said_j1_lf (N : Nat) (rec : (List Int) → Int → (List (Int × (Int × Bool))) → (List (Int × (Int × Int))) → Int → (List Int) → Option (List Int)) {z : List Int} {top : Bool} {E : EE} {Xc : Ctx} (hE : EOK said_B.m0 E) (hX : CxOK top Xc) (hrec : LeafOK Try.prog said_B.c said_B.n said_B.m0 E Xc z (said_l1_h rec)) (h0 : LeafOK Try.prog said_B.c said_B.n said_B.m0 E Xc z said_l1_e0) : LeafOK Try.prog said_B.c said_B.n said_B.m0 E Xc z (said_j1_k N rec) := leaf_of_ev (B := said_B) (loops := []) (leaves := [said_l1_h rec, said_l1_e0]) (said_all N) mixed trivial hE hX ⟨hrec, h0, trivial⟩ RetOK.no (fun p => said_j1_eq N rec p.1.1 p.1.2.2.2.1 p.2.1.1 p.2.1.2.1 p.2.1.2.2.1 p.2.2.1)
noncomputable def said_l1_L (N : Nat) : LoopS := { at_ := said_l1_at, sta := said_l1_st, exits := [([.c [1, 1, 1, 0], .c [1, 1, 1, 1]], ⟨[5], ⟨[.ols 0], [.lst (.int .i64)]⟩⟩)], run := fun p k => (said_l1 N N p.1.1 p.1.2.2.2.1 p.2.1.1 p.2.1.2.1 p.2.1.2.2.1 p.2.2.1).bind fun e => k (.inl (((), ()), (e, ()))) }
theorem said_l1_eq (N n_ : Nat) (l : List Int) (i : Int) (t : List (Int × (Int × Bool))) (t2 : List (Int × (Int × Int))) (t3 : Int) (out : List Int) : ev (Z := List Int) Try.prog (said_sp N) said_B [] [said_l1_h (said_l1 N n_), said_l1_e0, said_j1_k N (said_l1 N n_)] none 400 true said_l1_at (stL said_l1_st ((l, (), (), i, ()), ((t, t2, t3, ()), out, ()))) (stH said_l1_st ((l, (), (), i, ()), ((t, t2, t3, ()), out, ()))) = said_l1 N (n_ + 1) l i t t2 t3 out := by kernel_rfl
theorem said_l1_ok (N : Nat) {top : Bool} : LoopOK Try.prog said_B.c said_B.n said_B.m0 top (said_l1_L N) := loop_of_ev (Z := List Int) (N := N) (fun m p => said_l1 N m p.1.1 p.1.2.2.2.1 p.2.1.1 p.2.1.2.1 p.2.1.2.2.1 p.2.2.1) (fun e => .inl (((), ()), (e, ()))) (fun _ _ _ => rfl) (fun _ => rfl) (fun m z E Xc hE hX hrec hx => leaf_of_ev (B := said_B) (loops := []) (leaves := [said_l1_h (said_l1 N m), said_l1_e0, said_j1_k N (said_l1 N m)]) (said_all N) mixed trivial hE hX ⟨hrec, (fun p hp => by obtain rfl := Option.some.inj hp; exact hx), said_j1_lf N _ hE hX hrec (fun p hp => by obtain rfl := Option.some.inj hp; exact hx), trivial⟩ RetOK.no (fun p => said_l1_eq N m p.1.1 p.1.2.2.2.1 p.2.1.1 p.2.1.2.1 p.2.1.2.2.1 p.2.2.1))
abbrev said_st : Sta := ⟨[0, 1], ⟨[.agg [.sl (.pair (.int .i64) (.pair (.int .i64) .bool)), .sl (.pair (.int .i64) (.pair (.int .i64) (.int .i64))), .i .i64], .sl (.int .i64)], []⟩⟩
theorem said_eq (N : Nat) (t : List (Int × (Int × Bool))) (t2 : List (Int × (Int × Int))) (t3 : Int) (l : List Int) : ev (Z := List Int) Try.prog (said_sp N) said_B [said_l1_L N] [] (some said_rt) 400 false [.c [0], .c [1]] (stL said_st (((t, t2, t3, ()), l, ()), ())) (stH said_st (((t, t2, t3, ()), l, ()), ())) = said_S N t t2 t3 l := by kernel_rfl
noncomputable def sp_said (N : Nat) : Spec := { f := 112, ins := ⟨[.agg [.sl (.pair (.int .i64) (.pair (.int .i64) .bool)), .sl (.pair (.int .i64) (.pair (.int .i64) (.int .i64))), .i .i64], .sl (.int .i64)], []⟩, outs := [⟨[.sl (.int .i64)], []⟩], run := fun p k => (said_S N p.1.1.1 p.1.1.2.1 p.1.1.2.2.1 p.1.2.1).bind fun r => k ((r, ()), ()) }
theorem sp_said_ok (N : Nat) : SpecOK Try.prog (sp_said N) := fn_sound (B := said_B) (loops := [said_l1_L N]) (leaves := []) (fun p => said_S N p.1.1.1 p.1.1.2.1 p.1.1.2.2.1 p.1.2.1) (fun r => ((r, ()), ())) said_rt (fun _ _ _ => rfl) (fun r z h => by cases h; rfl) Try.func112 (by kernel_rfl) (by kernel_rfl) (by kernel_rfl) rfl rfl (by kernel_rfl) (fun args w => Sem.pv_run _ _ _ (by kernel_rfl) w) (said_all N) mixed ⟨said_l1_ok N, trivial⟩ (fun z E Xc hE hX hret => trivial) (fun p => said_eq N p.1.1.1 p.1.1.2.1 p.1.1.2.2.1 p.1.2.1)

def stop_S (N : Nat) (t : List (Int × (Int × Bool))) (t2 : List (Int × (Int × Int))) (t3 : Int) (place : Int) : Option Bool :=
  br (decide (place = 0))
    (some true)
    (br (decide (place = (t.length : Int)))
      (some true)
      (chk (place - 1) <|
      idx t (place - 1) fun x_1 =>
      some x_1.2.2))
noncomputable def stop_sp (N : Nat) : List Spec := []
theorem stop_all (N : Nat) : AllP (SpecOK Try.prog) (stop_sp N) := trivial
noncomputable def stop_c : Code := (Try.f146.body).getD .skip
noncomputable abbrev stop_B : Body := { c := stop_c, n := 23, res := [.tmp 4], outs := [⟨[.b], []⟩], m0 := 0 }
abbrev stop_rt : altD stop_B.outs → Option Bool := fun r => some r.1.1
abbrev stop_st : Sta := ⟨[0, 1], ⟨[.agg [.sl (.pair (.int .i64) (.pair (.int .i64) .bool)), .sl (.pair (.int .i64) (.pair (.int .i64) (.int .i64))), .i .i64], .i .i64], []⟩⟩
theorem stop_eq (N : Nat) (t : List (Int × (Int × Bool))) (t2 : List (Int × (Int × Int))) (t3 : Int) (place : Int) : ev (Z := Bool) Try.prog (stop_sp N) stop_B [] [] (some stop_rt) 400 false [.c [0], .c [1]] (stL stop_st (((t, t2, t3, ()), place, ()), ())) (stH stop_st (((t, t2, t3, ()), place, ()), ())) = stop_S N t t2 t3 place := by kernel_rfl
noncomputable def sp_stop (N : Nat) : Spec := { f := 146, ins := ⟨[.agg [.sl (.pair (.int .i64) (.pair (.int .i64) .bool)), .sl (.pair (.int .i64) (.pair (.int .i64) (.int .i64))), .i .i64], .i .i64], []⟩, outs := [⟨[.b], []⟩], run := fun p k => (stop_S N p.1.1.1 p.1.1.2.1 p.1.1.2.2.1 p.1.2.1).bind fun r => k ((r, ()), ()) }
theorem sp_stop_ok (N : Nat) : SpecOK Try.prog (sp_stop N) := fn_sound (B := stop_B) (loops := []) (leaves := []) (fun p => stop_S N p.1.1.1 p.1.1.2.1 p.1.1.2.2.1 p.1.2.1) (fun r => ((r, ()), ())) stop_rt (fun _ _ _ => rfl) (fun r z h => by cases h; rfl) Try.func146 (by kernel_rfl) (by kernel_rfl) (by kernel_rfl) rfl rfl (by kernel_rfl) (fun args w => Sem.pv_run _ _ _ (by kernel_rfl) w) (stop_all N) mixed trivial (fun z E Xc hE hX hret => trivial) (fun p => stop_eq N p.1.1.1 p.1.1.2.1 p.1.1.2.2.1 p.1.2.1)

def rfault_l1 (N : Nat) : Nat → Int → Int → Int → Int → (List (Int × (Int × Bool))) → (List (Int × (Int × Int))) → Int → Option (Int × Int × Int × (List (Int × (Int × Bool))) × (List (Int × (Int × Int))) × Int)
  | 0, _, _, _, _, _, _, _ => none
  | n_ + 1, from_, to, n, w, t, t2, t3 =>
    br (decide (w < to))
      (idx t w fun x_1 =>
      chk (n + x_1.1) <|
      chk (w + 1) <|
      rfault_l1 N n_ from_ to (n + x_1.1) (w + 1) t t2 t3)
      (some ((from_, to, n, t, t2, t3)))
def rfault_S (N : Nat) (t : List (Int × (Int × Bool))) (t2 : List (Int × (Int × Int))) (t3 : Int) (from_ : Int) (to : Int) : Option Int :=
  (rfault_l1 N N from_ to 0 from_ t t2 t3).bind fun (from__2, to_3, n_4, t_5, t2_6, t3_7) =>
  br (decide (t3_7 < n_4))
    (some 0)
    ((stop_S N t_5 t2_6 t3_7 from__2).bind fun x_8 =>
    br (!x_8)
      (some 1)
      ((stop_S N t_5 t2_6 t3_7 to_3).bind fun x_9 =>
      br (!x_9)
        (some 1)
        ((words_S N from__2 to_3).bind fun x_10 =>
        (said_S N t_5 t2_6 t3_7 x_10).bind fun x_11 =>
        br (decide (0 < (x_11.length : Int)))
          (some 2)
          (some (-1)))))
noncomputable def rfault_sp (N : Nat) : List Spec := [sp_words N, sp_said N, sp_stop N]
theorem rfault_all (N : Nat) : AllP (SpecOK Try.prog) (rfault_sp N) := ⟨sp_words_ok N, sp_said_ok N, sp_stop_ok N, trivial⟩
noncomputable def rfault_c : Code := (Try.f96.body).getD .skip
noncomputable abbrev rfault_B : Body := { c := rfault_c, n := 44, res := [.tmp 6], outs := [⟨[.i .i64], []⟩], m0 := 0 }
abbrev rfault_rt : altD rfault_B.outs → Option Int := fun r => some r.1.1
abbrev rfault_l1_at : List PI := [.c [1, 1, 0, 1, 0, 0, 0, 0], .c [1, 1, 0, 1, 0, 0, 0, 1], .c [1, 1, 0, 1, 0, 0, 1], .l [1, 1, 0, 1, 0, 0], .b 0, .c [1, 1, 1]]
abbrev rfault_l1_st : Sta := ⟨[1, 2, 3, 7, 8], ⟨[.i .i64, .i .i64, .own 0 0, .i .i64, .i .i64], [.segs [.sl (.pair (.int .i64) (.pair (.int .i64) .bool)), .sl (.pair (.int .i64) (.pair (.int .i64) (.int .i64))), .i .i64]]⟩⟩
abbrev rfault_l1_h (rec : Int → Int → Int → Int → (List (Int × (Int × Bool))) → (List (Int × (Int × Int))) → Int → Option (Int × Int × Int × (List (Int × (Int × Bool))) × (List (Int × (Int × Int))) × Int)) : Leaf (Int × Int × Int × (List (Int × (Int × Bool))) × (List (Int × (Int × Int))) × Int) := ⟨rfault_l1_at, rfault_l1_st, fun p => rec p.1.1 p.1.2.1 p.1.2.2.2.1 p.1.2.2.2.2.1 p.2.1.1 p.2.1.2.1 p.2.1.2.2.1⟩
abbrev rfault_l1_e0 : Leaf (Int × Int × Int × (List (Int × (Int × Bool))) × (List (Int × (Int × Int))) × Int) := ⟨[.c [1, 1, 1, 0, 0], .c [1, 1, 1, 0, 1], .c [1, 1, 1, 1]], ⟨[1, 2, 3, 7], ⟨[.i .i64, .i .i64, .own 0 0, .i .i64], [.segs [.sl (.pair (.int .i64) (.pair (.int .i64) .bool)), .sl (.pair (.int .i64) (.pair (.int .i64) (.int .i64))), .i .i64]]⟩⟩, fun p => some ((p.1.1, p.1.2.1, p.1.2.2.2.1, p.2.1.1, p.2.1.2.1, p.2.1.2.2.1))⟩
noncomputable def rfault_l1_L (N : Nat) : LoopS := { at_ := rfault_l1_at, sta := rfault_l1_st, exits := [([.c [1, 1, 1, 0, 0], .c [1, 1, 1, 0, 1], .c [1, 1, 1, 1]], ⟨[1, 2, 3, 7], ⟨[.i .i64, .i .i64, .own 0 0, .i .i64], [.segs [.sl (.pair (.int .i64) (.pair (.int .i64) .bool)), .sl (.pair (.int .i64) (.pair (.int .i64) (.int .i64))), .i .i64]]⟩⟩)], run := fun p k => (rfault_l1 N N p.1.1 p.1.2.1 p.1.2.2.2.1 p.1.2.2.2.2.1 p.2.1.1 p.2.1.2.1 p.2.1.2.2.1).bind fun e => k (.inl ((e.1, e.2.1, (), e.2.2.1, ()), ((e.2.2.2.1, e.2.2.2.2.1, e.2.2.2.2.2, ()), ()))) }
theorem rfault_l1_eq (N n_ : Nat) (from_ : Int) (to : Int) (n : Int) (w : Int) (t : List (Int × (Int × Bool))) (t2 : List (Int × (Int × Int))) (t3 : Int) : ev (Z := Int × Int × Int × (List (Int × (Int × Bool))) × (List (Int × (Int × Int))) × Int) Try.prog (rfault_sp N) rfault_B [] [rfault_l1_h (rfault_l1 N n_), rfault_l1_e0] none 400 true rfault_l1_at (stL rfault_l1_st ((from_, to, (), n, w, ()), ((t, t2, t3, ()), ()))) (stH rfault_l1_st ((from_, to, (), n, w, ()), ((t, t2, t3, ()), ()))) = rfault_l1 N (n_ + 1) from_ to n w t t2 t3 := by kernel_rfl
theorem rfault_l1_ok (N : Nat) {top : Bool} : LoopOK Try.prog rfault_B.c rfault_B.n rfault_B.m0 top (rfault_l1_L N) := loop_of_ev (Z := Int × Int × Int × (List (Int × (Int × Bool))) × (List (Int × (Int × Int))) × Int) (N := N) (fun m p => rfault_l1 N m p.1.1 p.1.2.1 p.1.2.2.2.1 p.1.2.2.2.2.1 p.2.1.1 p.2.1.2.1 p.2.1.2.2.1) (fun e => .inl ((e.1, e.2.1, (), e.2.2.1, ()), ((e.2.2.2.1, e.2.2.2.2.1, e.2.2.2.2.2, ()), ()))) (fun _ _ _ => rfl) (fun _ => rfl) (fun m z E Xc hE hX hrec hx => leaf_of_ev (B := rfault_B) (loops := []) (leaves := [rfault_l1_h (rfault_l1 N m), rfault_l1_e0]) (rfault_all N) mixed trivial hE hX ⟨hrec, (fun p hp => by obtain rfl := Option.some.inj hp; exact hx), trivial⟩ RetOK.no (fun p => rfault_l1_eq N m p.1.1 p.1.2.1 p.1.2.2.2.1 p.1.2.2.2.2.1 p.2.1.1 p.2.1.2.1 p.2.1.2.2.1))
abbrev rfault_st : Sta := ⟨[0, 1, 2], ⟨[.agg [.sl (.pair (.int .i64) (.pair (.int .i64) .bool)), .sl (.pair (.int .i64) (.pair (.int .i64) (.int .i64))), .i .i64], .i .i64, .i .i64], []⟩⟩
theorem rfault_eq (N : Nat) (t : List (Int × (Int × Bool))) (t2 : List (Int × (Int × Int))) (t3 : Int) (from_ : Int) (to : Int) : ev (Z := Int) Try.prog (rfault_sp N) rfault_B [rfault_l1_L N] [] (some rfault_rt) 400 false [.c [0], .c [1]] (stL rfault_st (((t, t2, t3, ()), from_, to, ()), ())) (stH rfault_st (((t, t2, t3, ()), from_, to, ()), ())) = rfault_S N t t2 t3 from_ to := by kernel_rfl
noncomputable def sp_rfault (N : Nat) : Spec := { f := 96, ins := ⟨[.agg [.sl (.pair (.int .i64) (.pair (.int .i64) .bool)), .sl (.pair (.int .i64) (.pair (.int .i64) (.int .i64))), .i .i64], .i .i64, .i .i64], []⟩, outs := [⟨[.i .i64], []⟩], run := fun p k => (rfault_S N p.1.1.1 p.1.1.2.1 p.1.1.2.2.1 p.1.2.1 p.1.2.2.1).bind fun r => k ((r, ()), ()) }
theorem sp_rfault_ok (N : Nat) : SpecOK Try.prog (sp_rfault N) := fn_sound (B := rfault_B) (loops := [rfault_l1_L N]) (leaves := []) (fun p => rfault_S N p.1.1.1 p.1.1.2.1 p.1.1.2.2.1 p.1.2.1 p.1.2.2.1) (fun r => ((r, ()), ())) rfault_rt (fun _ _ _ => rfl) (fun r z h => by cases h; rfl) Try.func96 (by kernel_rfl) (by kernel_rfl) (by kernel_rfl) rfl rfl (by kernel_rfl) (fun args w => Sem.pv_run _ _ _ (by kernel_rfl) w) (rfault_all N) mixed ⟨rfault_l1_ok N, trivial⟩ (fun z E Xc hE hX hret => trivial) (fun p => rfault_eq N p.1.1.1 p.1.1.2.1 p.1.1.2.2.1 p.1.2.1 p.1.2.2.1)

def rreading_l1 (N : Nat) : Nat → (List Int) → Int → Int → (List (Int × (Int × Bool))) → (List (Int × (Int × Int))) → Int → Option ((Unit) ⊕ (Int × (List (Int × (Int × Bool))) × (List (Int × (Int × Int))) × Int))
  | 0, _, _, _, _, _, _ => none
  | n_ + 1, l, n, i, t, t2, t3 =>
    br (decide (i < (l.length : Int)))
      (idx l i fun x_2 =>
      (off_S N x_2 1 12).bind fun x_3 =>
      br x_3
        (some (.inl ()))
        (idx l i fun x_4 =>
        chk (n + x_4) <|
        chk (i + 1) <|
        rreading_l1 N n_ l (min (n + x_4) 100) (i + 1) t t2 t3))
      (some (.inr (n, t, t2, t3)))
def rreading_S (N : Nat) (t : List (Int × (Int × Bool))) (t2 : List (Int × (Int × Int))) (t3 : Int) (l : List Int) : Option Int :=
  (rcheck_S N t t2 t3).bind fun x_1 =>
  br (!decide (x_1 = 0))
    (some x_1)
    ((rreading_l1 N N l 0 0 t t2 t3).bind fun e => match e with
    | .inl _ =>
      some 3
    | .inr (n_5, t_6, t2_7, t3_8) =>
      br (!decide (n_5 = (t_6.length : Int)))
        (some 2)
        (some 0))
noncomputable def rreading_sp (N : Nat) : List Spec := [sp_off N, sp_rcheck N]
theorem rreading_all (N : Nat) : AllP (SpecOK Try.prog) (rreading_sp N) := ⟨sp_off_ok N, sp_rcheck_ok N, trivial⟩
noncomputable def rreading_c : Code := (Try.f34.body).getD .skip
noncomputable abbrev rreading_B : Body := { c := rreading_c, n := 36, res := [.tmp 4], outs := [⟨[.i .i64], []⟩], m0 := 0 }
abbrev rreading_rt : altD rreading_B.outs → Option Int := fun r => some r.1.1
abbrev rreading_l1_at : List PI := [.c [1, 1, 1, 0, 1, 0, 0, 0, 0], .c [1, 1, 1, 0, 1, 0, 0, 0, 1], .c [1, 1, 1, 0, 1, 0, 0, 1], .l [1, 1, 1, 0, 1, 0, 0], .b 0, .c [1, 1, 1, 1]]
abbrev rreading_l1_st : Sta := ⟨[1, 2, 6, 7], ⟨[.sl (.int .i64), .own 0 0, .i .i64, .i .i64], [.segs [.sl (.pair (.int .i64) (.pair (.int .i64) .bool)), .sl (.pair (.int .i64) (.pair (.int .i64) (.int .i64))), .i .i64]]⟩⟩
abbrev rreading_l1_h (rec : (List Int) → Int → Int → (List (Int × (Int × Bool))) → (List (Int × (Int × Int))) → Int → Option ((Unit) ⊕ (Int × (List (Int × (Int × Bool))) × (List (Int × (Int × Int))) × Int))) : Leaf ((Unit) ⊕ (Int × (List (Int × (Int × Bool))) × (List (Int × (Int × Int))) × Int)) := ⟨rreading_l1_at, rreading_l1_st, fun p => rec p.1.1 p.1.2.2.1 p.1.2.2.2.1 p.2.1.1 p.2.1.2.1 p.2.1.2.2.1⟩
abbrev rreading_l1_e0 : Leaf ((Unit) ⊕ (Int × (List (Int × (Int × Bool))) × (List (Int × (Int × Int))) × Int)) := ⟨[.c [1, 1, 1, 0, 1, 0, 0, 1, 0, 0, 0, 1, 0, 0], .c [1, 1, 1, 0, 1, 0, 0, 1, 0, 0, 0, 1, 0, 1], .c [1, 1, 1, 0, 1, 0, 0, 1, 0, 0, 1], .b 1, .c [1, 1, 1, 0, 1, 0, 0, 1, 1], .l [1, 1, 1, 0, 1, 0, 0], .b 0, .c [1, 1, 1, 1]], ⟨[], ⟨[], []⟩⟩, fun p => some (.inl ())⟩
abbrev rreading_l1_e1 : Leaf ((Unit) ⊕ (Int × (List (Int × (Int × Bool))) × (List (Int × (Int × Int))) × Int)) := ⟨[.c [1, 1, 1, 1, 0, 0], .c [1, 1, 1, 1, 0, 1], .c [1, 1, 1, 1, 1]], ⟨[2, 6], ⟨[.own 0 0, .i .i64], [.segs [.sl (.pair (.int .i64) (.pair (.int .i64) .bool)), .sl (.pair (.int .i64) (.pair (.int .i64) (.int .i64))), .i .i64]]⟩⟩, fun p => some (.inr (p.1.2.1, p.2.1.1, p.2.1.2.1, p.2.1.2.2.1))⟩
noncomputable def rreading_l1_L (N : Nat) : LoopS := { at_ := rreading_l1_at, sta := rreading_l1_st, exits := [([.c [1, 1, 1, 0, 1, 0, 0, 1, 0, 0, 0, 1, 0, 0], .c [1, 1, 1, 0, 1, 0, 0, 1, 0, 0, 0, 1, 0, 1], .c [1, 1, 1, 0, 1, 0, 0, 1, 0, 0, 1], .b 1, .c [1, 1, 1, 0, 1, 0, 0, 1, 1], .l [1, 1, 1, 0, 1, 0, 0], .b 0, .c [1, 1, 1, 1]], ⟨[], ⟨[], []⟩⟩), ([.c [1, 1, 1, 1, 0, 0], .c [1, 1, 1, 1, 0, 1], .c [1, 1, 1, 1, 1]], ⟨[2, 6], ⟨[.own 0 0, .i .i64], [.segs [.sl (.pair (.int .i64) (.pair (.int .i64) .bool)), .sl (.pair (.int .i64) (.pair (.int .i64) (.int .i64))), .i .i64]]⟩⟩)], run := fun p k => (rreading_l1 N N p.1.1 p.1.2.2.1 p.1.2.2.2.1 p.2.1.1 p.2.1.2.1 p.2.1.2.2.1).bind fun e => match e with | .inl x => k (.inl ((), ())) | .inr x => k (.inr (.inl (((), x.1, ()), ((x.2.1, x.2.2.1, x.2.2.2, ()), ())))) }
theorem rreading_l1_eq (N n_ : Nat) (l : List Int) (n : Int) (i : Int) (t : List (Int × (Int × Bool))) (t2 : List (Int × (Int × Int))) (t3 : Int) : ev (Z := (Unit) ⊕ (Int × (List (Int × (Int × Bool))) × (List (Int × (Int × Int))) × Int)) Try.prog (rreading_sp N) rreading_B [] [rreading_l1_h (rreading_l1 N n_), rreading_l1_e0, rreading_l1_e1] none 400 true rreading_l1_at (stL rreading_l1_st ((l, (), n, i, ()), ((t, t2, t3, ()), ()))) (stH rreading_l1_st ((l, (), n, i, ()), ((t, t2, t3, ()), ()))) = rreading_l1 N (n_ + 1) l n i t t2 t3 := by kernel_rfl
theorem rreading_l1_ok (N : Nat) {top : Bool} : LoopOK Try.prog rreading_B.c rreading_B.n rreading_B.m0 top (rreading_l1_L N) := loop_of_ev (Z := (Unit) ⊕ (Int × (List (Int × (Int × Bool))) × (List (Int × (Int × Int))) × Int)) (N := N) (fun m p => rreading_l1 N m p.1.1 p.1.2.2.1 p.1.2.2.2.1 p.2.1.1 p.2.1.2.1 p.2.1.2.2.1) (fun e => match e with | .inl x => .inl ((), ()) | .inr x => .inr (.inl (((), x.1, ()), ((x.2.1, x.2.2.1, x.2.2.2, ()), ())))) (fun _ p k => bind_congr_ (rreading_l1 N N p.1.1 p.1.2.2.1 p.1.2.2.2.1 p.2.1.1 p.2.1.2.1 p.2.1.2.2.1) _ _ (fun e => by rcases e with x | x <;> rfl)) (fun _ => rfl) (fun m z E Xc hE hX hrec hx => leaf_of_ev (B := rreading_B) (loops := []) (leaves := [rreading_l1_h (rreading_l1 N m), rreading_l1_e0, rreading_l1_e1]) (rreading_all N) mixed trivial hE hX ⟨hrec, (fun p hp => by obtain rfl := Option.some.inj hp; exact hx), (fun p hp => by obtain rfl := Option.some.inj hp; exact hx), trivial⟩ RetOK.no (fun p => rreading_l1_eq N m p.1.1 p.1.2.2.1 p.1.2.2.2.1 p.2.1.1 p.2.1.2.1 p.2.1.2.2.1))
abbrev rreading_st : Sta := ⟨[0, 1], ⟨[.agg [.sl (.pair (.int .i64) (.pair (.int .i64) .bool)), .sl (.pair (.int .i64) (.pair (.int .i64) (.int .i64))), .i .i64], .sl (.int .i64)], []⟩⟩
theorem rreading_eq (N : Nat) (t : List (Int × (Int × Bool))) (t2 : List (Int × (Int × Int))) (t3 : Int) (l : List Int) : ev (Z := Int) Try.prog (rreading_sp N) rreading_B [rreading_l1_L N] [] (some rreading_rt) 400 false [.c [0], .c [1]] (stL rreading_st (((t, t2, t3, ()), l, ()), ())) (stH rreading_st (((t, t2, t3, ()), l, ()), ())) = rreading_S N t t2 t3 l := by kernel_rfl
noncomputable def sp_rreading (N : Nat) : Spec := { f := 34, ins := ⟨[.agg [.sl (.pair (.int .i64) (.pair (.int .i64) .bool)), .sl (.pair (.int .i64) (.pair (.int .i64) (.int .i64))), .i .i64], .sl (.int .i64)], []⟩, outs := [⟨[.i .i64], []⟩], run := fun p k => (rreading_S N p.1.1.1 p.1.1.2.1 p.1.1.2.2.1 p.1.2.1).bind fun r => k ((r, ()), ()) }
theorem sp_rreading_ok (N : Nat) : SpecOK Try.prog (sp_rreading N) := fn_sound (B := rreading_B) (loops := [rreading_l1_L N]) (leaves := []) (fun p => rreading_S N p.1.1.1 p.1.1.2.1 p.1.1.2.2.1 p.1.2.1) (fun r => ((r, ()), ())) rreading_rt (fun _ _ _ => rfl) (fun r z h => by cases h; rfl) Try.func34 (by kernel_rfl) (by kernel_rfl) (by kernel_rfl) rfl rfl (by kernel_rfl) (fun args w => Sem.pv_run _ _ _ (by kernel_rfl) w) (rreading_all N) mixed ⟨rreading_l1_ok N, trivial⟩ (fun z E Xc hE hX hret => trivial) (fun p => rreading_eq N p.1.1.1 p.1.1.2.1 p.1.1.2.2.1 p.1.2.1)

def rwrong_l1 (N : Nat) : Nat → (List Int) → Int → Int → (List (Int × (Int × Bool))) → (List (Int × (Int × Int))) → Int → Option ((Int × Int) ⊕ (Unit))
  | 0, _, _, _, _, _, _ => none
  | n_ + 1, l, place, i, t, t2, t3 =>
    br (decide (i < (l.length : Int)))
      (idx l i fun x_2 =>
      chk (place + x_2) <|
      (rfault_S N t t2 t3 place (place + x_2)).bind fun x_3 =>
      br (decide (0 ≤ x_3))
        (some (.inl (i, x_3)))
        (idx l i fun x_4 =>
        chk (place + x_4) <|
        chk (i + 1) <|
        rwrong_l1 N n_ l (place + x_4) (i + 1) t t2 t3))
      (some (.inr ()))
def rwrong_S (N : Nat) (t : List (Int × (Int × Bool))) (t2 : List (Int × (Int × Int))) (t3 : Int) (l : List Int) : Option (Int × Int × Int) :=
  (rreading_S N t t2 t3 l).bind fun x_1 =>
  br (!decide (x_1 = 0))
    (some (0, 0, x_1))
    ((rwrong_l1 N N l 0 0 t t2 t3).bind fun e => match e with
    | .inl (i_5, k_6) =>
      some (i_5, k_6, 0)
    | .inr _ =>
      some (0, 0, 6))
noncomputable def rwrong_sp (N : Nat) : List Spec := [sp_rfault N, sp_rreading N]
theorem rwrong_all (N : Nat) : AllP (SpecOK Try.prog) (rwrong_sp N) := ⟨sp_rfault_ok N, sp_rreading_ok N, trivial⟩
noncomputable def rwrong_c : Code := (Try.f29.body).getD .skip
noncomputable abbrev rwrong_B : Body := { c := rwrong_c, n := 42, res := [.tmp 4, .tmp 5, .tmp 6], outs := [⟨[.i .i64, .i .i64, .i .i64], []⟩], m0 := 0 }
abbrev rwrong_rt : altD rwrong_B.outs → Option (Int × Int × Int) := fun r => some (r.1.1, r.1.2.1, r.1.2.2.1)
abbrev rwrong_l1_at : List PI := [.c [1, 1, 1, 0, 1, 0, 0, 0, 0], .c [1, 1, 1, 0, 1, 0, 0, 0, 1], .c [1, 1, 1, 0, 1, 0, 0, 1], .l [1, 1, 1, 0, 1, 0, 0], .b 0, .c [1, 1, 1, 1]]
abbrev rwrong_l1_st : Sta := ⟨[1, 2, 8, 9], ⟨[.sl (.int .i64), .own 0 0, .i .i64, .i .i64], [.segs [.sl (.pair (.int .i64) (.pair (.int .i64) .bool)), .sl (.pair (.int .i64) (.pair (.int .i64) (.int .i64))), .i .i64]]⟩⟩
abbrev rwrong_l1_h (rec : (List Int) → Int → Int → (List (Int × (Int × Bool))) → (List (Int × (Int × Int))) → Int → Option ((Int × Int) ⊕ (Unit))) : Leaf ((Int × Int) ⊕ (Unit)) := ⟨rwrong_l1_at, rwrong_l1_st, fun p => rec p.1.1 p.1.2.2.1 p.1.2.2.2.1 p.2.1.1 p.2.1.2.1 p.2.1.2.2.1⟩
abbrev rwrong_l1_e0 : Leaf ((Int × Int) ⊕ (Unit)) := ⟨[.c [1, 1, 1, 0, 1, 0, 0, 1, 0, 0, 0, 1, 1, 0, 0], .c [1, 1, 1, 0, 1, 0, 0, 1, 0, 0, 0, 1, 1, 0, 1], .c [1, 1, 1, 0, 1, 0, 0, 1, 0, 0, 1], .b 1, .c [1, 1, 1, 0, 1, 0, 0, 1, 1], .l [1, 1, 1, 0, 1, 0, 0], .b 0, .c [1, 1, 1, 1]], ⟨[9, 10], ⟨[.i .i64, .i .i64], []⟩⟩, fun p => some (.inl (p.1.1, p.1.2.1))⟩
abbrev rwrong_l1_e1 : Leaf ((Int × Int) ⊕ (Unit)) := ⟨[.c [1, 1, 1, 1, 0], .c [1, 1, 1, 1, 1]], ⟨[], ⟨[], []⟩⟩, fun p => some (.inr ())⟩
noncomputable def rwrong_l1_L (N : Nat) : LoopS := { at_ := rwrong_l1_at, sta := rwrong_l1_st, exits := [([.c [1, 1, 1, 0, 1, 0, 0, 1, 0, 0, 0, 1, 1, 0, 0], .c [1, 1, 1, 0, 1, 0, 0, 1, 0, 0, 0, 1, 1, 0, 1], .c [1, 1, 1, 0, 1, 0, 0, 1, 0, 0, 1], .b 1, .c [1, 1, 1, 0, 1, 0, 0, 1, 1], .l [1, 1, 1, 0, 1, 0, 0], .b 0, .c [1, 1, 1, 1]], ⟨[9, 10], ⟨[.i .i64, .i .i64], []⟩⟩), ([.c [1, 1, 1, 1, 0], .c [1, 1, 1, 1, 1]], ⟨[], ⟨[], []⟩⟩)], run := fun p k => (rwrong_l1 N N p.1.1 p.1.2.2.1 p.1.2.2.2.1 p.2.1.1 p.2.1.2.1 p.2.1.2.2.1).bind fun e => match e with | .inl x => k (.inl ((x.1, x.2, ()), ())) | .inr x => k (.inr (.inl ((), ()))) }
theorem rwrong_l1_eq (N n_ : Nat) (l : List Int) (place : Int) (i : Int) (t : List (Int × (Int × Bool))) (t2 : List (Int × (Int × Int))) (t3 : Int) : ev (Z := (Int × Int) ⊕ (Unit)) Try.prog (rwrong_sp N) rwrong_B [] [rwrong_l1_h (rwrong_l1 N n_), rwrong_l1_e0, rwrong_l1_e1] none 400 true rwrong_l1_at (stL rwrong_l1_st ((l, (), place, i, ()), ((t, t2, t3, ()), ()))) (stH rwrong_l1_st ((l, (), place, i, ()), ((t, t2, t3, ()), ()))) = rwrong_l1 N (n_ + 1) l place i t t2 t3 := by kernel_rfl
theorem rwrong_l1_ok (N : Nat) {top : Bool} : LoopOK Try.prog rwrong_B.c rwrong_B.n rwrong_B.m0 top (rwrong_l1_L N) := loop_of_ev (Z := (Int × Int) ⊕ (Unit)) (N := N) (fun m p => rwrong_l1 N m p.1.1 p.1.2.2.1 p.1.2.2.2.1 p.2.1.1 p.2.1.2.1 p.2.1.2.2.1) (fun e => match e with | .inl x => .inl ((x.1, x.2, ()), ()) | .inr x => .inr (.inl ((), ()))) (fun _ p k => bind_congr_ (rwrong_l1 N N p.1.1 p.1.2.2.1 p.1.2.2.2.1 p.2.1.1 p.2.1.2.1 p.2.1.2.2.1) _ _ (fun e => by rcases e with x | x <;> rfl)) (fun _ => rfl) (fun m z E Xc hE hX hrec hx => leaf_of_ev (B := rwrong_B) (loops := []) (leaves := [rwrong_l1_h (rwrong_l1 N m), rwrong_l1_e0, rwrong_l1_e1]) (rwrong_all N) mixed trivial hE hX ⟨hrec, (fun p hp => by obtain rfl := Option.some.inj hp; exact hx), (fun p hp => by obtain rfl := Option.some.inj hp; exact hx), trivial⟩ RetOK.no (fun p => rwrong_l1_eq N m p.1.1 p.1.2.2.1 p.1.2.2.2.1 p.2.1.1 p.2.1.2.1 p.2.1.2.2.1))
abbrev rwrong_st : Sta := ⟨[0, 1], ⟨[.agg [.sl (.pair (.int .i64) (.pair (.int .i64) .bool)), .sl (.pair (.int .i64) (.pair (.int .i64) (.int .i64))), .i .i64], .sl (.int .i64)], []⟩⟩
theorem rwrong_eq (N : Nat) (t : List (Int × (Int × Bool))) (t2 : List (Int × (Int × Int))) (t3 : Int) (l : List Int) : ev (Z := Int × Int × Int) Try.prog (rwrong_sp N) rwrong_B [rwrong_l1_L N] [] (some rwrong_rt) 400 false [.c [0], .c [1]] (stL rwrong_st (((t, t2, t3, ()), l, ()), ())) (stH rwrong_st (((t, t2, t3, ()), l, ()), ())) = rwrong_S N t t2 t3 l := by kernel_rfl
noncomputable def sp_rwrong (N : Nat) : Spec := { f := 29, ins := ⟨[.agg [.sl (.pair (.int .i64) (.pair (.int .i64) .bool)), .sl (.pair (.int .i64) (.pair (.int .i64) (.int .i64))), .i .i64], .sl (.int .i64)], []⟩, outs := [⟨[.i .i64, .i .i64, .i .i64], []⟩], run := fun p k => (rwrong_S N p.1.1.1 p.1.1.2.1 p.1.1.2.2.1 p.1.2.1).bind fun r => k ((r.1, r.2.1, r.2.2, ()), ()) }
theorem sp_rwrong_ok (N : Nat) : SpecOK Try.prog (sp_rwrong N) := fn_sound (B := rwrong_B) (loops := [rwrong_l1_L N]) (leaves := []) (fun p => rwrong_S N p.1.1.1 p.1.1.2.1 p.1.1.2.2.1 p.1.2.1) (fun r => ((r.1, r.2.1, r.2.2, ()), ())) rwrong_rt (fun _ _ _ => rfl) (fun r z h => by cases h; rfl) Try.func29 (by kernel_rfl) (by kernel_rfl) (by kernel_rfl) rfl rfl (by kernel_rfl) (fun args w => Sem.pv_run _ _ _ (by kernel_rfl) w) (rwrong_all N) mixed ⟨rwrong_l1_ok N, trivial⟩ (fun z E Xc hE hX hret => trivial) (fun p => rwrong_eq N p.1.1.1 p.1.1.2.1 p.1.1.2.2.1 p.1.2.1)

end Go.Proofs.Ytfamlpbdhhikdaa

namespace Go.Proofs.Ytfamlpbdhhikdaa
set_option linter.all false
open Go
theorem awake_v : awake_S 1100 = some true := by kernel_rfl
end Go.Proofs.Ytfamlpbdhhikdaa

namespace Go.Proofs.Ytfamlpbdhhikdaa
set_option linter.all false
open Go

/-! ### All elements -/
theorem every_gen {α : Type} {f : α → Option Bool} {p : α → Bool} {s : List α} {N : Nat} (hf : ∀ x ∈ s, f x = some (p x)) (hs : s.length ≤ 1000000) (hN : s.length < N) :
    (((ixS (fun x => (f x).bind fun c => some (!c)) N s).bind fun x => some (decide (0 ≤ x))).bind fun x => some (!x)) = some (s.all p) := by
  rw [ixS_any (p := fun x => !p x) (fun x hx => by rw [hf x hx]; rfl) hs hN]
  simp only [Option.bind_some, any_not]
section
variable (N : Nat)
theorem ixfw_gen : ∀ (n : Nat) (s : List Wd) (u u2 : Int), ixfw_l1 N n s u u2 = ixL (fun x => every1w_S N x.1 x.2.1 x.2.2) n s u u2
  | 0, _, _, _ => rfl
  | n + 1, s, u, u2 => by unfold ixfw_l1 ixL; simp only [ixfw_gen n]
theorem ixft3_gen : ∀ (n : Nat) (s : List Tn) (u u2 : Int), ixft3_l1 N n s u u2 = ixL (fun x => every1t3_S N x.1 x.2.1 x.2.2) n s u u2
  | 0, _, _, _ => rfl
  | n + 1, s, u, u2 => by unfold ixft3_l1 ixL; simp only [ixft3_gen n]
theorem ixft4_gen : ∀ (n : Nat) (s : List Tn) (u u2 : Int), ixft4_l1 N n s u u2 = ixL (fun x => every1t4_S N x.1 x.2.1 x.2.2) n s u u2
  | 0, _, _, _ => rfl
  | n + 1, s, u, u2 => by unfold ixft4_l1 ixL; simp only [ixft4_gen n]
end
def okw (w : Wd) : Bool := decide (1 ≤ w.1 ∧ w.1 ≤ 9) && decide (0 ≤ w.2.1 ∧ w.2.1 ≤ 20)
def inT (n : Nat) (x : Int) : Bool := decide (0 ≤ x ∧ x ≤ (n : Int) - 1)
def ok2 (n : Nat) (x : Tn) : Bool := inT n x.1 && (inT n x.2.1 && inT n x.2.2)
def ok3 (x : Tn) : Bool := decide (x.2.1 ≤ x.2.2)
def ok4 (x : Tn) : Bool := !decide (x.2.1 ≤ x.1 ∧ x.1 ≤ x.2.2)
def in12 (x : Int) : Bool := decide (1 ≤ x ∧ x ≤ 12)
section
variable {N : Nat} {ws : List Wd} {ts : List Tn} {br_ : Int}
theorem everyw_v (h : ws.length ≤ 1000000) (hN : ws.length < N) : everyw_S N ws = some (ws.all okw) := by
  unfold everyw_S cofw_S ixfw_S
  rw [← every_gen (f := fun x : Wd => check1_S N x.1 x.2.1 x.2.2) (p := okw) (s := ws) (N := N) (fun x _ => ?_) h hN]
  · unfold ixS
    rw [ixfw_gen]
    rfl
  · unfold check1_S okw
    rw [in_v, in_v]
    by_cases h : 1 ≤ x.1 ∧ x.1 ≤ 9 <;> simp [br, h]
theorem everyt3_v (h : ts.length ≤ 1000000) (hN : ts.length < N) : everyt3_S N ts = some (ts.all ok3) := by
  unfold everyt3_S coft3_S ixft3_S
  rw [← every_gen (f := fun x : Tn => check3_S N x.1 x.2.1 x.2.2) (p := ok3) (s := ts) (N := N) (fun x _ => ?_) h hN]
  · unfold ixS
    rw [ixft3_gen]
    rfl
  · rfl
theorem everyt4_v (h : ts.length ≤ 1000000) (hN : ts.length < N) : everyt4_S N ts = some (ts.all ok4) := by
  unfold everyt4_S coft4_S ixft4_S
  rw [← every_gen (f := fun x : Tn => check4_S N x.1 x.2.1 x.2.2) (p := ok4) (s := ts) (N := N) (fun x _ => ?_) h hN]
  · unfold ixS
    rw [ixft4_gen]
    rfl
  · unfold check4_S ok4
    rw [in_v]; rfl
theorem word_v (h : ws.length ≤ 1000000) (n : Int) : word_S N ws ts br_ n = some (inT ws.length n) := by
  unfold word_S
  rw [chk_eq (by omega), in_v]; rfl
theorem check2_v (h : ws.length ≤ 1000000) (x : Tn) : check2_S N x.1 x.2.1 x.2.2 (ws, ts, br_) = some (ok2 ws.length x) := by
  unfold check2_S ok2
  simp only [word_v h, Option.bind_some]
  cases inT ws.length x.1 <;> cases inT ws.length x.2.1 <;> cases inT ws.length x.2.2 <;> rfl
theorem ixft2_gen (h : ws.length ≤ 1000000) : ∀ (n : Nat) (s : List Tn) (u u2 : Int), ixft2_l1 N n s u u2 (ws, ts, br_) = (ixL (fun x => some (!ok2 ws.length x)) n s u u2).map fun r => match r with | .inl i => .inl (i, (ws, ts, br_)) | .inr _ => .inr (ws, ts, br_)
  | 0, _, _, _ => rfl
  | n + 1, s, u, u2 => by
    unfold ixft2_l1 ixL every1t2_S
    simp only [check2_v h, Option.bind_some, ixft2_gen h n]
    unfold br
    split
    · unfold idx
      split
      · cases s[u2.toNat]? with
        | none => rfl
        | some a =>
          dsimp only
          cases ok2 ws.length a
          · rfl
          · simp only [Bool.not_true, Bool.false_eq_true, if_false]
            unfold chk
            split <;> rfl
      · rfl
    · rfl
theorem everyt2_v (hw : ws.length ≤ 1000000) (h : ts.length ≤ 1000000) (hN : ts.length < N) : everyt2_S N ts (ws, ts, br_) = some (ts.all (ok2 ws.length)) := by
  unfold everyt2_S coft2_S ixft2_S
  rw [← every_gen (f := fun x : Tn => some (ok2 ws.length x)) (p := ok2 ws.length) (s := ts) (N := N) (fun x _ => rfl) h hN]
  unfold ixS
  rw [ixft2_gen hw]
  simp only [Option.bind_some]
  cases ixL (fun x => some (!ok2 ws.length x)) N ts ts.length 0 with
  | none => rfl
  | some r => cases r <;> rfl
end
/-- The error of a text. -/
def checkT (ws : List Wd) (ts : List Tn) (br_ : Int) : Int :=
  if ¬ (1 ≤ (ws.length : Int) ∧ (ws.length : Int) ≤ 12) then 2 else if 6 < (ts.length : Int) then 2 else if ¬ (1 ≤ br_ ∧ br_ ≤ 40) then 3 else if ws.all okw = false then 3 else
  if ts.all (ok2 ws.length) = false then 1 else if ts.all ok3 = false then 4 else if ts.all ok4 = false then 7 else 0
section
variable {N : Nat} {ws : List Wd} {ts : List Tn} {br_ : Int}
theorem check_v (hN : 20 ≤ N) (hw : ws.length ≤ 1000000) (ht : ts.length ≤ 1000000) : check_S N ws ts br_ = some (checkT ws ts br_) := by
  unfold check_S checkT
  rw [in_v]
  simp only [Option.bind_some]
  by_cases c1 : 1 ≤ (ws.length : Int) ∧ (ws.length : Int) ≤ 12
  rotate_left
  · rw [br_nnd c1, if_pos c1]
  rw [br_nd c1, if_neg (by simpa using c1)]
  by_cases c2 : 6 < (ts.length : Int)
  · rw [br_dec c2, if_pos c2]
  rw [br_ndec c2, if_neg c2, in_v]
  simp only [Option.bind_some]
  by_cases c3 : 1 ≤ br_ ∧ br_ ≤ 40
  rotate_left
  · rw [br_nnd c3, if_pos c3]
  rw [br_nd c3, if_neg (by simpa using c3), everyw_v hw (by omega), everyt2_v hw ht (by omega), everyt3_v ht (by omega), everyt4_v ht (by omega)]
  simp only [Option.bind_some]
  cases ws.all okw <;> cases ts.all (ok2 ws.length) <;> cases ts.all ok3 <;> cases ts.all ok4 <;> rfl
theorem off_v (n lo hi : Int) : off_S N n lo hi = some (!decide (lo ≤ n ∧ n ≤ hi)) := by
  unfold off_S
  by_cases c : n < lo
  · rw [br_dec c]; congr 1; simp; omega
  · rw [br_ndec c]; congr 1
    by_cases d : n ≤ hi
    · rw [decide_eq_false (show ¬ hi < n by omega), decide_eq_true (show lo ≤ n ∧ n ≤ hi from ⟨by omega, d⟩)]; rfl
    · rw [decide_eq_true (show hi < n by omega), decide_eq_false (fun h : lo ≤ n ∧ n ≤ hi => d h.2)]; rfl
/-- A loop through a list that ends at the first element that isn't so. -/
def alls {α β : Type} (p : α → Bool) (s : List α) (k : Nat) (b : β) : Option (Unit ⊕ β) := some (if (s.drop k).all p then .inr b else .inl ())
theorem alls_yes {α β : Type} {p : α → Bool} {s : List α} {k : Nat} {b : β} (d : α) (h : k < s.length) (hp : p (s.getD k d) = true) : alls p s k b = alls p s (k + 1) b := by
  unfold alls; rw [drop_cons h d, List.all_cons, hp, Bool.true_and]
theorem alls_no {α β : Type} {p : α → Bool} {s : List α} {k : Nat} {b : β} (d : α) (h : k < s.length) (hp : p (s.getD k d) = false) : alls p s k b = some (.inl ()) := by
  unfold alls; rw [drop_cons h d, List.all_cons, hp, Bool.false_and]; rfl
theorem alls_end {α β : Type} {p : α → Bool} {s : List α} {k : Nat} {b : β} (h : s.length ≤ k) : alls p s k b = some (.inr b) := by
  unfold alls; rw [List.drop_of_length_le h]; rfl
theorem rcheck_l1_p (hw : ws.length ≤ 1000000) : ∀ (n k : Nat), ws.length < n + k → k ≤ ws.length → rcheck_l1 N n ws.length k ws ts br_ = alls okw ws k ((ws.length : Int), ws, ts, br_)
  | 0, k, h, _ => by omega
  | n + 1, k, h, hk => by
    unfold rcheck_l1
    by_cases c : k < ws.length
    · have ih := rcheck_l1_p hw n (k + 1) (by omega) (by omega)
      rw [show ((k + 1 : Nat) : Int) = (k : Int) + 1 by omega] at ih
      have g := gets c (0, 0, false)
      have y := alls_yes (p := okw) (β := Int × List Wd × List Tn × Int) (b := ((ws.length : Int), ws, ts, br_)) (0, 0, false) c
      have no := alls_no (p := okw) (β := Int × List Wd × List Tn × Int) (b := ((ws.length : Int), ws, ts, br_)) (0, 0, false) c
      generalize ws.getD k (0, 0, false) = x at *
      rw [br_dec (by omega), idx_eq (by omega) g, off_v]
      simp only [Option.bind_some]
      by_cases c1 : 1 ≤ x.1 ∧ x.1 ≤ 9
      · rw [br_nd c1, idx_eq (by omega) g, off_v]
        simp only [Option.bind_some]
        by_cases c2 : 0 ≤ x.2.1 ∧ x.2.1 ≤ 20
        · rw [br_nd c2, chk_eq (by omega), ih, y (by simp [okw, c1, c2])]
        · rw [br_nnd c2, no (by simp [okw]; omega)]
      · rw [br_nnd c1, no (by simp [okw]; omega)]
    · rw [br_ndec (by omega), alls_end (by omega)]
theorem rcheck_l2_p (ht : ts.length ≤ 1000000) {m : Nat} (hm : m ≤ 1000000) : ∀ (n k : Nat), ts.length < n + k → k ≤ ts.length → rcheck_l2 N n m k ws ts br_ = alls (ok2 m) ts k (ws, ts, br_)
  | 0, k, h, _ => by omega
  | n + 1, k, h, hk => by
    unfold rcheck_l2
    by_cases c : k < ts.length
    · have ih := rcheck_l2_p ht hm n (k + 1) (by omega) (by omega)
      rw [show ((k + 1 : Nat) : Int) = (k : Int) + 1 by omega] at ih
      have g := gets c (0, 0, 0)
      have y := alls_yes (p := ok2 m) (b := (ws, ts, br_)) (0, 0, 0) c
      have no := alls_no (p := ok2 m) (b := (ws, ts, br_)) (0, 0, 0) c
      generalize ts.getD k (0, 0, 0) = x at *
      rw [br_dec (by omega), idx_eq (by omega) g, chk_eq (by omega), off_v]
      simp only [Option.bind_some]
      by_cases c1 : 0 ≤ x.1 ∧ x.1 ≤ (m : Int) - 1
      · rw [br_nd c1, idx_eq (by omega) g, chk_eq (by omega), off_v]
        simp only [Option.bind_some]
        by_cases c2 : 0 ≤ x.2.1 ∧ x.2.1 ≤ (m : Int) - 1
        · rw [br_nd c2, idx_eq (by omega) g, chk_eq (by omega), off_v]
          simp only [Option.bind_some]
          by_cases c3 : 0 ≤ x.2.2 ∧ x.2.2 ≤ (m : Int) - 1
          · rw [br_nd c3, chk_eq (by omega), ih, y (by simp only [ok2, inT, c1, c2, c3, decide_true, and_self, Bool.and_self])]
          · rw [br_nnd c3, no (by simp only [ok2, inT, c3, decide_false, Bool.and_false])]
        · rw [br_nnd c2, no (by simp only [ok2, inT, c2, decide_false, Bool.and_false, Bool.false_and])]
      · rw [br_nnd c1, no (by simp only [ok2, inT, c1, decide_false, Bool.and_false, Bool.false_and])]
    · rw [br_ndec (by omega), alls_end (by omega)]
theorem rcheck_l3_p (ht : ts.length ≤ 1000000) : ∀ (n k : Nat), ts.length < n + k → k ≤ ts.length → rcheck_l3 N n k ws ts br_ = alls ok3 ts k (ws, ts, br_)
  | 0, k, h, _ => by omega
  | n + 1, k, h, hk => by
    unfold rcheck_l3
    by_cases c : k < ts.length
    · have ih := rcheck_l3_p ht n (k + 1) (by omega) (by omega)
      rw [show ((k + 1 : Nat) : Int) = (k : Int) + 1 by omega] at ih
      have g := gets c (0, 0, 0)
      have y := alls_yes (p := ok3) (b := (ws, ts, br_)) (0, 0, 0) c
      have no := alls_no (p := ok3) (b := (ws, ts, br_)) (0, 0, 0) c
      generalize ts.getD k (0, 0, 0) = x at *
      rw [br_dec (by omega), idx_eq (by omega) g, idx_eq (by omega) g]
      by_cases c1 : x.2.2 < x.2.1
      · rw [br_dec c1, no (by simp [ok3]; omega)]
      · rw [br_ndec c1, chk_eq (by omega), ih, y (by simp [ok3]; omega)]
    · rw [br_ndec (by omega), alls_end (by omega)]
theorem rcheck_l4_p (ht : ts.length ≤ 1000000) : ∀ (n k : Nat), ts.length < n + k → k ≤ ts.length → rcheck_l4 N n k ws ts br_ = alls ok4 ts k ()
  | 0, k, h, _ => by omega
  | n + 1, k, h, hk => by
    unfold rcheck_l4
    by_cases c : k < ts.length
    · have ih := rcheck_l4_p ht n (k + 1) (by omega) (by omega)
      rw [show ((k + 1 : Nat) : Int) = (k : Int) + 1 by omega] at ih
      have g := gets c (0, 0, 0)
      have y := alls_yes (p := ok4) (b := ()) (0, 0, 0) c
      have no := alls_no (p := ok4) (b := ()) (0, 0, 0) c
      generalize ts.getD k (0, 0, 0) = x at *
      rw [br_dec (by omega), idx_eq (by omega) g, idx_eq (by omega) g, idx_eq (by omega) g, off_v]
      simp only [Option.bind_some, Bool.not_not]
      by_cases c1 : x.2.1 ≤ x.1 ∧ x.1 ≤ x.2.2
      · rw [br_dec c1, no (by simp only [ok4, c1, and_self, decide_true, Bool.not_true])]
      · rw [br_ndec c1, chk_eq (by omega), ih, y (by simp only [ok4, c1, decide_false, Bool.not_false])]
    · rw [br_ndec (by omega), alls_end (by omega)]
theorem rcheck_v (hN : 20 ≤ N) (hw : ws.length ≤ 1000000) (ht : ts.length ≤ 1000000) : rcheck_S N ws ts br_ = some (checkT ws ts br_) := by
  unfold rcheck_S checkT
  rw [off_v]
  simp only [Option.bind_some]
  by_cases c1 : 1 ≤ (ws.length : Int) ∧ (ws.length : Int) ≤ 12
  rotate_left
  · rw [br_nnd c1, if_pos c1]
  rw [br_nd c1, if_neg (by simpa using c1)]
  by_cases c2 : 6 < (ts.length : Int)
  · rw [br_dec c2, if_pos c2]
  rw [br_ndec c2, if_neg c2, off_v]
  simp only [Option.bind_some]
  by_cases c3 : 1 ≤ br_ ∧ br_ ≤ 40
  rotate_left
  · rw [br_nnd c3, if_pos c3]
  have e1 := rcheck_l1_p (N := N) (ts := ts) (br_ := br_) hw N 0 (by omega) (by omega)
  have e2 := rcheck_l2_p (N := N) (ws := ws) (br_ := br_) ht (m := ws.length) hw N 0 (by omega) (by omega)
  have e3 := rcheck_l3_p (N := N) (ws := ws) (br_ := br_) ht N 0 (by omega) (by omega)
  have e4 := rcheck_l4_p (N := N) (ws := ws) (br_ := br_) ht N 0 (by omega) (by omega)
  simp only [Int.natCast_zero] at e1 e2 e3 e4
  rw [br_nd c3, if_neg (by simpa using c3), e1]
  unfold alls at e2 e3 e4 ⊢
  simp only [List.drop_zero] at e2 e3 e4 ⊢
  cases d1 : ws.all okw
  · simp
  simp only [if_true, Option.bind_some, e2]
  cases d2 : ts.all (ok2 ws.length)
  · simp
  simp only [if_true, Option.bind_some, e3]
  cases d3 : ts.all ok3
  · simp
  simp only [if_true, Option.bind_some, e4]
  cases d4 : ts.all ok4 <;> simp
/-! ### Copies, comparisons -/
theorem copyw_v (h : ws.length ≤ 1000000) : copyw_S N ws = some ws := by
  unfold copyw_S
  rw [grd_eq (lmI_iff.2 (by omega))]
  simp
theorem copyt_v (h : ts.length ≤ 1000000) : copyt_S N ts = some ts := by
  unfold copyt_S
  rw [grd_eq (lmI_iff.2 (by omega))]
  simp
theorem copyi_v {l : List Int} (h : l.length ≤ 1000000) : copyi_S N l = some l := by
  unfold copyi_S
  rw [grd_eq (lmI_iff.2 (by omega))]
  simp
theorem copyx_v (hw : ws.length ≤ 1000000) (ht : ts.length ≤ 1000000) : copyx_S N ws ts br_ = some (ws, ts, br_) := by
  unfold copyx_S
  rw [copyw_v hw, copyt_v ht]; rfl
theorem take_succ' {α : Type} {l : List α} {k : Nat} (c : k < l.length) (d : α) : l.take (k + 1) = l.take k ++ [l.getD k d] := by
  rw [List.take_add_one]; simp [List.getD, c]
theorem theirs_l1_p {g : Int} {t : List Wd} {t2 : List Tn} {t3 o : Int} (hw : ws.length ≤ 1000) : ∀ (n k : Nat), ws.length < n + k → k ≤ ws.length → theirs_l1 N n ws ws.length k t t2 t3 g o (ws.take k) = some (t, t2, t3, g, o, ws)
  | 0, k, h, _ => by omega
  | n + 1, k, h, hk => by
    unfold theirs_l1
    by_cases c : k < ws.length
    · have ih := theirs_l1_p (g := g) (t := t) (t2 := t2) (t3 := t3) (o := o) hw n (k + 1) (by omega) (by omega)
      rw [show ((k + 1 : Nat) : Int) = (k : Int) + 1 by omega, take_succ' c (0, 0, false)] at ih
      rw [br_dec (by omega), idx_eq (by omega) (gets c (0, 0, false)), lim_eq (by simp; omega), chk_eq (by omega)]
      exact ih
    · rw [br_ndec (by omega), List.take_of_length_le (by omega)]
theorem theirs_l2_p {g o : Int} {t : List Wd} (ht : ts.length ≤ 1000) : ∀ (n k : Nat), ts.length < n + k → k ≤ ts.length → theirs_l2 N n ts ts.length k g o t (ts.take k) = some (g, o, t, ts)
  | 0, k, h, _ => by omega
  | n + 1, k, h, hk => by
    unfold theirs_l2
    by_cases c : k < ts.length
    · have ih := theirs_l2_p (g := g) (o := o) (t := t) ht n (k + 1) (by omega) (by omega)
      rw [show ((k + 1 : Nat) : Int) = (k : Int) + 1 by omega, take_succ' c (0, 0, 0)] at ih
      rw [br_dec (by omega), idx_eq (by omega) (gets c (0, 0, 0)), lim_eq (by simp; omega), chk_eq (by omega)]
      exact ih
    · rw [br_ndec (by omega), List.take_of_length_le (by omega)]
theorem theirs_v (hw : ws.length ≤ 1000) (ht : ts.length ≤ 1000) (h1 : ws.length < N) (h2 : ts.length < N) : theirs_S N ws ts br_ = some (ws, ts, br_) := by
  have e1 := theirs_l1_p (N := N) (g := 0) (t := ws) (t2 := ts) (t3 := br_) (o := br_) hw N 0 (by omega) (by omega)
  have e2 := theirs_l2_p (N := N) (g := 0) (o := br_) (t := ws) ht N 0 (by omega) (by omega)
  simp only [Int.natCast_zero, List.take_zero] at e1 e2
  unfold theirs_S
  rw [e1]
  simp only [Option.bind_some]
  rw [e2]; rfl
theorem likei_v {l : List Int} (h : l.length ≤ 1000) (hN : l.length < N) : likei_S N l l = some true := by
  have e : ∀ (n k : Nat), l.length < n + k → k ≤ l.length → equali_l1 N n l l l.length k = some (.inr ()) := by
    intro n
    induction n with
    | zero => intro k h _; omega
    | succ n ih =>
      intro k h2 hk
      unfold equali_l1
      by_cases c : k < l.length
      · have := ih (k + 1) (by omega) (by omega)
        rw [show ((k + 1 : Nat) : Int) = (k : Int) + 1 by omega] at this
        rw [br_dec (by omega), idx_eq (by omega) (gets c 0), idx_eq (by omega) (gets c 0), br_nd rfl, chk_eq (by omega), this]
      · rw [br_ndec (by omega)]
  have e0 := e N 0 (by omega) (by omega)
  simp only [Int.natCast_zero] at e0
  unfold likei_S equali_S
  rw [br_nd rfl, e0]; rfl
theorem likew_v {l : List Wd} (h : l.length ≤ 1000) (hN : l.length < N) : likew_S N l l = some true := by
  have e : ∀ (n k : Nat), l.length < n + k → k ≤ l.length → equalw_l1 N n l l l.length k = some (.inr ()) := by
    intro n
    induction n with
    | zero => intro k h _; omega
    | succ n ih =>
      intro k h2 hk
      unfold equalw_l1
      by_cases c : k < l.length
      · have := ih (k + 1) (by omega) (by omega)
        rw [show ((k + 1 : Nat) : Int) = (k : Int) + 1 by omega] at this
        rw [br_dec (by omega), idx_eq (by omega) (gets c (0, 0, false)), idx_eq (by omega) (gets c (0, 0, false)), chk_eq (by omega), this]
        simp [br]
      · rw [br_ndec (by omega)]
  have e0 := e N 0 (by omega) (by omega)
  simp only [Int.natCast_zero] at e0
  unfold likew_S equalw_S
  rw [br_nd rfl, e0]; rfl
theorem liket_v {l : List Tn} (h : l.length ≤ 1000) (hN : l.length < N) : liket_S N l l = some true := by
  have e : ∀ (n k : Nat), l.length < n + k → k ≤ l.length → equalt_l1 N n l l l.length k = some (.inr ()) := by
    intro n
    induction n with
    | zero => intro k h _; omega
    | succ n ih =>
      intro k h2 hk
      unfold equalt_l1
      by_cases c : k < l.length
      · have := ih (k + 1) (by omega) (by omega)
        rw [show ((k + 1 : Nat) : Int) = (k : Int) + 1 by omega] at this
        rw [br_dec (by omega), idx_eq (by omega) (gets c (0, 0, 0)), idx_eq (by omega) (gets c (0, 0, 0)), chk_eq (by omega), this]
        simp [br]
      · rw [br_ndec (by omega)]
  have e0 := e N 0 (by omega) (by omega)
  simp only [Int.natCast_zero] at e0
  unfold liket_S equalt_S
  rw [br_nd rfl, e0]; rfl
theorem same_v (hw : ws.length ≤ 1000) (ht : ts.length ≤ 1000) (h1 : ws.length < N) (h2 : ts.length < N) : same_S N ws ts br_ ws ts br_ = some true := by
  unfold same_S
  rw [likew_v hw h1]
  simp only [Option.bind_some, br_true]
  rw [liket_v ht h2]
  simp [br]
theorem great_v (m : Int) : great_S N ws ts br_ m = some true ∨ great_S N ws ts br_ m = some false ∧ ws.length ≤ 20 ∧ ts.length ≤ 20 ∧ ((ws.length : Int) ≤ m ∨ 12 < (ws.length : Int)) := by
  unfold great_S
  by_cases c : 20 < (ws.length : Int)
  · rw [br_dec c]; exact .inl rfl
  · rw [br_ndec c]
    by_cases d : 20 < (ts.length : Int)
    · rw [br_dec d]; exact .inl rfl
    · rw [br_ndec d]
      by_cases e : m < (ws.length : Int)
      · rw [br_dec e]
        by_cases f : (ws.length : Int) ≤ 12
        · rw [decide_eq_true f]; exact .inl rfl
        · rw [decide_eq_false f]; exact .inr ⟨rfl, by omega, by omega, by omega⟩
      · rw [br_ndec e]; exact .inr ⟨rfl, by omega, by omega, by omega⟩
end
end Go.Proofs.Ytfamlpbdhhikdaa

namespace Go.Proofs.Ytfamlpbdhhikdaa
set_option linter.all false
open Go

structure TFine (ws : List Wd) (ts : List Tn) (br_ : Int) : Prop where
  n0 : 1 ≤ ws.length
  n : ws.length ≤ 12
  t : ts.length ≤ 6
  b0 : 1 ≤ br_
  b1 : br_ ≤ 40
  w : ∀ w ∈ ws, (1 ≤ w.1 ∧ w.1 ≤ 9) ∧ 0 ≤ w.2.1 ∧ w.2.1 ≤ 20
  x : ∀ x ∈ ts, (0 ≤ x.1 ∧ x.1 < ws.length) ∧ (0 ≤ x.2.1 ∧ x.2.1 < ws.length) ∧ (0 ≤ x.2.2 ∧ x.2.2 < ws.length) ∧ x.2.1 ≤ x.2.2 ∧ ¬ (x.2.1 ≤ x.1 ∧ x.1 ≤ x.2.2)
section
variable {N : Nat} {ws : List Wd} {ts : List Tn} {br_ : Int}
theorem tfine_of (h : checkT ws ts br_ = 0) : TFine ws ts br_ := by
  unfold checkT at h
  split at h
  · omega
  rename_i c1
  split at h
  · omega
  split at h
  · omega
  rename_i c3
  split at h
  · omega
  rename_i c4
  split at h
  · omega
  rename_i c5
  split at h
  · omega
  rename_i c6
  split at h
  · omega
  rename_i c7
  simp only [Bool.not_eq_false, List.all_eq_true] at c4 c5 c6 c7
  refine ⟨by omega, by omega, by omega, by omega, by omega, fun w hw => ?_, fun x hx => ?_⟩
  · have := c4 w hw
    simpa [okw] using this
  · have h1 := c5 x hx; have h2 := c6 x hx; have h3 := c7 x hx
    simp only [ok2, inT, ok3, ok4, Bool.and_eq_true, decide_eq_true_eq, Bool.not_eq_true', decide_eq_false_iff_not] at h1 h2 h3
    exact ⟨by omega, by omega, by omega, h2, h3⟩
theorem TFine.okW (h : TFine ws ts br_) : okW ws = true := okW_iff.2 ⟨by have := h.n; omega, fun w hw => by have := (h.w w hw).1; omega⟩
theorem opened_v (hN : 20 ≤ N) (hw : ws.length ≤ 1000000) (ht : ts.length ≤ 1000000) : opened_S N ws ts br_ = some (if checkT ws ts br_ = 0 then .inl ((ws, ts, br_), 0) else .inr (checkT ws ts br_)) := by
  unfold opened_S
  rw [check_v hN hw ht]
  simp only [Option.bind_some]
  by_cases c : checkT ws ts br_ = 0
  · rw [br_nd c, if_pos c]
  · rw [br_nnd c, if_neg c]
/-! ### Lists of words -/
theorem has_l1_p {l : List Int} {v : Int} (hl : l.length ≤ 1000000) : ∀ (n k : Nat), l.length < n + k → k ≤ l.length → has_l1 N n l v k = some (if (l.drop k).contains v then .inl () else .inr ())
  | 0, k, h, _ => by omega
  | n + 1, k, h, hk => by
    unfold has_l1
    by_cases c : k < l.length
    · have ih := has_l1_p (v := v) hl n (k + 1) (by omega) (by omega)
      rw [show ((k + 1 : Nat) : Int) = (k : Int) + 1 by omega] at ih
      rw [br_dec (by omega), idx_eq (by omega) (gets c 0), drop_cons c 0, List.contains_cons]
      generalize l.getD k 0 = x at *
      by_cases d : x = v
      · subst d; rw [br_dec rfl]; simp
      · rw [br_ndec d, chk_eq (by omega), ih, show (v == x) = false by simp; exact fun e => d e.symm, Bool.false_or]
    · rw [br_ndec (by omega), List.drop_of_length_le (by omega)]; rfl
theorem has_v {l : List Int} {v : Int} (hl : l.length ≤ 1000000) (hN : l.length < N) : has_S N l v = some (l.contains v) := by
  unfold has_S
  have := has_l1_p (N := N) (v := v) hl N 0 (by omega) (by omega)
  simp only [Int.natCast_zero, List.drop_zero] at this
  rw [this]
  cases l.contains v <;> rfl
/-- The numbers from one on up to another one. -/
def wordsL (a b : Int) : List Int := (List.range (b - a).toNat).map fun (i : Nat) => a + (i : Int)
theorem wordsL_len (a b : Int) : (wordsL a b).length = (b - a).toNat := by simp [wordsL]
theorem mem_wordsL {a b x : Int} : x ∈ wordsL a b ↔ a ≤ x ∧ x < b := by
  simp only [wordsL, List.mem_map, List.mem_range]
  constructor
  · rintro ⟨i, hi, rfl⟩; omega
  · rintro ⟨h1, h2⟩; exact ⟨(x - a).toNat, by omega, by omega⟩
theorem words_l1_p {a b : Int} (ha : -1000 ≤ a ∧ b ≤ 1000) : ∀ (n : Nat) (w : Int), (b - w).toNat < n → a ≤ w → (a ≤ b → w ≤ b) → words_l1 N n b w (wordsL a w) = some (wordsL a (max w b))
  | 0, w, h, _, _ => by omega
  | n + 1, w, h, h1, h2 => by
    unfold words_l1
    by_cases c : w < b
    · have ih := words_l1_p ha n (w + 1) (by omega) (by omega) (by omega)
      have e : wordsL a (w + 1) = wordsL a w ++ [w] := by
        unfold wordsL
        rw [show (w + 1 - a).toNat = (w - a).toNat + 1 by omega, List.range_succ, List.map_append]
        simp; omega
      rw [e] at ih
      rw [br_dec c, lim_eq (by simp [wordsL_len]; omega), chk_eq (by omega), ih]
      congr 2; omega
    · rw [br_ndec c]; congr 2; omega
theorem words_v {a b : Int} (ha : -1000 ≤ a ∧ b ≤ 1000) (hab : a ≤ b) (hN : (b - a).toNat < N) : words_S N a b = some (wordsL a b) := by
  unfold words_S
  have := words_l1_p (N := N) ha N a hN (by omega) (by omega)
  have e : wordsL a a = [] := by simp [wordsL]
  rw [e] at this
  rw [this]
  simp only [Option.bind_some]
  rw [show max a b = b by omega]
/-- Some words have the whole core of a turn. -/
def coreB (l : List Int) (x : Tn) : Bool := (wordsL x.2.1 (x.2.2 + 1)).all fun w => l.contains w
def sayP (l : List Int) (x : Tn) : Bool := coreB l x && !l.contains x.1
theorem otherwise_l1_p {l : List Int} (hl : l.length ≤ 1000000) (hN : l.length < N) {x : Tn} (hx : -1000 ≤ x.2.1 ∧ x.2.2 ≤ 1000) : ∀ (n : Nat) (w : Int), (x.2.2 + 1 - w).toNat < n → x.2.1 ≤ w →
    otherwise_l1 N n l w x.1 x.2.1 x.2.2 = some (if (wordsL w (x.2.2 + 1)).all (fun w => l.contains w) then .inr (l, x.1, x.2.1, x.2.2) else .inl ())
  | 0, w, h, _ => by omega
  | n + 1, w, h, h1 => by
    unfold otherwise_l1
    by_cases c : w ≤ x.2.2
    · have ih := otherwise_l1_p hl hN hx n (w + 1) (by omega) (by omega)
      have e : wordsL w (x.2.2 + 1) = w :: wordsL (w + 1) (x.2.2 + 1) := by
        unfold wordsL
        rw [show (x.2.2 + 1 - w).toNat = (x.2.2 + 1 - (w + 1)).toNat + 1 by omega, List.range_succ_eq_map, List.map_cons, List.map_map]
        congr 1
        · simp
        · refine List.map_congr_left fun i _ => ?_
          simp only [Function.comp]; omega
      rw [e, List.all_cons, br_dec c, has_v hl hN]
      simp only [Option.bind_some]
      cases l.contains w
      · rfl
      · rw [Bool.not_true, br_false, chk_eq (by omega), ih, Bool.true_and]
    · rw [br_ndec c]
      have : wordsL w (x.2.2 + 1) = [] := by unfold wordsL; rw [show (x.2.2 + 1 - w).toNat = 0 by omega]; rfl
      rw [this]; rfl
theorem otherwise_v {l : List Int} (hl : l.length ≤ 1000000) (hN : l.length < N) {x : Tn} (hx : -1000 ≤ x.2.1 ∧ x.2.2 ≤ 1000) (hN2 : (x.2.2 + 1 - x.2.1).toNat < N) : otherwise_S N x.1 x.2.1 x.2.2 l = some (sayP l x) := by
  unfold otherwise_S sayP coreB
  rw [otherwise_l1_p hl hN hx N x.2.1 hN2 (by omega)]
  cases (wordsL x.2.1 (x.2.2 + 1)).all (fun w => l.contains w)
  · rfl
  · simp only [if_true, Option.bind_some]
    rw [has_v hl hN]; rfl
/-- The turns that are so. -/
def selK (p : Tn → Bool) (ts : List Tn) (k : Nat) : List Int := ((List.range k).filter fun i => p (ts.getD i (0, 0, 0))).map fun (i : Nat) => (i : Int)
theorem selK_len (p : Tn → Bool) (ts : List Tn) (k : Nat) : (selK p ts k).length ≤ k := by
  have := List.length_filter_le (fun i => p (ts.getD i (0, 0, 0))) (List.range k)
  simp only [selK, List.length_map]
  simpa using this
theorem selK_succ (p : Tn → Bool) (ts : List Tn) (k : Nat) : selK p ts (k + 1) = selK p ts k ++ (if p (ts.getD k (0, 0, 0)) = true then [(k : Int)] else []) := by
  simp only [selK, List.range_succ, List.filter_append, List.map_append]
  congr 1
  rw [List.filter_cons]
  by_cases h : p (ts.getD k (0, 0, 0)) = true
  · rw [if_pos h, if_pos h]; rfl
  · rw [if_neg h, if_neg h]; rfl
theorem selK_congr {p q : Tn → Bool} {ts : List Tn} (h : ∀ x ∈ ts, p x = q x) : ∀ k, k ≤ ts.length → selK p ts k = selK q ts k
  | 0, _ => rfl
  | k + 1, hk => by rw [selK_succ, selK_succ, selK_congr h k (by omega), h _ (getD_mem (by omega))]
theorem said_l1_p {l : List Int} {p : Tn → Bool} (ht : ts.length ≤ 1000) (ho : ∀ x ∈ ts, otherwise_S N x.1 x.2.1 x.2.2 l = some (p x)) : ∀ (n k : Nat), ts.length < n + k → k ≤ ts.length → said_l1 N n l k ws ts br_ (selK p ts k) = some (selK p ts ts.length)
  | 0, k, h, _ => by omega
  | n + 1, k, h, hk => by
    unfold said_l1
    by_cases c : k < ts.length
    · have ih := said_l1_p ht ho n (k + 1) (by omega) (by omega)
      rw [selK_succ] at ih
      have hl := selK_len p ts k
      have hp := ho _ (getD_mem (d := (0, 0, 0)) c)
      have g := gets c (0, 0, 0)
      generalize ts.getD k (0, 0, 0) = x at *
      have hj : ∀ out, said_j1 N (said_l1 N n) l k ws ts br_ out = said_l1 N n l ((k + 1 : Nat) : Int) ws ts br_ out := fun out => by
        unfold said_j1
        rw [chk_eq (by omega)]; rfl
      rw [br_dec (by omega), idx_eq (by omega) g, hp]
      simp only [Option.bind_some, hj]
      cases hq : p x
      · rw [br_false]
        simpa [hq] using ih
      · rw [br_true, lim_eq (by simp; omega)]
        simpa [hq] using ih
    · rw [br_ndec (by omega)]
      obtain rfl : k = ts.length := by omega
      rfl
theorem said_v {l : List Int} {p : Tn → Bool} (ht : ts.length ≤ 1000) (hN : ts.length < N) (ho : ∀ x ∈ ts, otherwise_S N x.1 x.2.1 x.2.2 l = some (p x)) : said_S N ws ts br_ l = some (selK p ts ts.length) := by
  unfold said_S
  have := said_l1_p (N := N) (ws := ws) (br_ := br_) ht ho N 0 (by omega) (by omega)
  simp only [Int.natCast_zero] at this
  have e : selK p ts 0 = [] := rfl
  rw [e] at this
  rw [this]; rfl
theorem TFine.said (h : TFine ws ts br_) (hN : 20 ≤ N) {l : List Int} (hl : l.length ≤ 1000000) (hlN : l.length < N) : said_S N ws ts br_ l = some (selK (sayP l) ts ts.length) := by
  have := h.t; have := h.n
  exact said_v (by omega) (by omega) fun x hx => by
    have := h.x x hx
    exact otherwise_v hl hlN (by omega) (by omega)
/-- Words between two places say what they would say as a part. -/
theorem sayP_words {a b : Int} {x : Tn} (hx : x.2.1 ≤ x.2.2) : sayP (wordsL a b) x = turnP a b x := by
  have e : coreB (wordsL a b) x = (decide (a ≤ x.2.1) && decide (x.2.2 < b)) := by
    rw [Bool.eq_iff_iff]
    simp only [coreB, List.all_eq_true, List.contains_iff_mem, mem_wordsL, Bool.and_eq_true, decide_eq_true_eq]
    constructor
    · intro h
      exact ⟨(h x.2.1 (by omega)).1, (h x.2.2 (by omega)).2⟩
    · intro h w hw; omega
  have e2 : (wordsL a b).contains x.1 = decide (a ≤ x.1 ∧ x.1 ≤ b - 1) := by
    rw [Bool.eq_iff_iff]
    simp only [List.contains_iff_mem, mem_wordsL, decide_eq_true_eq]
    omega
  unfold sayP turnP
  rw [e, e2]
theorem TFine.said_words (h : TFine ws ts br_) (hN : 20 ≤ N) {a b : Int} (ha : 0 ≤ a ∧ b ≤ 13) : said_S N ws ts br_ (wordsL a b) = some (turnL ts a b) := by
  have hl : (wordsL a b).length ≤ 13 := by rw [wordsL_len]; omega
  rw [h.said hN (by omega) (by omega)]
  congr 1
  exact selK_congr (fun x hx => sayP_words (h.x x hx).2.2.2.1) _ (Nat.le_refl _)
/-! ### What a part says -/
/-! ### Readings -/
/-- The error of a reading. -/
def readE (ws : List Wd) (ts : List Tn) (br_ : Int) (l : List Int) : Int :=
  if checkT ws ts br_ ≠ 0 then checkT ws ts br_ else if l.all in12 = false then 3 else if l.sum ≠ ws.length then 2 else 0
theorem all12 {l : List Int} (h : l.all in12 = true) : ∀ x ∈ l, 1 ≤ x ∧ x ≤ 12 := by simpa [in12] using h
theorem rreading_l1_p {l : List Int} (hl : l.length ≤ 1000) : ∀ (n k : Nat) (s : Int), l.length < n + k → k ≤ l.length → 0 ≤ s ∧ s ≤ 100 → 
    rreading_l1 N n l s k ws ts br_ = some (if (l.drop k).all in12 then .inr (min (s + (l.drop k).sum) 100, ws, ts, br_) else .inl ())
  | 0, k, s, h, _, _ => by omega
  | n + 1, k, s, h, hk, hs => by
    unfold rreading_l1
    by_cases c : k < l.length
    · have g := gets c 0
      rw [drop_cons c 0]
      generalize l.getD k 0 = x at *
      rw [br_dec (by omega), idx_eq (by omega) g, off_v]
      simp only [Option.bind_some]
      by_cases d : 1 ≤ x ∧ x ≤ 12
      · have ih := rreading_l1_p hl n (k + 1) (min (s + x) 100) (by omega) (by omega) (by omega)
        rw [show ((k + 1 : Nat) : Int) = (k : Int) + 1 by omega] at ih
        rw [br_nd d, idx_eq (by omega) g, chk_eq (by omega), chk_eq (by omega), ih, List.all_cons, show in12 x = true by simp [in12, d], Bool.true_and, List.sum_cons]
        by_cases f : (l.drop (k + 1)).all in12 = true
        · have h0 : 0 ≤ (l.drop (k + 1)).sum := sum_nonneg (fun y hy => by have := all12 f y hy; omega)
          rw [if_pos f, if_pos f]
          congr 3; omega
        · rw [if_neg f, if_neg f]
      · rw [br_nnd d, List.all_cons, show in12 x = false by simp [in12]; omega]; rfl
    · rw [br_ndec (by omega), List.drop_of_length_le (by omega)]
      simp; omega
where
  sum_nonneg {l : List Int} (h : ∀ x ∈ l, 0 ≤ x) : 0 ≤ l.sum := by
    induction l with
    | nil => simp
    | cons a l ih =>
      have := h a (by simp); have := ih (fun x hx => h x (by simp [hx]))
      rw [List.sum_cons]; omega
theorem rreading_v (hN : 110 ≤ N) (hw : ws.length ≤ 1000000) (ht : ts.length ≤ 1000000) {l : List Int} (hl : l.length ≤ 100) : rreading_S N ws ts br_ l = some (readE ws ts br_ l) := by
  unfold rreading_S readE
  rw [rcheck_v (by omega) hw ht]
  simp only [Option.bind_some]
  by_cases c : checkT ws ts br_ = 0
  rotate_left
  · rw [br_nnd c, if_pos c]
  have hF := tfine_of c
  have := hF.n
  have e := rreading_l1_p (N := N) (ws := ws) (ts := ts) (br_ := br_) (l := l) (by omega) N 0 0 (by omega) (by omega) (by omega)
  simp only [Int.natCast_zero, List.drop_zero, Int.zero_add] at e
  rw [br_nd c, if_neg (by simpa using c), e]
  cases d : l.all in12
  · rfl
  simp only [if_true, Option.bind_some, Bool.true_eq_false, if_false]
  by_cases f : l.sum = (ws.length : Int)
  · rw [br_nd (by omega), if_neg (by simpa using f)]
  · rw [br_nnd (by omega), if_pos f]
end
end Go.Proofs.Ytfamlpbdhhikdaa

namespace Go.Proofs.Ytfamlpbdhhikdaa
set_option linter.all false
open Go

section
variable {N : Nat} {ws : List Wd} {ts : List Tn} {br_ : Int}
theorem sylR_step {a b : Nat} (h : a < b) (hb : b ≤ ws.length) : sylR ws a b = (ws.getD a (0, 0, false)).1 + sylR ws (a + 1) b := by
  unfold sylR
  rw [drop_cons (l := ws.take b) (by simp; omega) (0, 0, false), List.map_cons, List.sum_cons]
  congr 2
  simp [List.getD, List.getElem?_take, h]
theorem sylR_end {a b : Nat} (h : b ≤ a) : sylR ws a b = 0 := by
  unfold sylR
  rw [List.drop_of_length_le (by simp; omega)]; rfl
theorem rfault_l1_p (hF : TFine ws ts br_) {f : Int} {b : Nat} (hb : b ≤ ws.length) : ∀ (n w : Nat) (s : Int), b < n + w → w ≤ b → (0 ≤ s ∧ s ≤ 100 * w) → rfault_l1 N n f b s w ws ts br_ = some (f, (b : Int), s + sylR ws w b, ws, ts, br_)
  | 0, w, s, h, _, _ => by omega
  | n + 1, w, s, h, hw, hs => by
    have := hF.n
    unfold rfault_l1
    by_cases c : w < b
    · have g := gets (l := ws) (k := w) (by omega) (0, 0, false)
      have hx := (hF.w _ (getD_mem (d := (0, 0, false)) (show w < ws.length by omega))).1
      rw [sylR_step c hb]
      generalize ws.getD w (0, 0, false) = x at *
      have ih := rfault_l1_p hF (f := f) hb n (w + 1) (s + x.1) (by omega) (by omega) (by omega)
      rw [show ((w + 1 : Nat) : Int) = (w : Int) + 1 by omega] at ih
      rw [br_dec (by omega), idx_eq (by omega) g, chk_eq (by omega), chk_eq (by omega), ih]
      congr 4; omega
    · rw [br_ndec (by omega), sylR_end (by omega)]; simp
theorem stop_v (h : ws.length ≤ 1000) {p : Nat} (hp : p ≤ ws.length) : stop_S N ws ts br_ p = some (stopR ws p) := by
  unfold stop_S stopR
  by_cases h0 : p = 0
  · subst h0; simp [br]
  · rw [br_ndec (by omega)]
    by_cases h1 : p = ws.length
    · rw [br_dec (by simp [h1])]; simp [h1]
    · rw [br_ndec (by omega), chk_eq (by omega), show (p : Int) - 1 = ((p - 1 : Nat) : Int) by omega, idx_eq (by omega) (gets (l := ws) (by omega) (0, 0, false))]
      simp [h0, h1]
/-- What is wrong with a breath; -1 if nothing is. -/
def kindR (ws : List Wd) (ts : List Tn) (br_ : Int) (a b : Nat) : Int := if (faultR ws ts br_ a b).2 = true then (faultR ws ts br_ a b).1 else -1
theorem faultR_pos (a b : Nat) : 0 ≤ (faultR ws ts br_ a b).1 := by
  unfold faultR
  split
  · simp
  · split <;> simp
theorem rfault_v (hN : 110 ≤ N) (hF : TFine ws ts br_) {a b : Nat} (hab : a ≤ b) (hb : b ≤ ws.length) : rfault_S N ws ts br_ a b = some (kindR ws ts br_ a b) := by
  have := hF.n
  unfold rfault_S kindR faultR
  rw [rfault_l1_p hF hb N a 0 (by omega) hab (by omega)]
  simp only [Option.bind_some, Int.zero_add]
  rw [stop_v (by omega) (by omega), stop_v (by omega) hb, words_v (by omega) (by omega) (by omega)]
  simp only [Option.bind_some]
  rw [hF.said_words (by omega) (by omega)]
  simp only [Option.bind_some]
  by_cases h1 : br_ < sylR ws a b
  · rw [br_dec h1, if_pos h1]; simp
  · rw [br_ndec h1, if_neg h1]
    cases stopR ws a <;> cases stopR ws b <;> simp [br]
    by_cases h : 0 < (turnL ts a b).length <;> simp [h]
/-- The first breath that isn't right, and why. -/
def wrongF (ws : List Wd) (ts : List Tn) (br_ : Int) : List Int → Nat → Int → Option (Int × Int)
  | [], _, _ => none
  | x :: l, p, i => if (faultR ws ts br_ p (p + x.toNat)).2 = true then some (i, (faultR ws ts br_ p (p + x.toNat)).1) else wrongF ws ts br_ l (p + x.toNat) (i + 1)
theorem sum_ge {l : List Int} (h : ∀ x ∈ l, 1 ≤ x ∧ x ≤ 12) : (l.length : Int) ≤ l.sum := by
  induction l with
  | nil => simp
  | cons a l ih =>
    have := h a (by simp); have := ih (fun x hx => h x (by simp [hx]))
    rw [List.sum_cons, List.length_cons]; omega
theorem rwrong_l1_p (hN : 110 ≤ N) (hF : TFine ws ts br_) {l : List Int} (hl : l.length ≤ 100) (h12 : ∀ x ∈ l, 1 ≤ x ∧ x ≤ 12) : ∀ (n k p : Nat), l.length < n + k → k ≤ l.length → (p : Int) + (l.drop k).sum ≤ ws.length →
    rwrong_l1 N n l p k ws ts br_ = some (match wrongF ws ts br_ (l.drop k) p k with | some ic => .inl ic | none => .inr ())
  | 0, k, p, h, _, _ => by omega
  | n + 1, k, p, h, hk, hs => by
    have hlen := hF.n
    unfold rwrong_l1
    by_cases c : k < l.length
    · have g := gets c 0
      have hx := h12 _ (getD_mem (d := 0) c)
      have hd := drop_cons c 0
      rw [hd, List.sum_cons] at hs
      have h0 := sum_ge (l := l.drop (k + 1)) (fun y hy => h12 y (List.mem_of_mem_drop hy))
      rw [hd]
      generalize l.getD k 0 = x at *
      obtain ⟨m, rfl⟩ : ∃ m : Nat, x = m := ⟨x.toNat, (Int.toNat_of_nonneg (by omega)).symm⟩
      have ih := rwrong_l1_p hN hF hl h12 n (k + 1) (p + m) (by omega) (by omega) (by omega)
      rw [show ((k + 1 : Nat) : Int) = (k : Int) + 1 by omega] at ih
      rw [br_dec (by omega), idx_eq (by omega) g, chk_eq (by omega), show (p : Int) + m = ((p + m : Nat) : Int) by omega, rfault_v hN hF (by omega) (by omega)]
      simp only [Option.bind_some]
      unfold wrongF kindR
      simp only [Int.toNat_natCast]
      cases hf : (faultR ws ts br_ p (p + m)).2
      · rw [if_neg (by simp), if_neg (by simp), br_ndec (by omega), idx_eq (by omega) g, chk_eq (by omega), chk_eq (by omega)]
        exact ih
      · rw [if_pos rfl, if_pos rfl, br_dec (faultR_pos _ _)]
    · rw [br_ndec (by omega), List.drop_of_length_le (by omega)]; rfl
/-- What is wrong with a reading. -/
def wrongR (ws : List Wd) (ts : List Tn) (br_ : Int) (l : List Int) : Int × Int × Int :=
  if readE ws ts br_ l ≠ 0 then (0, 0, readE ws ts br_ l) else match wrongF ws ts br_ l 0 0 with | some (i, k) => (i, k, 0) | none => (0, 0, 6)
theorem read_ok {l : List Int} (h : readE ws ts br_ l = 0) : TFine ws ts br_ ∧ (∀ x ∈ l, 1 ≤ x ∧ x ≤ 12) ∧ l.sum = ws.length := by
  unfold readE at h
  split at h
  · omega
  rename_i c
  split at h
  · omega
  rename_i d
  split at h
  · omega
  rename_i e
  exact ⟨tfine_of (by simpa using c), all12 (by simpa using d), by simpa using e⟩
theorem rwrong_v (hN : 110 ≤ N) (hw : ws.length ≤ 1000000) (ht : ts.length ≤ 1000000) {l : List Int} (hl : l.length ≤ 100) : rwrong_S N ws ts br_ l = some (wrongR ws ts br_ l) := by
  unfold rwrong_S wrongR
  rw [rreading_v hN hw ht hl]
  simp only [Option.bind_some]
  by_cases c : readE ws ts br_ l = 0
  · obtain ⟨hF, h12, hs⟩ := read_ok c
    have e := rwrong_l1_p (N := N) hN hF hl h12 N 0 0 (by omega) (by omega) (by simp; omega)
    simp only [Int.natCast_zero, List.drop_zero] at e
    rw [br_nd c, e, if_neg (by simpa using c)]
    cases hw : wrongF ws ts br_ l 0 0 <;> rfl
  · rw [br_nnd c, if_pos c]
end
end Go.Proofs.Ytfamlpbdhhikdaa

namespace Go.Proofs.Ytfamlpbdhhikdaa
set_option linter.all false
open Go

section
variable {N : Nat} (hN : 110 ≤ N) {ws : List Wd} {ts : List Tn} {br_ : Int} (hF : TFine ws ts br_) {l : List Int} (hl : l.length ≤ 20) (h12 : ∀ x ∈ l, 1 ≤ x ∧ x ≤ 12) (hs : l.sum = ws.length)
include hN hF hl h12
include hs
omit hs
include hs
end
section
variable {N : Nat} (hN : 110 ≤ N) {ws : List Wd} {ts : List Tn} {br_ : Int}
include hN
end
end Go.Proofs.Ytfamlpbdhhikdaa

namespace Go.Proofs.Ytfamlpbdhhikdaa
set_option linter.all false
open Go

/-- A reading from a place to the end, all of whose breaths are right. -/
def goodB (R : Nat → Nat → Bool) (m : Nat) : Nat → List Int → Bool
  | a, [] => a == m
  | a, x :: l => (decide (1 ≤ x) && decide (a + x.toNat ≤ m)) && (R a (a + x.toNat) && goodB R m (a + x.toNat) l)
/-- The fewest breaths from a place. -/
structure IsMin (R : Nat → Nat → Bool) (m a : Nat) (k : Int) : Prop where
  ex : ∃ l, goodB R m a l = true ∧ (l.length : Int) = k
  le : ∀ l, goodB R m a l = true → k ≤ l.length
section
variable {R : Nat → Nat → Bool} {m : Nat}
theorem good_cons {a : Nat} {x : Int} {l : List Int} : goodB R m a (x :: l) = true ↔ (1 ≤ x ∧ a + x.toNat ≤ m) ∧ R a (a + x.toNat) = true ∧ goodB R m (a + x.toNat) l = true := by
  simp [goodB]
theorem good_nil {a : Nat} : goodB R m a [] = true ↔ a = m := by simp [goodB]
theorem good_step {a q : Nat} {l : List Int} (h : a < q) (hq : q ≤ m) (hR : R a q = true) (hl : goodB R m q l = true) : goodB R m a (((q : Int) - a) :: l) = true := by
  have e : a + ((q : Int) - a).toNat = q := by omega
  rw [good_cons, e]
  exact ⟨⟨by omega, hq⟩, hR, hl⟩
theorem IsMin.end_ : IsMin R m m 0 := ⟨⟨[], by simp [goodB], rfl⟩, fun l _ => by omega⟩
theorem getD_set' {α : Type} {l : List α} {i j : Nat} {v d : α} (hi : i < l.length) : (l.set i v).getD j d = if i = j then v else l.getD j d := by
  by_cases h : i = j
  · subst h; simp [List.getD, hi]
  · simp [List.getD, List.getElem?_set, h]
/-- What the tables say of a place. -/
def Told (R : Nat → Nat → Bool) (m : Nat) (L X : List Int) (i : Nat) : Prop :=
  (X.getD i 0 = 0 ∧ ∀ l, goodB R m i l = false) ∨ ∃ q : Nat, X.getD i 0 = q ∧ i < q ∧ q ≤ m ∧ R i q = true ∧ IsMin R m i (L.getD i 0) ∧ IsMin R m q (L.getD i 0 - 1)
structure Tab (R : Nat → Nat → Bool) (m f : Nat) (L X : List Int) : Prop where
  hL : L.length = 13
  hX : X.length = 13
  bd : ∀ i, i < 13 → 0 ≤ L.getD i 0 ∧ L.getD i 0 ≤ 13 - (i : Int)
  lo : ∀ i, i < f → X.getD i 0 = 0
  en : L.getD m 0 = 0
  told : ∀ i, f < i → i < m → Told R m L X i
/-- What is known of a place, when ends ahead of one were tried. -/
def Cur (R : Nat → Nat → Bool) (m f to : Nat) (L X : List Int) : Prop :=
  (X.getD f 0 = 0 ∧ ∀ q, f < q → q < to → R f q = true → ∀ l, goodB R m q l = false) ∨
  ∃ q : Nat, X.getD f 0 = q ∧ f < q ∧ q < to ∧ q ≤ m ∧ R f q = true ∧ IsMin R m q (L.getD f 0 - 1) ∧ ∀ p, f < p → p < to → R f p = true → ∀ l, goodB R m p l = true → L.getD f 0 ≤ l.length + 1
theorem Cur.start {f : Nat} {L X : List Int} (h : X.getD f 0 = 0) : Cur R m f (f + 1) L X := .inl ⟨h, fun q h1 h2 => by omega⟩
theorem Cur.skip {f to : Nat} {L X : List Int} (h : Cur R m f to L X) (hs : R f to = true → ∀ l, goodB R m to l = false) : Cur R m f (to + 1) L X := by
  rcases h with ⟨h1, h2⟩ | ⟨q, h1, h2, h3, h4, h5, h6, h7⟩
  · refine .inl ⟨h1, fun q a b hR => ?_⟩
    by_cases e : q = to
    · subst e; exact hs hR
    · exact h2 q a (by omega) hR
  · refine .inr ⟨q, h1, h2, by omega, h4, h5, h6, fun p a b hR l hl => ?_⟩
    by_cases e : p = to
    · subst e; rw [hs hR l] at hl; cases hl
    · exact h7 p a (by omega) hR l hl
theorem Cur.keep {f to : Nat} {L X : List Int} (h : Cur R m f to L X) (hx : X.getD f 0 ≠ 0) (ht : IsMin R m to (L.getD to 0)) (hle : L.getD f 0 ≤ L.getD to 0 + 1) : Cur R m f (to + 1) L X := by
  rcases h with ⟨h1, h2⟩ | ⟨q, h1, h2, h3, h4, h5, h6, h7⟩
  · exact absurd h1 hx
  · refine .inr ⟨q, h1, h2, by omega, h4, h5, h6, fun p a b hR l hl => ?_⟩
    by_cases e : p = to
    · subst e; have := ht.le l hl; omega
    · exact h7 p a (by omega) hR l hl
theorem Cur.put {f to : Nat} {L X : List Int} (h : Cur R m f to L X) (hL : L.length = 13) (hX : X.length = 13) (hf : f < 13) (hto : f < to) (hm : to ≤ m) (hR : R f to = true) (ht : IsMin R m to (L.getD to 0)) (hbetter : X.getD f 0 = 0 ∨ L.getD to 0 + 1 < L.getD f 0) :
    Cur R m f (to + 1) (L.set f (L.getD to 0 + 1)) (X.set f to) := by
  refine .inr ⟨to, by rw [getD_set' (by omega), if_pos rfl], hto, by omega, hm, hR, ?_, fun p a b hRp l hl => ?_⟩
  · rw [getD_set' (by omega), if_pos rfl]
    simpa using ht
  · rw [getD_set' (by omega), if_pos rfl]
    by_cases e : p = to
    · subst e; have := ht.le l hl; omega
    · rcases h with ⟨h1, h2⟩ | ⟨q, h1, h2, h3, h4, h5, h6, h7⟩
      · rw [h2 p a (by omega) hRp l] at hl; cases hl
      · have := h7 p a (by omega) hRp l hl
        rcases hbetter with hb | hb
        · omega
        · omega
theorem Tab.put {f to : Nat} {L X : List Int} (h : Tab R m f L X) (hf : f < m) (hm : m ≤ 12) (hto : f < to) (htm : to ≤ m) : Tab R m f (L.set f (L.getD to 0 + 1)) (X.set f to) := by
  have hL := h.hL; have hX := h.hX
  refine ⟨by simpa using hL, by simpa using hX, fun i hi => ?_, fun i hi => ?_, ?_, fun i h1 h2 => ?_⟩
  · rw [getD_set' (by omega)]
    split
    · rename_i e; subst e
      have := h.bd to (by omega)
      omega
    · exact h.bd i hi
  · rw [getD_set' (by omega), if_neg (by omega)]; exact h.lo i hi
  · rw [getD_set' (by omega), if_neg (by omega)]; exact h.en
  · unfold Told
    rw [getD_set' (by omega), getD_set' (by omega), if_neg (by omega), if_neg (by omega)]
    exact h.told i h1 h2
theorem Tab.min {f i : Nat} {L X : List Int} (h : Tab R m f L X) (h1 : f < i) (h2 : i ≤ m) (hx : i < m → X.getD i 0 ≠ 0) : IsMin R m i (L.getD i 0) := by
  by_cases e : i = m
  · subst e; rw [h.en]; exact IsMin.end_
  · rcases h.told i h1 (by omega) with ⟨h3, _⟩ | ⟨q, _, _, _, _, h4, _⟩
    · exact absurd h3 (hx (by omega))
    · exact h4
theorem Tab.next {f : Nat} {L X : List Int} (h : Tab R m f L X) (hf : f < m) (hc : Cur R m f (m + 1) L X) : ∀ i, f ≤ i → i < m → Told R m L X i := by
  intro i h1 h2
  by_cases e : i = f
  · subst e
    rcases hc with ⟨h3, h4⟩ | ⟨q, h3, h4, h5, h6, h7, h8, h9⟩
    · refine .inl ⟨h3, fun l => ?_⟩
      cases hg : goodB R m i l
      · rfl
      cases l with
      | nil => have := good_nil.1 hg; omega
      | cons x l =>
        obtain ⟨⟨a, b⟩, c, d⟩ := good_cons.1 hg
        rw [h4 _ (by omega) (by omega) c l] at d; cases d
    · refine .inr ⟨q, h3, h4, h6, h7, ⟨?_, fun l hl => ?_⟩, h8⟩
      · obtain ⟨l, a, b⟩ := h8.ex
        exact ⟨((q : Int) - i) :: l, good_step h4 h6 h7 a, by rw [List.length_cons]; omega⟩
      · cases l with
        | nil => have := good_nil.1 hl; omega
        | cons x l =>
          obtain ⟨⟨a, b⟩, c, d⟩ := good_cons.1 hl
          have := h9 _ (by omega) (by omega) c l d
          rw [List.length_cons]; omega
  · exact h.told i (by omega) h2
end
end Go.Proofs.Ytfamlpbdhhikdaa

namespace Go.Proofs.Ytfamlpbdhhikdaa
set_option linter.all false
open Go


/-! ### fewestr -/
section
variable {N : Nat} (hN : 110 ≤ N) {d : Tx} {r : Tx} {R : Nat → Nat → Bool} {m : Nat} (hd : d.1.length = m) (hm : 1 ≤ m ∧ m ≤ 12) (hR : ∀ a b : Nat, a < b → b ≤ m → right_S N r a b = some (R a b))
include hd hm hR
include hN
end
end Go.Proofs.Ytfamlpbdhhikdaa

namespace Go.Proofs.Ytfamlpbdhhikdaa
set_option linter.all false
open Go


/-! ### feweste -/
section
variable {N : Nat} (hN : 110 ≤ N) {d : Tx} {r : (Tx × Int × Tx)} {R : Nat → Nat → Bool} {m : Nat} (hd : d.1.length = m) (hm : 1 ≤ m ∧ m ≤ 12) (hR : ∀ a b : Nat, a < b → b ≤ m → even1_S N a b r.1 r.2.1 r.2.2 = some (R a b))
include hd hm hR
include hN
end

/-! ### fewests -/
section
variable {N : Nat} (hN : 110 ≤ N) {d : Tx} {r : Tx} {R : Nat → Nat → Bool} {m : Nat} (hd : d.1.length = m) (hm : 1 ≤ m ∧ m ≤ 12) (hR : ∀ a b : Nat, a < b → b ≤ m → surest1_S N a b r = some (R a b))
include hd hm hR
include hN
end
end Go.Proofs.Ytfamlpbdhhikdaa

namespace Go.Proofs.Ytfamlpbdhhikdaa
set_option linter.all false
open Go

/-- All readings from a place to the end, all of whose breaths are right. -/
def goods (R : Nat → Nat → Bool) (m : Nat) : Nat → Nat → List (List Int)
  | 0, a => if a = m then [[]] else []
  | n + 1, a => if a = m then [[]] else (toL (R a) m (a + 1)).flatMap fun q => (goods R m n q).map fun l => ((q : Int) - a) :: l
section
variable {R : Nat → Nat → Bool} {m : Nat}
theorem goods_fuel : ∀ (n k a : Nat), m - a ≤ n → m - a ≤ k → a ≤ m → goods R m n a = goods R m k a
  | 0, 0, _, _, _, _ => rfl
  | 0, k + 1, a, h1, h2, h3 => by
    obtain rfl : a = m := by omega
    simp [goods]
  | n + 1, 0, a, h1, h2, h3 => by
    obtain rfl : a = m := by omega
    simp [goods]
  | n + 1, k + 1, a, h1, h2, h3 => by
    unfold goods
    split
    · rfl
    · have : ∀ q ∈ toL (R a) m (a + 1), (fun q => (goods R m n q).map fun l => ((q : Int) - a) :: l) q = (fun q => (goods R m k q).map fun l => ((q : Int) - a) :: l) q := fun q hq => by
        obtain ⟨a1, a2, _⟩ := mem_toL.1 hq
        dsimp only
        rw [goods_fuel n k q (by omega) (by omega) a2]
      exact flatMap_congr' this
where
  flatMap_congr' {α β : Type} {l : List α} {f g : α → List β} (h : ∀ x ∈ l, f x = g x) : l.flatMap f = l.flatMap g := by
    induction l with
    | nil => rfl
    | cons x l ih => rw [List.flatMap_cons, List.flatMap_cons, h x (by simp), ih (fun y hy => h y (by simp [hy]))]
/-- The right readings. -/
def goodsL (R : Nat → Nat → Bool) (m a : Nat) : List (List Int) := goods R m 13 a
theorem goodsL_end : goodsL R m m = [[]] := by simp [goodsL, goods]
theorem goodsL_step {a : Nat} (h : a < m) (hm : m ≤ 12) : goodsL R m a = (toL (R a) m (a + 1)).flatMap fun q => (goodsL R m q).map fun l => ((q : Int) - a) :: l := by
  unfold goodsL
  rw [goods_fuel 13 14 a (by omega) (by omega) (by omega), goods, if_neg (by omega)]
theorem mem_goods {n : Nat} : ∀ (a : Nat), m - a ≤ n → a ≤ m → ∀ l, l ∈ goods R m n a ↔ goodB R m a l = true := by
  induction n with
  | zero =>
    intro a h1 h2 l
    obtain rfl : a = m := by omega
    simp only [goods, if_true, List.mem_singleton]
    cases l with
    | nil => simp [goodB]
    | cons x l =>
      simp only [reduceCtorEq, false_iff]
      intro h
      have := (good_cons.1 h).1; omega
  | succ n ih =>
    intro a h1 h2 l
    unfold goods
    split
    · rename_i e; subst e
      simp only [List.mem_singleton]
      cases l with
      | nil => simp [goodB]
      | cons x l =>
        simp only [reduceCtorEq, false_iff]
        intro h
        have := (good_cons.1 h).1; omega
    · rename_i e
      simp only [List.mem_flatMap, List.mem_map]
      constructor
      · rintro ⟨q, hq, l', hl', rfl⟩
        obtain ⟨a1, a2, a3⟩ := mem_toL.1 hq
        exact good_step (by omega) a2 a3 ((ih q (by omega) a2 l').1 hl')
      · intro h
        cases l with
        | nil => exact absurd (good_nil.1 h) e
        | cons x l =>
          obtain ⟨⟨b1, b2⟩, b3, b4⟩ := good_cons.1 h
          refine ⟨a + x.toNat, mem_toL.2 ⟨by omega, b2, b3⟩, l, (ih _ (by omega) b2 l).2 b4, ?_⟩
          congr 1; omega
theorem mem_goodsL {a : Nat} (ha : a ≤ m) (hm : m ≤ 12) {l : List Int} : l ∈ goodsL R m a ↔ goodB R m a l = true := mem_goods a (by omega) ha l
theorem goodsL_len (hm : m ≤ 12) : ∀ (k a : Nat), a + k = m → (goodsL R m a).length ≤ 2 ^ k := by
  intro k
  induction k using Nat.strongRecOn with
  | ind k ih =>
    intro a h
    by_cases e : k = 0
    · subst e
      obtain rfl : a = m := by omega
      rw [goodsL_end]; simp
    · -- one end after the other
      have key : ∀ (j : Nat), j ≤ k → ((toL (R a) m (m + 1 - j)).flatMap fun q => (goodsL R m q).map fun l => ((q : Int) - a) :: l).length + 1 ≤ 2 ^ j := by
        intro j
        induction j with
        | zero => intro _; rw [toL_end (by omega)]; simp
        | succ j ihj =>
          intro hj
          have h1 := ihj (by omega)
          have h2 := ih j (by omega) (m - j) (by omega)
          rw [show m + 1 - (j + 1) = m - j by omega]
          have e3 : m - j + 1 = m + 1 - j := by omega
          rw [Nat.pow_succ]
          cases hR : R a (m - j)
          · rw [toL_no (by omega) hR, e3]; omega
          · rw [toL_yes (by omega) hR, e3, List.flatMap_cons, List.length_append, List.length_map]; omega
      have := key k (Nat.le_refl _)
      rw [goodsL_step (by omega) hm, show a + 1 = m + 1 - k by omega]
      omega
end
/-! ### Tables of numbers -/
section
variable {N : Nat} (hN : 110 ≤ N) {ws : List Wd} {ts : List Tn} {br_ : Int} (hF : TFine ws ts br_)
/-- The right readings of a text. -/
abbrev goodsT (ws : List Wd) (ts : List Tn) (br_ : Int) (a : Nat) : List (List Int) := goodsL (rightR ws ts br_) ws.length a
include hF
theorem breathsR_v {f : Nat} (hf : f ≤ ws.length) : breathsR f (ws, ts, br_) = some ((endsL ws ts br_ f).map fun (j : Nat) => ((j : Int), ())) := by
  have := hF.t
  unfold breathsR
  rw [if_pos ⟨⟨by omega, by simp; omega⟩, hF.okW, by simp; omega⟩]
  simp
include hN
end
end Go.Proofs.Ytfamlpbdhhikdaa

namespace Go.Proofs.Ytfamlpbdhhikdaa
set_option linter.all false
open Go

section
variable {R : Nat → Nat → Bool} {m : Nat}
theorem good_le : ∀ {l : List Int} {a : Nat}, goodB R m a l = true → a ≤ m
  | [], a, h => by have := good_nil.1 h; omega
  | x :: l, a, h => by have := (good_cons.1 h).1; omega
theorem good_app {p : Nat} : ∀ {l1 : List Int} {a : Nat} {l2 : List Int}, goodB R p a l1 = true → goodB R m p l2 = true → goodB R m a (l1 ++ l2) = true
  | [], a, l2, h1, h2 => by obtain rfl := good_nil.1 h1; exact h2
  | x :: l1, a, l2, h1, h2 => by
    obtain ⟨⟨b1, b2⟩, b3, b4⟩ := good_cons.1 h1
    have := good_le h2
    exact good_cons.2 ⟨⟨b1, by omega⟩, b3, good_app b4 h2⟩
/-- A place that is met, and from which a reading goes on. -/
def metB (R : Nat → Nat → Bool) (p : Nat) : Bool := !(goodsL R p 0).isEmpty
def finB (R : Nat → Nat → Bool) (m p : Nat) : Bool := !(goodsL R m p).isEmpty
def brkB (R : Nat → Nat → Bool) (m p : Nat) : Bool := metB R p && finB R m p
/-- At which places readings were found to break so far. -/
def MetSo (R : Nat → Nat → Bool) (m k : Nat) (M : List Bool) : Prop := M.length = 13 ∧ ∀ q, q ≤ m → (M.getD q false = true ↔ q = 0 ∨ ∃ p, p < k ∧ p < q ∧ brkB R m p = true ∧ R p q = true)
theorem MetSo.skip {k : Nat} {M : List Bool} (h : MetSo R m k M) (hb : brkB R m k = false) : MetSo R m (k + 1) M := by
  refine ⟨h.1, fun q hq => (h.2 q hq).trans ?_⟩
  constructor
  · rintro (h1 | ⟨p, h1, h2⟩)
    · exact .inl h1
    · exact .inr ⟨p, by omega, h2⟩
  · rintro (h1 | ⟨p, h1, h2, h3, h4⟩)
    · exact .inl h1
    · by_cases e : p = k
      · subst e; rw [hb] at h3; cases h3
      · exact .inr ⟨p, by omega, h2, h3, h4⟩
end
section
variable {N : Nat} (hN : 110 ≤ N) {ws : List Wd} {ts : List Tn} {br_ : Int} (hF : TFine ws ts br_)
include hF
end
end Go.Proofs.Ytfamlpbdhhikdaa

namespace Go.Proofs.Ytfamlpbdhhikdaa
set_option linter.all false
open Go

end Go.Proofs.Ytfamlpbdhhikdaa

/-
  Parts of a proof, put together: E4.
  Conditions: none.
-/
import Derived.Test.YtfcnhnbnjdccfaaZf
namespace Go.Proofs.Ytfcnhnbnjdccfaa
set_option linter.all false
open Go

def musts1_S (N : Nat) (p : Int) (p2 : Int) (u : Int) : Option Bool :=
  br (decide (p = u))
    (some true)
    (some (decide (p2 = u)))
noncomputable def musts1_sp (N : Nat) : List Spec := []
theorem musts1_all (N : Nat) : AllP (SpecOK Try.prog) (musts1_sp N) := trivial
noncomputable def musts1_c : Code := (Try.f102.body).getD .skip
noncomputable abbrev musts1_B : Body := { c := musts1_c, n := 14, res := [.tmp 3], outs := [⟨[.b], []⟩], m0 := 0 }
abbrev musts1_rt : altD musts1_B.outs → Option Bool := fun r => some r.1.1
abbrev musts1_st : Sta := ⟨[0, 1], ⟨[.agg [.i .i64, .i .i64], .fe (.int .i64)], []⟩⟩
theorem musts1_eq (N : Nat) (p : Int) (p2 : Int) (u : Int) : ev (Z := Bool) Try.prog (musts1_sp N) musts1_B [] [] (some musts1_rt) 400 false [.c [0], .c [1]] (stL musts1_st (((p, p2, ()), u, ()), ())) (stH musts1_st (((p, p2, ()), u, ()), ())) = musts1_S N p p2 u := by kernel_rfl
noncomputable def sp_musts1 (N : Nat) : Spec := { f := 102, ins := ⟨[.agg [.i .i64, .i .i64], .fe (.int .i64)], []⟩, outs := [⟨[.b], []⟩], run := fun p k => (musts1_S N p.1.1.1 p.1.1.2.1 p.1.2.1).bind fun r => k ((r, ()), ()) }
theorem sp_musts1_ok (N : Nat) : SpecOK Try.prog (sp_musts1 N) := fn_sound (B := musts1_B) (loops := []) (leaves := []) (fun p => musts1_S N p.1.1.1 p.1.1.2.1 p.1.2.1) (fun r => ((r, ()), ())) musts1_rt (fun _ _ _ => rfl) (fun r z h => by cases h; rfl) Try.func102 (by kernel_rfl) (by kernel_rfl) (by kernel_rfl) rfl rfl (by kernel_rfl) (fun args w => Sem.pv_run _ _ _ (by kernel_rfl) w) (musts1_all N) mixed trivial (fun z E Xc hE hX hret => trivial) (fun p => musts1_eq N p.1.1.1 p.1.1.2.1 p.1.2.1)

def every1m_S (N : Nat) (x : Int) (x2 : Int) (g : Int) : Option (Bool × Int) :=
  (musts1_S N x x2 g).bind fun x_1 =>
  some ((!x_1), g)
noncomputable def every1m_sp (N : Nat) : List Spec := [sp_musts1 N]
theorem every1m_all (N : Nat) : AllP (SpecOK Try.prog) (every1m_sp N) := ⟨sp_musts1_ok N, trivial⟩
noncomputable def every1m_c : Code := (Try.f128.body).getD .skip
noncomputable abbrev every1m_B : Body := { c := every1m_c, n := 8, res := [.tmp 3], outs := [⟨[.b], [.segs [.fn 102 [] [.fe (.int .i64)]]]⟩], m0 := 1 }
abbrev every1m_rt : altD every1m_B.outs → Option (Bool × Int) := fun r => some (r.1.1, r.2.1.1.2.1)
abbrev every1m_st : Sta := ⟨[0, 1], ⟨[.agg [.i .i64, .i .i64], .own 0 0], [.segs [.fn 102 [] [.fe (.int .i64)]]]⟩⟩
theorem every1m_eq (N : Nat) (x : Int) (x2 : Int) (g : Int) : ev (Z := Bool × Int) Try.prog (every1m_sp N) every1m_B [] [] (some every1m_rt) 400 false [.c [0], .c [1]] (stL every1m_st (((x, x2, ()), (), ()), ((((), (g, ())), ()), ()))) (stH every1m_st (((x, x2, ()), (), ()), ((((), (g, ())), ()), ()))) = every1m_S N x x2 g := by kernel_rfl
noncomputable def sp_every1m (N : Nat) : Spec := { f := 128, ins := ⟨[.agg [.i .i64, .i .i64], .own 0 0], [.segs [.fn 102 [] [.fe (.int .i64)]]]⟩, outs := [⟨[.b], [.segs [.fn 102 [] [.fe (.int .i64)]]]⟩], run := fun p k => (every1m_S N p.1.1.1 p.1.1.2.1 p.2.1.1.2.1).bind fun r => k ((r.1, ()), ((((), (r.2, ())), ()), ())) }
theorem sp_every1m_ok (N : Nat) : SpecOK Try.prog (sp_every1m N) := fn_sound (B := every1m_B) (loops := []) (leaves := []) (fun p => every1m_S N p.1.1.1 p.1.1.2.1 p.2.1.1.2.1) (fun r => ((r.1, ()), ((((), (r.2, ())), ()), ()))) every1m_rt (fun _ _ _ => rfl) (fun r z h => by cases h; rfl) Try.func128 (by kernel_rfl) (by kernel_rfl) (by kernel_rfl) rfl rfl (by kernel_rfl) (fun args w => Sem.pv_run _ _ _ (by kernel_rfl) w) (every1m_all N) mixed trivial (fun z E Xc hE hX hret => trivial) (fun p => every1m_eq N p.1.1.1 p.1.1.2.1 p.2.1.1.2.1)

def ixfm_l1 (N : Nat) : Nat → (List (Int × Int)) → Int → Int → Int → Option ((Int × Int) ⊕ (Int))
  | 0, _, _, _, _ => none
  | n_ + 1, s, u, u2, f =>
    br (decide (u2 < u))
      (idx s u2 fun x_1 =>
      (every1m_S N x_1.1 x_1.2 f).bind fun (x_2, y_3) =>
      br x_2
        (some (.inl (u2, y_3)))
        (chk (u2 + 1) <|
        ixfm_l1 N n_ s u (u2 + 1) y_3))
      (some (.inr f))
def ixfm_S (N : Nat) (s : List (Int × Int)) (f : Int) : Option (Int × Int) :=
  (ixfm_l1 N N s (s.length : Int) 0 f).bind fun e => match e with
  | .inl (i_4, g_5) =>
    some (i_4, g_5)
  | .inr g_6 =>
    some (-1, g_6)
noncomputable def ixfm_sp (N : Nat) : List Spec := [sp_every1m N]
theorem ixfm_all (N : Nat) : AllP (SpecOK Try.prog) (ixfm_sp N) := ⟨sp_every1m_ok N, trivial⟩
noncomputable def ixfm_c : Code := (Try.f77.body).getD .skip
noncomputable abbrev ixfm_B : Body := { c := ixfm_c, n := 19, res := [.tmp 4], outs := [⟨[.i .i64], [.segs [.fn 102 [] [.fe (.int .i64)]]]⟩], m0 := 1 }
abbrev ixfm_rt : altD ixfm_B.outs → Option (Int × Int) := fun r => some (r.1.1, r.2.1.1.2.1)
abbrev ixfm_l1_at : List PI := [.c [1, 0, 1, 0, 0, 0], .c [1, 0, 1, 0, 0, 1], .l [1, 0, 1, 0, 0], .b 0, .c [1, 1]]
abbrev ixfm_l1_st : Sta := ⟨[0, 1, 7, 8], ⟨[.sl (.pair (.int .i64) (.int .i64)), .fn 128 [] [.own 0 0], .i .i64, .i .i64], [.segs [.fn 102 [] [.fe (.int .i64)]]]⟩⟩
abbrev ixfm_l1_h (rec : (List (Int × Int)) → Int → Int → Int → Option ((Int × Int) ⊕ (Int))) : Leaf ((Int × Int) ⊕ (Int)) := ⟨ixfm_l1_at, ixfm_l1_st, fun p => rec p.1.1 p.1.2.2.1 p.1.2.2.2.1 p.2.1.1.2.1⟩
abbrev ixfm_l1_e0 : Leaf ((Int × Int) ⊕ (Int)) := ⟨[.c [1, 0, 1, 0, 0, 1, 1, 0, 0, 1, 1, 0, 0], .c [1, 0, 1, 0, 0, 1, 1, 0, 0, 1, 1, 0, 1], .b 1, .c [1, 0, 1, 0, 0, 1, 1, 1], .l [1, 0, 1, 0, 0], .b 0, .c [1, 1]], ⟨[5], ⟨[.i .i64], [.segs [.fn 102 [] [.fe (.int .i64)]]]⟩⟩, fun p => some (.inl (p.1.1, p.2.1.1.2.1))⟩
abbrev ixfm_l1_e1 : Leaf ((Int × Int) ⊕ (Int)) := ⟨[.c [1, 1, 0], .c [1, 1, 1]], ⟨[], ⟨[], [.segs [.fn 102 [] [.fe (.int .i64)]]]⟩⟩, fun p => some (.inr p.2.1.1.2.1)⟩
noncomputable def ixfm_l1_L (N : Nat) : LoopS := { at_ := ixfm_l1_at, sta := ixfm_l1_st, exits := [([.c [1, 0, 1, 0, 0, 1, 1, 0, 0, 1, 1, 0, 0], .c [1, 0, 1, 0, 0, 1, 1, 0, 0, 1, 1, 0, 1], .b 1, .c [1, 0, 1, 0, 0, 1, 1, 1], .l [1, 0, 1, 0, 0], .b 0, .c [1, 1]], ⟨[5], ⟨[.i .i64], [.segs [.fn 102 [] [.fe (.int .i64)]]]⟩⟩), ([.c [1, 1, 0], .c [1, 1, 1]], ⟨[], ⟨[], [.segs [.fn 102 [] [.fe (.int .i64)]]]⟩⟩)], run := fun p k => (ixfm_l1 N N p.1.1 p.1.2.2.1 p.1.2.2.2.1 p.2.1.1.2.1).bind fun e => match e with | .inl x => k (.inl ((x.1, ()), ((((), (x.2, ())), ()), ()))) | .inr x => k (.inr (.inl ((), ((((), (x, ())), ()), ())))) }
theorem ixfm_l1_eq (N n_ : Nat) (s : List (Int × Int)) (u : Int) (u2 : Int) (f : Int) : ev (Z := (Int × Int) ⊕ (Int)) Try.prog (ixfm_sp N) ixfm_B [] [ixfm_l1_h (ixfm_l1 N n_), ixfm_l1_e0, ixfm_l1_e1] none 400 true ixfm_l1_at (stL ixfm_l1_st ((s, ((), ((), ())), u, u2, ()), ((((), (f, ())), ()), ()))) (stH ixfm_l1_st ((s, ((), ((), ())), u, u2, ()), ((((), (f, ())), ()), ()))) = ixfm_l1 N (n_ + 1) s u u2 f := by kernel_rfl
theorem ixfm_l1_ok (N : Nat) {top : Bool} : LoopOK Try.prog ixfm_B.c ixfm_B.n ixfm_B.m0 top (ixfm_l1_L N) := loop_of_ev (Z := (Int × Int) ⊕ (Int)) (N := N) (fun m p => ixfm_l1 N m p.1.1 p.1.2.2.1 p.1.2.2.2.1 p.2.1.1.2.1) (fun e => match e with | .inl x => .inl ((x.1, ()), ((((), (x.2, ())), ()), ())) | .inr x => .inr (.inl ((), ((((), (x, ())), ()), ())))) (fun _ p k => bind_congr_ (ixfm_l1 N N p.1.1 p.1.2.2.1 p.1.2.2.2.1 p.2.1.1.2.1) _ _ (fun e => by rcases e with x | x <;> rfl)) (fun _ => rfl) (fun m z E Xc hE hX hrec hx => leaf_of_ev (B := ixfm_B) (loops := []) (leaves := [ixfm_l1_h (ixfm_l1 N m), ixfm_l1_e0, ixfm_l1_e1]) (ixfm_all N) mixed trivial hE hX ⟨hrec, (fun p hp => by obtain rfl := Option.some.inj hp; exact hx), (fun p hp => by obtain rfl := Option.some.inj hp; exact hx), trivial⟩ RetOK.no (fun p => ixfm_l1_eq N m p.1.1 p.1.2.2.1 p.1.2.2.2.1 p.2.1.1.2.1))
abbrev ixfm_st : Sta := ⟨[0, 1], ⟨[.sl (.pair (.int .i64) (.int .i64)), .fn 128 [] [.own 0 0]], [.segs [.fn 102 [] [.fe (.int .i64)]]]⟩⟩
theorem ixfm_eq (N : Nat) (s : List (Int × Int)) (f : Int) : ev (Z := Int × Int) Try.prog (ixfm_sp N) ixfm_B [ixfm_l1_L N] [] (some ixfm_rt) 400 false [.c [0], .c [1]] (stL ixfm_st ((s, ((), ((), ())), ()), ((((), (f, ())), ()), ()))) (stH ixfm_st ((s, ((), ((), ())), ()), ((((), (f, ())), ()), ()))) = ixfm_S N s f := by kernel_rfl
noncomputable def sp_ixfm (N : Nat) : Spec := { f := 77, ins := ⟨[.sl (.pair (.int .i64) (.int .i64)), .fn 128 [] [.own 0 0]], [.segs [.fn 102 [] [.fe (.int .i64)]]]⟩, outs := [⟨[.i .i64], [.segs [.fn 102 [] [.fe (.int .i64)]]]⟩], run := fun p k => (ixfm_S N p.1.1 p.2.1.1.2.1).bind fun r => k ((r.1, ()), ((((), (r.2, ())), ()), ())) }
theorem sp_ixfm_ok (N : Nat) : SpecOK Try.prog (sp_ixfm N) := fn_sound (B := ixfm_B) (loops := [ixfm_l1_L N]) (leaves := []) (fun p => ixfm_S N p.1.1 p.2.1.1.2.1) (fun r => ((r.1, ()), ((((), (r.2, ())), ()), ()))) ixfm_rt (fun _ _ _ => rfl) (fun r z h => by cases h; rfl) Try.func77 (by kernel_rfl) (by kernel_rfl) (by kernel_rfl) rfl rfl (by kernel_rfl) (fun args w => Sem.pv_run _ _ _ (by kernel_rfl) w) (ixfm_all N) mixed ⟨ixfm_l1_ok N, trivial⟩ (fun z E Xc hE hX hret => trivial) (fun p => ixfm_eq N p.1.1 p.2.1.1.2.1)

def cofm_S (N : Nat) (s : List (Int × Int)) (f : Int) : Option (Bool × Int) :=
  (ixfm_S N s f).bind fun (x_1, y_2) =>
  some ((decide (0 ≤ x_1)), y_2)
noncomputable def cofm_sp (N : Nat) : List Spec := [sp_ixfm N]
theorem cofm_all (N : Nat) : AllP (SpecOK Try.prog) (cofm_sp N) := ⟨sp_ixfm_ok N, trivial⟩
noncomputable def cofm_c : Code := (Try.f24.body).getD .skip
noncomputable abbrev cofm_B : Body := { c := cofm_c, n := 9, res := [.tmp 4], outs := [⟨[.b], [.segs [.fn 102 [] [.fe (.int .i64)]]]⟩], m0 := 1 }
abbrev cofm_rt : altD cofm_B.outs → Option (Bool × Int) := fun r => some (r.1.1, r.2.1.1.2.1)
abbrev cofm_st : Sta := ⟨[0, 1], ⟨[.sl (.pair (.int .i64) (.int .i64)), .fn 128 [] [.own 0 0]], [.segs [.fn 102 [] [.fe (.int .i64)]]]⟩⟩
theorem cofm_eq (N : Nat) (s : List (Int × Int)) (f : Int) : ev (Z := Bool × Int) Try.prog (cofm_sp N) cofm_B [] [] (some cofm_rt) 400 false [.c [0], .c [1]] (stL cofm_st ((s, ((), ((), ())), ()), ((((), (f, ())), ()), ()))) (stH cofm_st ((s, ((), ((), ())), ()), ((((), (f, ())), ()), ()))) = cofm_S N s f := by kernel_rfl
noncomputable def sp_cofm (N : Nat) : Spec := { f := 24, ins := ⟨[.sl (.pair (.int .i64) (.int .i64)), .fn 128 [] [.own 0 0]], [.segs [.fn 102 [] [.fe (.int .i64)]]]⟩, outs := [⟨[.b], [.segs [.fn 102 [] [.fe (.int .i64)]]]⟩], run := fun p k => (cofm_S N p.1.1 p.2.1.1.2.1).bind fun r => k ((r.1, ()), ((((), (r.2, ())), ()), ())) }
theorem sp_cofm_ok (N : Nat) : SpecOK Try.prog (sp_cofm N) := fn_sound (B := cofm_B) (loops := []) (leaves := []) (fun p => cofm_S N p.1.1 p.2.1.1.2.1) (fun r => ((r.1, ()), ((((), (r.2, ())), ()), ()))) cofm_rt (fun _ _ _ => rfl) (fun r z h => by cases h; rfl) Try.func24 (by kernel_rfl) (by kernel_rfl) (by kernel_rfl) rfl rfl (by kernel_rfl) (fun args w => Sem.pv_run _ _ _ (by kernel_rfl) w) (cofm_all N) mixed trivial (fun z E Xc hE hX hret => trivial) (fun p => cofm_eq N p.1.1 p.2.1.1.2.1)

def everym_S (N : Nat) (l : List (Int × Int)) (holds : Int) : Option Bool :=
  (cofm_S N l holds).bind fun (x_1, y_2) =>
  some (!x_1)
noncomputable def everym_sp (N : Nat) : List Spec := [sp_cofm N]
theorem everym_all (N : Nat) : AllP (SpecOK Try.prog) (everym_sp N) := ⟨sp_cofm_ok N, trivial⟩
noncomputable def everym_c : Code := (Try.f101.body).getD .skip
noncomputable abbrev everym_B : Body := { c := everym_c, n := 9, res := [.tmp 4], outs := [⟨[.b], []⟩], m0 := 0 }
abbrev everym_rt : altD everym_B.outs → Option Bool := fun r => some r.1.1
abbrev everym_st : Sta := ⟨[0, 1], ⟨[.sl (.pair (.int .i64) (.int .i64)), .fn 102 [] [.fe (.int .i64)]], []⟩⟩
theorem everym_eq (N : Nat) (l : List (Int × Int)) (holds : Int) : ev (Z := Bool) Try.prog (everym_sp N) everym_B [] [] (some everym_rt) 400 false [.c [0], .c [1]] (stL everym_st ((l, ((), (holds, ())), ()), ())) (stH everym_st ((l, ((), (holds, ())), ()), ())) = everym_S N l holds := by kernel_rfl
noncomputable def sp_everym (N : Nat) : Spec := { f := 101, ins := ⟨[.sl (.pair (.int .i64) (.int .i64)), .fn 102 [] [.fe (.int .i64)]], []⟩, outs := [⟨[.b], []⟩], run := fun p k => (everym_S N p.1.1 p.1.2.1.2.1).bind fun r => k ((r, ()), ()) }
theorem sp_everym_ok (N : Nat) : SpecOK Try.prog (sp_everym N) := fn_sound (B := everym_B) (loops := []) (leaves := []) (fun p => everym_S N p.1.1 p.1.2.1.2.1) (fun r => ((r, ()), ())) everym_rt (fun _ _ _ => rfl) (fun r z h => by cases h; rfl) Try.func101 (by kernel_rfl) (by kernel_rfl) (by kernel_rfl) rfl rfl (by kernel_rfl) (fun args w => Sem.pv_run _ _ _ (by kernel_rfl) w) (everym_all N) mixed trivial (fun z E Xc hE hX hret => trivial) (fun p => everym_eq N p.1.1 p.1.2.1.2.1)

def musts_j1 (N : Nat) (rec : (List (Int × Int)) → Int → Int → (List Int) → Option (List Int)) (l : List (Int × Int)) (u : Int) (u2 : Int) (out : List Int) : Option (List Int) :=
  chk (u2 + 1) <|
  rec l u (u2 + 1) out
def musts_l1 (N : Nat) : Nat → (List (Int × Int)) → Int → Int → (List Int) → Option (List Int)
  | 0, _, _, _, _ => none
  | n_ + 1, l, u, u2, out =>
    br (decide (u2 < u))
      ((everym_S N l u2).bind fun x_3 =>
      br x_3
        (lim (out.length + [u2].length) <|
        musts_j1 N (musts_l1 N n_) l u u2 (out ++ [u2]))
        (musts_j1 N (musts_l1 N n_) l u u2 out))
      (some (out))
def musts_S (N : Nat) (e : List (List Int)) (e2 : List Int) (e3 : Int) : Option (List Int × Int) :=
  (check_S N e e2 e3).bind fun x_1 =>
  br (!decide (x_1 = 0))
    (some ([], x_1))
    ((epairs_S N e e2 e3).bind fun x_2 =>
    br (decide ((x_2.length : Int) = 0))
      (some ([], 6))
      ((musts_l1 N N x_2 (e.length : Int) 0 []).bind fun out_4 =>
      some (out_4, 0)))
noncomputable def musts_sp (N : Nat) : List Spec := [sp_check N, sp_epairs N, sp_everym N]
theorem musts_all (N : Nat) : AllP (SpecOK Try.prog) (musts_sp N) := ⟨sp_check_ok N, sp_epairs_ok N, sp_everym_ok N, trivial⟩
noncomputable def musts_c : Code := (Try.f58.body).getD .skip
noncomputable abbrev musts_B : Body := { c := musts_c, n := 33, res := [.tmp 2, .tmp 3], outs := [⟨[.sl (.int .i64), .i .i64], []⟩], m0 := 0 }
abbrev musts_rt : altD musts_B.outs → Option (List Int × Int) := fun r => some (r.1.1, r.1.2.1)
abbrev musts_l1_at : List PI := [.c [1, 1, 1, 1, 1, 0, 1, 0, 0, 0], .c [1, 1, 1, 1, 1, 0, 1, 0, 0, 1], .l [1, 1, 1, 1, 1, 0, 1, 0, 0], .b 0, .c [1, 1, 1, 1, 1, 1]]
abbrev musts_l1_st : Sta := ⟨[5, 6, 20, 21], ⟨[.sl (.pair (.int .i64) (.int .i64)), .ols 0, .i .i64, .i .i64], [.lst (.int .i64)]⟩⟩
abbrev musts_l1_h (rec : (List (Int × Int)) → Int → Int → (List Int) → Option (List Int)) : Leaf (List Int) := ⟨musts_l1_at, musts_l1_st, fun p => rec p.1.1 p.1.2.2.1 p.1.2.2.2.1 p.2.1⟩
abbrev musts_l1_e0 : Leaf (List Int) := ⟨[.c [1, 1, 1, 1, 1, 1, 0], .c [1, 1, 1, 1, 1, 1, 1]], ⟨[6], ⟨[.ols 0], [.lst (.int .i64)]⟩⟩, fun p => some (p.2.1)⟩
abbrev musts_j1_at : List PI := [.c [1, 1, 1, 1, 1, 0, 1, 0, 0, 1, 1, 1], .l [1, 1, 1, 1, 1, 0, 1, 0, 0], .b 0, .c [1, 1, 1, 1, 1, 1]]
abbrev musts_j1_st : Sta := ⟨[5, 6, 20, 21], ⟨[.sl (.pair (.int .i64) (.int .i64)), .ols 0, .i .i64, .i .i64], [.lst (.int .i64)]⟩⟩
abbrev musts_j1_k (N : Nat) (rec : (List (Int × Int)) → Int → Int → (List Int) → Option (List Int)) : Leaf (List Int) := ⟨musts_j1_at, musts_j1_st, fun p => musts_j1 N rec p.1.1 p.1.2.2.1 p.1.2.2.2.1 p.2.1⟩
theorem musts_j1_eq (N : Nat) (rec : (List (Int × Int)) → Int → Int → (List Int) → Option (List Int)) (l : List (Int × Int)) (u : Int) (u2 : Int) (out : List Int) : ev (Z := List Int) Try.prog (musts_sp N) musts_B [] [musts_l1_h rec, musts_l1_e0] none 400 true musts_j1_at (stL musts_j1_st ((l, (), u, u2, ()), (out, ()))) (stH musts_j1_st ((l, (), u, u2, ()), (out, ()))) = musts_j1 N rec l u u2 out := by kernel_rfl
theorem musts_j1_lf (N : Nat) (rec : (List (Int × Int)) → Int → Int → (List Int) → Option (List Int)) {z : List Int} {top : Bool} {E : EE} {Xc : Ctx} (hE : EOK musts_B.m0 E) (hX : CxOK top Xc) (hrec : LeafOK Try.prog musts_B.c musts_B.n musts_B.m0 E Xc z (musts_l1_h rec)) (h0 : LeafOK Try.prog musts_B.c musts_B.n musts_B.m0 E Xc z musts_l1_e0) : LeafOK Try.prog musts_B.c musts_B.n musts_B.m0 E Xc z (musts_j1_k N rec) := leaf_of_ev (B := musts_B) (loops := []) (leaves := [musts_l1_h rec, musts_l1_e0]) (musts_all N) mixed trivial hE hX ⟨hrec, h0, trivial⟩ RetOK.no (fun p => musts_j1_eq N rec p.1.1 p.1.2.2.1 p.1.2.2.2.1 p.2.1)
noncomputable def musts_l1_L (N : Nat) : LoopS := { at_ := musts_l1_at, sta := musts_l1_st, exits := [([.c [1, 1, 1, 1, 1, 1, 0], .c [1, 1, 1, 1, 1, 1, 1]], ⟨[6], ⟨[.ols 0], [.lst (.int .i64)]⟩⟩)], run := fun p k => (musts_l1 N N p.1.1 p.1.2.2.1 p.1.2.2.2.1 p.2.1).bind fun e => k (.inl (((), ()), (e, ()))) }
theorem musts_l1_eq (N n_ : Nat) (l : List (Int × Int)) (u : Int) (u2 : Int) (out : List Int) : ev (Z := List Int) Try.prog (musts_sp N) musts_B [] [musts_l1_h (musts_l1 N n_), musts_l1_e0, musts_j1_k N (musts_l1 N n_)] none 400 true musts_l1_at (stL musts_l1_st ((l, (), u, u2, ()), (out, ()))) (stH musts_l1_st ((l, (), u, u2, ()), (out, ()))) = musts_l1 N (n_ + 1) l u u2 out := by kernel_rfl
theorem musts_l1_ok (N : Nat) {top : Bool} : LoopOK Try.prog musts_B.c musts_B.n musts_B.m0 top (musts_l1_L N) := loop_of_ev (Z := List Int) (N := N) (fun m p => musts_l1 N m p.1.1 p.1.2.2.1 p.1.2.2.2.1 p.2.1) (fun e => .inl (((), ()), (e, ()))) (fun _ _ _ => rfl) (fun _ => rfl) (fun m z E Xc hE hX hrec hx => leaf_of_ev (B := musts_B) (loops := []) (leaves := [musts_l1_h (musts_l1 N m), musts_l1_e0, musts_j1_k N (musts_l1 N m)]) (musts_all N) mixed trivial hE hX ⟨hrec, (fun p hp => by obtain rfl := Option.some.inj hp; exact hx), musts_j1_lf N _ hE hX hrec (fun p hp => by obtain rfl := Option.some.inj hp; exact hx), trivial⟩ RetOK.no (fun p => musts_l1_eq N m p.1.1 p.1.2.2.1 p.1.2.2.2.1 p.2.1))
abbrev musts_st : Sta := ⟨[0], ⟨[.agg [.sl (.sl (.int .i64)), .sl (.int .i64), .i .i64]], []⟩⟩
theorem musts_eq (N : Nat) (e : List (List Int)) (e2 : List Int) (e3 : Int) : ev (Z := List Int × Int) Try.prog (musts_sp N) musts_B [musts_l1_L N] [] (some musts_rt) 400 false [.c [0], .c [1]] (stL musts_st (((e, e2, e3, ()), ()), ())) (stH musts_st (((e, e2, e3, ()), ()), ())) = musts_S N e e2 e3 := by kernel_rfl
noncomputable def sp_musts (N : Nat) : Spec := { f := 58, ins := ⟨[.agg [.sl (.sl (.int .i64)), .sl (.int .i64), .i .i64]], []⟩, outs := [⟨[.sl (.int .i64), .i .i64], []⟩], run := fun p k => (musts_S N p.1.1.1 p.1.1.2.1 p.1.1.2.2.1).bind fun r => k ((r.1, r.2, ()), ()) }
theorem sp_musts_ok (N : Nat) : SpecOK Try.prog (sp_musts N) := fn_sound (B := musts_B) (loops := [musts_l1_L N]) (leaves := []) (fun p => musts_S N p.1.1.1 p.1.1.2.1 p.1.1.2.2.1) (fun r => ((r.1, r.2, ()), ())) musts_rt (fun _ _ _ => rfl) (fun r z h => by cases h; rfl) Try.func58 (by kernel_rfl) (by kernel_rfl) (by kernel_rfl) rfl rfl (by kernel_rfl) (fun args w => Sem.pv_run _ _ _ (by kernel_rfl) w) (musts_all N) mixed ⟨musts_l1_ok N, trivial⟩ (fun z E Xc hE hX hret => trivial) (fun p => musts_eq N p.1.1.1 p.1.1.2.1 p.1.1.2.2.1)

def eother_l2 (N : Nat) : Nat → Int → (List (Int × Int)) → (List Int) → Bool → Int → (List (Int × Int)) → Int → Int → Int → Int → (List (List Int)) → (List Int) → Int → Int → Int → Int → Int → Option ((Unit) ⊕ (Int × (List (Int × Int)) × List Int × Bool × (List (Int × Int)) × Int × Int × List (List Int) × List Int × Int × Int × Int))
  | 0, _, _, _, _, _, _, _, _, _, _, _, _, _, _, _, _, _ => none
  | n_ + 1, least, can, musts, met, n, u, u2, u3, u4, u5, x, x2, x3, best, best2, p, p2 =>
    br (decide (u5 < u4))
      ((least_S N x x2 x3 p u5).bind fun (x_22, y_23) =>
      (dist_S N x x2 x3 p2 u5).bind fun (x_24, y_25) =>
      br (!decide (y_23 = 0))
        (some (.inl ()))
        (br (!decide (y_25 = 0))
          (some (.inl ()))
          (chk (n + x_24) <|
          br (decide ((n + x_24) < x_22))
            (some (.inl ()))
            (chk (x_22 + x_24) <|
            br (decide ((x_22 + x_24) < n))
              (some (.inl ()))
              (chk (u5 + 1) <|
              eother_l2 N n_ least can musts met n u u2 u3 u4 (u5 + 1) x x2 x3 best best2 p p2)))))
      (some (.inr (least, can, musts, met, u, u2, u3, x, x2, x3, best, best2)))
def eother_l1 (N : Nat) : Nat → Int → (List (Int × Int)) → (List Int) → Bool → (List (Int × Int)) → Int → Int → (List (List Int)) → (List Int) → Int → Int → Int → Option ((Unit) ⊕ ((Unit) ⊕ ((List (Int × Int)) × List Int × Bool × List (List Int) × List Int × Int)))
  | 0, _, _, _, _, _, _, _, _, _, _, _, _ => none
  | n_ + 1, least, can, musts, met, u, u2, u3, x, x2, x3, best, best2 =>
    br (decide (u3 < u2))
      (idx u u3 fun x_19 =>
      (least_S N x x2 x3 x_19.1 x_19.2).bind fun (x_20, y_21) =>
      br (!decide (y_21 = 0))
        (some (.inl ()))
        (br (decide (x_20 < least))
          (some (.inl ()))
          (br (decide (x_19.1 = best) && decide (x_19.2 = best2))
            (br (!decide (x_20 = least))
              (some (.inl ()))
              (br (decide (x_20 = least))
                (br (!met)
                  (br (!(decide (x_19.1 = best) && decide (x_19.2 = best2)))
                    (some (.inl ()))
                    (br met
                      ((eother_l2 N N least can musts true x_20 u u2 u3 (x.length : Int) 0 x x2 x3 best best2 x_19.1 x_19.2).bind fun e => match e with
                      | .inl _ =>
                        some (.inr (.inl ()))
                      | .inr (least_26, can_27, musts_28, met_29, u_30, u2_31, u3_32, x_33, x2_34, x3_35, best_36, best2_37) =>
                        chk (u3_32 + 1) <|
                        eother_l1 N n_ least_26 can_27 musts_28 met_29 u_30 u2_31 (u3_32 + 1) x_33 x2_34 x3_35 best_36 best2_37)
                      ((eother_l2 N N least can musts (decide (x_19.1 = best) && decide (x_19.2 = best2)) x_20 u u2 u3 (x.length : Int) 0 x x2 x3 best best2 x_19.1 x_19.2).bind fun e => match e with
                      | .inl _ =>
                        some (.inr (.inl ()))
                      | .inr (least_38, can_39, musts_40, met_41, u_42, u2_43, u3_44, x_45, x2_46, x3_47, best_48, best2_49) =>
                        chk (u3_44 + 1) <|
                        eother_l1 N n_ least_38 can_39 musts_40 met_41 u_42 u2_43 (u3_44 + 1) x_45 x2_46 x3_47 best_48 best2_49)))
                  (br met
                    ((eother_l2 N N least can musts true x_20 u u2 u3 (x.length : Int) 0 x x2 x3 best best2 x_19.1 x_19.2).bind fun e => match e with
                    | .inl _ =>
                      some (.inr (.inl ()))
                    | .inr (least_50, can_51, musts_52, met_53, u_54, u2_55, u3_56, x_57, x2_58, x3_59, best_60, best2_61) =>
                      chk (u3_56 + 1) <|
                      eother_l1 N n_ least_50 can_51 musts_52 met_53 u_54 u2_55 (u3_56 + 1) x_57 x2_58 x3_59 best_60 best2_61)
                    ((eother_l2 N N least can musts (decide (x_19.1 = best) && decide (x_19.2 = best2)) x_20 u u2 u3 (x.length : Int) 0 x x2 x3 best best2 x_19.1 x_19.2).bind fun e => match e with
                    | .inl _ =>
                      some (.inr (.inl ()))
                    | .inr (least_62, can_63, musts_64, met_65, u_66, u2_67, u3_68, x_69, x2_70, x3_71, best_72, best2_73) =>
                      chk (u3_68 + 1) <|
                      eother_l1 N n_ least_62 can_63 musts_64 met_65 u_66 u2_67 (u3_68 + 1) x_69 x2_70 x3_71 best_72 best2_73)))
                (br met
                  ((eother_l2 N N least can musts true x_20 u u2 u3 (x.length : Int) 0 x x2 x3 best best2 x_19.1 x_19.2).bind fun e => match e with
                  | .inl _ =>
                    some (.inr (.inl ()))
                  | .inr (least_74, can_75, musts_76, met_77, u_78, u2_79, u3_80, x_81, x2_82, x3_83, best_84, best2_85) =>
                    chk (u3_80 + 1) <|
                    eother_l1 N n_ least_74 can_75 musts_76 met_77 u_78 u2_79 (u3_80 + 1) x_81 x2_82 x3_83 best_84 best2_85)
                  ((eother_l2 N N least can musts (decide (x_19.1 = best) && decide (x_19.2 = best2)) x_20 u u2 u3 (x.length : Int) 0 x x2 x3 best best2 x_19.1 x_19.2).bind fun e => match e with
                  | .inl _ =>
                    some (.inr (.inl ()))
                  | .inr (least_86, can_87, musts_88, met_89, u_90, u2_91, u3_92, x_93, x2_94, x3_95, best_96, best2_97) =>
                    chk (u3_92 + 1) <|
                    eother_l1 N n_ least_86 can_87 musts_88 met_89 u_90 u2_91 (u3_92 + 1) x_93 x2_94 x3_95 best_96 best2_97))))
            (br (decide (x_20 = least))
              (br (!met)
                (br (!(decide (x_19.1 = best) && decide (x_19.2 = best2)))
                  (some (.inl ()))
                  (br met
                    ((eother_l2 N N least can musts true x_20 u u2 u3 (x.length : Int) 0 x x2 x3 best best2 x_19.1 x_19.2).bind fun e => match e with
                    | .inl _ =>
                      some (.inr (.inl ()))
                    | .inr (least_98, can_99, musts_100, met_101, u_102, u2_103, u3_104, x_105, x2_106, x3_107, best_108, best2_109) =>
                      chk (u3_104 + 1) <|
                      eother_l1 N n_ least_98 can_99 musts_100 met_101 u_102 u2_103 (u3_104 + 1) x_105 x2_106 x3_107 best_108 best2_109)
                    ((eother_l2 N N least can musts (decide (x_19.1 = best) && decide (x_19.2 = best2)) x_20 u u2 u3 (x.length : Int) 0 x x2 x3 best best2 x_19.1 x_19.2).bind fun e => match e with
                    | .inl _ =>
                      some (.inr (.inl ()))
                    | .inr (least_110, can_111, musts_112, met_113, u_114, u2_115, u3_116, x_117, x2_118, x3_119, best_120, best2_121) =>
                      chk (u3_116 + 1) <|
                      eother_l1 N n_ least_110 can_111 musts_112 met_113 u_114 u2_115 (u3_116 + 1) x_117 x2_118 x3_119 best_120 best2_121)))
                (br met
                  ((eother_l2 N N least can musts true x_20 u u2 u3 (x.length : Int) 0 x x2 x3 best best2 x_19.1 x_19.2).bind fun e => match e with
                  | .inl _ =>
                    some (.inr (.inl ()))
                  | .inr (least_122, can_123, musts_124, met_125, u_126, u2_127, u3_128, x_129, x2_130, x3_131, best_132, best2_133) =>
                    chk (u3_128 + 1) <|
                    eother_l1 N n_ least_122 can_123 musts_124 met_125 u_126 u2_127 (u3_128 + 1) x_129 x2_130 x3_131 best_132 best2_133)
                  ((eother_l2 N N least can musts (decide (x_19.1 = best) && decide (x_19.2 = best2)) x_20 u u2 u3 (x.length : Int) 0 x x2 x3 best best2 x_19.1 x_19.2).bind fun e => match e with
                  | .inl _ =>
                    some (.inr (.inl ()))
                  | .inr (least_134, can_135, musts_136, met_137, u_138, u2_139, u3_140, x_141, x2_142, x3_143, best_144, best2_145) =>
                    chk (u3_140 + 1) <|
                    eother_l1 N n_ least_134 can_135 musts_136 met_137 u_138 u2_139 (u3_140 + 1) x_141 x2_142 x3_143 best_144 best2_145)))
              (br met
                ((eother_l2 N N least can musts true x_20 u u2 u3 (x.length : Int) 0 x x2 x3 best best2 x_19.1 x_19.2).bind fun e => match e with
                | .inl _ =>
                  some (.inr (.inl ()))
                | .inr (least_146, can_147, musts_148, met_149, u_150, u2_151, u3_152, x_153, x2_154, x3_155, best_156, best2_157) =>
                  chk (u3_152 + 1) <|
                  eother_l1 N n_ least_146 can_147 musts_148 met_149 u_150 u2_151 (u3_152 + 1) x_153 x2_154 x3_155 best_156 best2_157)
                ((eother_l2 N N least can musts (decide (x_19.1 = best) && decide (x_19.2 = best2)) x_20 u u2 u3 (x.length : Int) 0 x x2 x3 best best2 x_19.1 x_19.2).bind fun e => match e with
                | .inl _ =>
                  some (.inr (.inl ()))
                | .inr (least_158, can_159, musts_160, met_161, u_162, u2_163, u3_164, x_165, x2_166, x3_167, best_168, best2_169) =>
                  chk (u3_164 + 1) <|
                  eother_l1 N n_ least_158 can_159 musts_160 met_161 u_162 u2_163 (u3_164 + 1) x_165 x2_166 x3_167 best_168 best2_169))))))
      (some (.inr (.inr (can, musts, met, x, x2, x3))))
def eother_l4 (N : Nat) : Nat → (List (Int × Int)) → (List Int) → Bool → Int → Bool → Int → Int → (List (Int × Int)) → Int → Int → (List (List Int)) → (List Int) → Int → Option ((List (Int × Int)) × List Int × Bool × Int × Bool × Int × Int × List (List Int) × List Int × Int)
  | 0, _, _, _, _, _, _, _, _, _, _, _, _, _ => none
  | n_ + 1, can, musts, met, t, all, u, u2, u3, u4, u5, x, x2, x3 =>
    br (decide (u5 < u4))
      (idx u3 u5 fun x_176 =>
      br all
        (br (decide (x_176.1 = t))
          (chk (u5 + 1) <|
          eother_l4 N n_ can musts met t true u u2 u3 u4 (u5 + 1) x x2 x3)
          (chk (u5 + 1) <|
          eother_l4 N n_ can musts met t (decide (x_176.2 = t)) u u2 u3 u4 (u5 + 1) x x2 x3))
        (chk (u5 + 1) <|
        eother_l4 N n_ can musts met t false u u2 u3 u4 (u5 + 1) x x2 x3))
      (some ((can, musts, met, t, all, u, u2, x, x2, x3)))
def eother_l5 (N : Nat) : Nat → (List (Int × Int)) → (List Int) → Bool → Int → (List Int) → Int → Int → Int → Int → (List (List Int)) → (List Int) → Int → Option ((Unit) ⊕ ((List (Int × Int)) × List Int × Bool × Int × Int × List (List Int) × List Int × Int))
  | 0, _, _, _, _, _, _, _, _, _, _, _, _ => none
  | n_ + 1, can, musts, met, t, l, u, u2, u3, u4, x, x2, x3 =>
    br (decide (u4 < u3))
      ((containsi_S N l u4).bind fun x_190 =>
      (containsp_S N can (min t u4) (max t u4)).bind fun x_191 =>
      br (!(x_190 == x_191))
        (some (.inl ()))
        (chk (u4 + 1) <|
        eother_l5 N n_ can musts met t l u u2 u3 (u4 + 1) x x2 x3))
      (some (.inr (can, musts, met, u, u2, x, x2, x3)))
def eother_l3 (N : Nat) : Nat → (List (Int × Int)) → (List Int) → Bool → Int → Int → (List (List Int)) → (List Int) → Int → Option ((Unit) ⊕ ((Unit) ⊕ (Bool)))
  | 0, _, _, _, _, _, _, _, _ => none
  | n_ + 1, can, musts, met, u, u2, x, x2, x3 =>
    br (decide (u2 < u))
      ((eother_l4 N N can musts met u2 (decide (0 < (can.length : Int))) u u2 can (can.length : Int) 0 x x2 x3).bind fun (can_177, musts_178, met_179, t_180, all_181, u_182, u2_183, x_184, x2_185, x3_186) =>
      (with__S N x_184 x2_185 x3_186 t_180).bind fun (x_187, y_188) =>
      br (!decide (y_188 = 0))
        (some (.inl ()))
        ((containsi_S N musts_178 t_180).bind fun x_189 =>
        br (!(all_181 == x_189))
          (some (.inl ()))
          ((eother_l5 N N can_177 musts_178 met_179 t_180 x_187 u_182 u2_183 (x_184.length : Int) 0 x_184 x2_185 x3_186).bind fun e => match e with
          | .inl _ =>
            some (.inr (.inl ()))
          | .inr (can_192, musts_193, met_194, u_195, u2_196, x_197, x2_198, x3_199) =>
            chk (u2_196 + 1) <|
            eother_l3 N n_ can_192 musts_193 met_194 u_195 (u2_196 + 1) x_197 x2_198 x3_199)))
      (some (.inr (.inr met)))
def eother_S (N : Nat) (numbers : List Int) : Option Bool :=
  (hang_S N numbers).bind fun (x_1, y_2, y_3) =>
  (made_S N 4 5 8 x_1 y_2 y_3).bind fun (x_4, y_5, y_6, y_7, y_8, y_9) =>
  (closest_S N x_4 y_5 y_6).bind fun (x_10, y_11, y_12, y_13) =>
  (pairs_S N x_4 y_5 y_6).bind fun (x_14, y_15) =>
  (musts_S N x_4 y_5 y_6).bind fun (x_16, y_17) =>
  br (!decide (y_13 = 0))
    (some false)
    (br (!decide (y_15 = 0))
      (some false)
      (br (!((decide (y_17 = 6)) == (decide ((x_14.length : Int) = 0))))
        (some false)
        (br (!decide (y_17 = 0))
          (br (!decide (y_17 = 6))
            (some false)
            ((lpairs_S N x_4 y_5 y_6).bind fun x_18 =>
            (eother_l1 N N y_12 x_14 x_16 false x_18 (x_18.length : Int) 0 x_4 y_5 y_6 x_10 y_11).bind fun e => match e with
            | .inl _ =>
              some false
            | .inr (.inl _) =>
              some false
            | .inr (.inr (can_170, musts_171, met_172, x_173, x2_174, x3_175)) =>
              (eother_l3 N N can_170 musts_171 met_172 (x_173.length : Int) 0 x_173 x2_174 x3_175).bind fun e => match e with
              | .inl _ =>
                some false
              | .inr (.inl _) =>
                some false
              | .inr (.inr met_200) =>
                br met_200
                  ((awake_S N).bind fun x_201 =>
                  some x_201)
                  (some false)))
          ((lpairs_S N x_4 y_5 y_6).bind fun x_202 =>
          (eother_l1 N N y_12 x_14 x_16 false x_202 (x_202.length : Int) 0 x_4 y_5 y_6 x_10 y_11).bind fun e => match e with
          | .inl _ =>
            some false
          | .inr (.inl _) =>
            some false
          | .inr (.inr (can_203, musts_204, met_205, x_206, x2_207, x3_208)) =>
            (eother_l3 N N can_203 musts_204 met_205 (x_206.length : Int) 0 x_206 x2_207 x3_208).bind fun e => match e with
            | .inl _ =>
              some false
            | .inr (.inl _) =>
              some false
            | .inr (.inr met_209) =>
              br met_209
                ((awake_S N).bind fun x_210 =>
                some x_210)
                (some false)))))
def off_S (N : Nat) (n : Int) (lo : Int) (hi : Int) : Option Bool :=
  br (decide (n < lo))
    (some true)
    (some (decide (hi < n)))
noncomputable def off_sp (N : Nat) : List Spec := []
theorem off_all (N : Nat) : AllP (SpecOK Try.prog) (off_sp N) := trivial
noncomputable def off_c : Code := (Try.f96.body).getD .skip
noncomputable abbrev off_B : Body := { c := off_c, n := 15, res := [.tmp 6], outs := [⟨[.b], []⟩], m0 := 0 }
abbrev off_rt : altD off_B.outs → Option Bool := fun r => some r.1.1
abbrev off_st : Sta := ⟨[0, 1, 2], ⟨[.i .i64, .i .i64, .i .i64], []⟩⟩
theorem off_eq (N : Nat) (n : Int) (lo : Int) (hi : Int) : ev (Z := Bool) Try.prog (off_sp N) off_B [] [] (some off_rt) 400 false [.c [0], .c [1]] (stL off_st ((n, lo, hi, ()), ())) (stH off_st ((n, lo, hi, ()), ())) = off_S N n lo hi := by kernel_rfl
noncomputable def sp_off (N : Nat) : Spec := { f := 96, ins := ⟨[.i .i64, .i .i64, .i .i64], []⟩, outs := [⟨[.b], []⟩], run := fun p k => (off_S N p.1.1 p.1.2.1 p.1.2.2.1).bind fun r => k ((r, ()), ()) }
theorem sp_off_ok (N : Nat) : SpecOK Try.prog (sp_off N) := fn_sound (B := off_B) (loops := []) (leaves := []) (fun p => off_S N p.1.1 p.1.2.1 p.1.2.2.1) (fun r => ((r, ()), ())) off_rt (fun _ _ _ => rfl) (fun r z h => by cases h; rfl) Try.func96 (by kernel_rfl) (by kernel_rfl) (by kernel_rfl) rfl rfl (by kernel_rfl) (fun args w => Sem.pv_run _ _ _ (by kernel_rfl) w) (off_all N) mixed trivial (fun z E Xc hE hX hret => trivial) (fun p => off_eq N p.1.1 p.1.2.1 p.1.2.2.1)

def rcheck_l1 (N : Nat) : Nat → Int → (List (List Int)) → (List Int) → Int → Option ((Unit) ⊕ (List (List Int) × List Int × Int))
  | 0, _, _, _, _ => none
  | n_ + 1, t, e, e2, e3 =>
    br (decide (t < (e.length : Int)))
      (idx e t fun x_2 =>
      (off_S N (x_2.length : Int) 1 6).bind fun x_3 =>
      br x_3
        (some (.inl ()))
        (chk (t + 1) <|
        rcheck_l1 N n_ (t + 1) e e2 e3))
      (some (.inr (e, e2, e3)))
def rcheck_l3 (N : Nat) : Nat → Int → Int → (List (List Int)) → (List Int) → Int → Option ((Unit) ⊕ (Int × List (List Int) × List Int × Int))
  | 0, _, _, _, _, _ => none
  | n_ + 1, t, k, e, e2, e3 =>
    idx e t fun x_7 =>
    br (decide (k < (x_7.length : Int)))
      (idx e t fun x_8 =>
      idx x_8 k fun x_9 =>
      (off_S N x_9 0 9).bind fun x_10 =>
      br x_10
        (some (.inl ()))
        (chk (k + 1) <|
        rcheck_l3 N n_ t (k + 1) e e2 e3))
      (some (.inr (t, e, e2, e3)))
def rcheck_l2 (N : Nat) : Nat → Int → (List (List Int)) → (List Int) → Int → Option ((Unit) ⊕ (List (List Int) × List Int × Int))
  | 0, _, _, _, _ => none
  | n_ + 1, t, e, e2, e3 =>
    br (decide (t < (e.length : Int)))
      ((rcheck_l3 N N t 0 e e2 e3).bind fun e => match e with
      | .inl _ =>
        some (.inl ())
      | .inr (t_11, e_12, e2_13, e3_14) =>
        chk (t_11 + 1) <|
        rcheck_l2 N n_ (t_11 + 1) e_12 e2_13 e3_14)
      (some (.inr (e, e2, e3)))
def rcheck_l4 (N : Nat) : Nat → Int → (List (List Int)) → (List Int) → Int → Option ((Unit) ⊕ (List (List Int) × List Int × Int))
  | 0, _, _, _, _ => none
  | n_ + 1, i, e, e2, e3 =>
    br (decide (i < (e2.length : Int)))
      (idx e2 i fun x_18 =>
      (off_S N x_18 0 9).bind fun x_19 =>
      br x_19
        (some (.inl ()))
        (chk (i + 1) <|
        rcheck_l4 N n_ (i + 1) e e2 e3))
      (some (.inr (e, e2, e3)))
def rcheck_S (N : Nat) (e : List (List Int)) (e2 : List Int) (e3 : Int) : Option Int :=
  (off_S N (e.length : Int) 1 5).bind fun x_1 =>
  br x_1
    (some 2)
    (br (decide (10 < (e2.length : Int)))
      (some 2)
      ((rcheck_l1 N N 0 e e2 e3).bind fun e => match e with
      | .inl _ =>
        some 2
      | .inr (e_4, e2_5, e3_6) =>
        (rcheck_l2 N N 0 e_4 e2_5 e3_6).bind fun e => match e with
        | .inl _ =>
          some 3
        | .inr (e_15, e2_16, e3_17) =>
          (rcheck_l4 N N 0 e_15 e2_16 e3_17).bind fun e => match e with
          | .inl _ =>
            some 3
          | .inr (e_20, e2_21, e3_22) =>
            (off_S N e3_22 0 8).bind fun x_23 =>
            br x_23
              (some 3)
              (some 0)))
noncomputable def rcheck_sp (N : Nat) : List Spec := [sp_off N]
theorem rcheck_all (N : Nat) : AllP (SpecOK Try.prog) (rcheck_sp N) := ⟨sp_off_ok N, trivial⟩
noncomputable def rcheck_c : Code := (Try.f41.body).getD .skip
noncomputable abbrev rcheck_B : Body := { c := rcheck_c, n := 73, res := [.tmp 2], outs := [⟨[.i .i64], []⟩], m0 := 0 }
abbrev rcheck_rt : altD rcheck_B.outs → Option Int := fun r => some r.1.1
abbrev rcheck_l1_at : List PI := [.c [1, 1, 0, 1, 0, 0, 0, 0], .c [1, 1, 0, 1, 0, 0, 0, 1], .c [1, 1, 0, 1, 0, 0, 1], .l [1, 1, 0, 1, 0, 0], .b 0, .c [1, 1, 1]]
abbrev rcheck_l1_st : Sta := ⟨[1, 3], ⟨[.own 0 0, .i .i64], [.segs [.sl (.sl (.int .i64)), .sl (.int .i64), .i .i64]]⟩⟩
abbrev rcheck_l1_h (rec : Int → (List (List Int)) → (List Int) → Int → Option ((Unit) ⊕ (List (List Int) × List Int × Int))) : Leaf ((Unit) ⊕ (List (List Int) × List Int × Int)) := ⟨rcheck_l1_at, rcheck_l1_st, fun p => rec p.1.2.1 p.2.1.1 p.2.1.2.1 p.2.1.2.2.1⟩
abbrev rcheck_l1_e0 : Leaf ((Unit) ⊕ (List (List Int) × List Int × Int)) := ⟨[.c [1, 1, 0, 1, 0, 0, 1, 0, 0, 1, 0, 0], .c [1, 1, 0, 1, 0, 0, 1, 0, 0, 1, 0, 1], .b 1, .c [1, 1, 0, 1, 0, 0, 1, 1], .l [1, 1, 0, 1, 0, 0], .b 0, .c [1, 1, 1]], ⟨[], ⟨[], []⟩⟩, fun p => some (.inl ())⟩
abbrev rcheck_l1_e1 : Leaf ((Unit) ⊕ (List (List Int) × List Int × Int)) := ⟨[.c [1, 1, 1, 0, 0], .c [1, 1, 1, 0, 1], .c [1, 1, 1, 1]], ⟨[1], ⟨[.own 0 0], [.segs [.sl (.sl (.int .i64)), .sl (.int .i64), .i .i64]]⟩⟩, fun p => some (.inr (p.2.1.1, p.2.1.2.1, p.2.1.2.2.1))⟩
noncomputable def rcheck_l1_L (N : Nat) : LoopS := { at_ := rcheck_l1_at, sta := rcheck_l1_st, exits := [([.c [1, 1, 0, 1, 0, 0, 1, 0, 0, 1, 0, 0], .c [1, 1, 0, 1, 0, 0, 1, 0, 0, 1, 0, 1], .b 1, .c [1, 1, 0, 1, 0, 0, 1, 1], .l [1, 1, 0, 1, 0, 0], .b 0, .c [1, 1, 1]], ⟨[], ⟨[], []⟩⟩), ([.c [1, 1, 1, 0, 0], .c [1, 1, 1, 0, 1], .c [1, 1, 1, 1]], ⟨[1], ⟨[.own 0 0], [.segs [.sl (.sl (.int .i64)), .sl (.int .i64), .i .i64]]⟩⟩)], run := fun p k => (rcheck_l1 N N p.1.2.1 p.2.1.1 p.2.1.2.1 p.2.1.2.2.1).bind fun e => match e with | .inl x => k (.inl ((), ())) | .inr x => k (.inr (.inl (((), ()), ((x.1, x.2.1, x.2.2, ()), ())))) }
theorem rcheck_l1_eq (N n_ : Nat) (t : Int) (e : List (List Int)) (e2 : List Int) (e3 : Int) : ev (Z := (Unit) ⊕ (List (List Int) × List Int × Int)) Try.prog (rcheck_sp N) rcheck_B [] [rcheck_l1_h (rcheck_l1 N n_), rcheck_l1_e0, rcheck_l1_e1] none 400 true rcheck_l1_at (stL rcheck_l1_st (((), t, ()), ((e, e2, e3, ()), ()))) (stH rcheck_l1_st (((), t, ()), ((e, e2, e3, ()), ()))) = rcheck_l1 N (n_ + 1) t e e2 e3 := by kernel_rfl
theorem rcheck_l1_ok (N : Nat) {top : Bool} : LoopOK Try.prog rcheck_B.c rcheck_B.n rcheck_B.m0 top (rcheck_l1_L N) := loop_of_ev (Z := (Unit) ⊕ (List (List Int) × List Int × Int)) (N := N) (fun m p => rcheck_l1 N m p.1.2.1 p.2.1.1 p.2.1.2.1 p.2.1.2.2.1) (fun e => match e with | .inl x => .inl ((), ()) | .inr x => .inr (.inl (((), ()), ((x.1, x.2.1, x.2.2, ()), ())))) (fun _ p k => bind_congr_ (rcheck_l1 N N p.1.2.1 p.2.1.1 p.2.1.2.1 p.2.1.2.2.1) _ _ (fun e => by rcases e with x | x <;> rfl)) (fun _ => rfl) (fun m z E Xc hE hX hrec hx => leaf_of_ev (B := rcheck_B) (loops := []) (leaves := [rcheck_l1_h (rcheck_l1 N m), rcheck_l1_e0, rcheck_l1_e1]) (rcheck_all N) mixed trivial hE hX ⟨hrec, (fun p hp => by obtain rfl := Option.some.inj hp; exact hx), (fun p hp => by obtain rfl := Option.some.inj hp; exact hx), trivial⟩ RetOK.no (fun p => rcheck_l1_eq N m p.1.2.1 p.2.1.1 p.2.1.2.1 p.2.1.2.2.1))
abbrev rcheck_l3_at : List PI := [.c [1, 1, 1, 0, 1, 0, 0, 1, 0, 0, 1, 0, 0, 0, 0], .c [1, 1, 1, 0, 1, 0, 0, 1, 0, 0, 1, 0, 0, 0, 1], .c [1, 1, 1, 0, 1, 0, 0, 1, 0, 0, 1, 0, 0, 1], .l [1, 1, 1, 0, 1, 0, 0, 1, 0, 0, 1, 0, 0], .b 4, .b 3, .c [1, 1, 1, 0, 1, 0, 0, 1, 1], .l [1, 1, 1, 0, 1, 0, 0], .b 2, .c [1, 1, 1, 1]]
abbrev rcheck_l3_st : Sta := ⟨[1, 4, 5], ⟨[.own 0 0, .i .i64, .i .i64], [.segs [.sl (.sl (.int .i64)), .sl (.int .i64), .i .i64]]⟩⟩
abbrev rcheck_l3_h (rec : Int → Int → (List (List Int)) → (List Int) → Int → Option ((Unit) ⊕ (Int × List (List Int) × List Int × Int))) : Leaf ((Unit) ⊕ (Int × List (List Int) × List Int × Int)) := ⟨rcheck_l3_at, rcheck_l3_st, fun p => rec p.1.2.1 p.1.2.2.1 p.2.1.1 p.2.1.2.1 p.2.1.2.2.1⟩
abbrev rcheck_l3_e0 : Leaf ((Unit) ⊕ (Int × List (List Int) × List Int × Int)) := ⟨[.c [1, 1, 1, 0, 1, 0, 0, 1, 0, 0, 1, 0, 0, 1, 0, 0, 1, 0, 0], .c [1, 1, 1, 0, 1, 0, 0, 1, 0, 0, 1, 0, 0, 1, 0, 0, 1, 0, 1], .b 5, .c [1, 1, 1, 0, 1, 0, 0, 1, 0, 0, 1, 0, 0, 1, 1], .l [1, 1, 1, 0, 1, 0, 0, 1, 0, 0, 1, 0, 0], .b 4, .b 3, .c [1, 1, 1, 0, 1, 0, 0, 1, 1], .l [1, 1, 1, 0, 1, 0, 0], .b 2, .c [1, 1, 1, 1]], ⟨[], ⟨[], []⟩⟩, fun p => some (.inl ())⟩
abbrev rcheck_l3_e1 : Leaf ((Unit) ⊕ (Int × List (List Int) × List Int × Int)) := ⟨[.c [1, 1, 1, 0, 1, 0, 0, 1, 1], .l [1, 1, 1, 0, 1, 0, 0], .b 2, .c [1, 1, 1, 1]], ⟨[1, 4], ⟨[.own 0 0, .i .i64], [.segs [.sl (.sl (.int .i64)), .sl (.int .i64), .i .i64]]⟩⟩, fun p => some (.inr (p.1.2.1, p.2.1.1, p.2.1.2.1, p.2.1.2.2.1))⟩
noncomputable def rcheck_l3_L (N : Nat) : LoopS := { at_ := rcheck_l3_at, sta := rcheck_l3_st, exits := [([.c [1, 1, 1, 0, 1, 0, 0, 1, 0, 0, 1, 0, 0, 1, 0, 0, 1, 0, 0], .c [1, 1, 1, 0, 1, 0, 0, 1, 0, 0, 1, 0, 0, 1, 0, 0, 1, 0, 1], .b 5, .c [1, 1, 1, 0, 1, 0, 0, 1, 0, 0, 1, 0, 0, 1, 1], .l [1, 1, 1, 0, 1, 0, 0, 1, 0, 0, 1, 0, 0], .b 4, .b 3, .c [1, 1, 1, 0, 1, 0, 0, 1, 1], .l [1, 1, 1, 0, 1, 0, 0], .b 2, .c [1, 1, 1, 1]], ⟨[], ⟨[], []⟩⟩), ([.c [1, 1, 1, 0, 1, 0, 0, 1, 1], .l [1, 1, 1, 0, 1, 0, 0], .b 2, .c [1, 1, 1, 1]], ⟨[1, 4], ⟨[.own 0 0, .i .i64], [.segs [.sl (.sl (.int .i64)), .sl (.int .i64), .i .i64]]⟩⟩)], run := fun p k => (rcheck_l3 N N p.1.2.1 p.1.2.2.1 p.2.1.1 p.2.1.2.1 p.2.1.2.2.1).bind fun e => match e with | .inl x => k (.inl ((), ())) | .inr x => k (.inr (.inl (((), x.1, ()), ((x.2.1, x.2.2.1, x.2.2.2, ()), ())))) }
theorem rcheck_l3_eq (N n_ : Nat) (t : Int) (k : Int) (e : List (List Int)) (e2 : List Int) (e3 : Int) : ev (Z := (Unit) ⊕ (Int × List (List Int) × List Int × Int)) Try.prog (rcheck_sp N) rcheck_B [rcheck_l1_L N] [rcheck_l3_h (rcheck_l3 N n_), rcheck_l3_e0, rcheck_l3_e1] none 400 true rcheck_l3_at (stL rcheck_l3_st (((), t, k, ()), ((e, e2, e3, ()), ()))) (stH rcheck_l3_st (((), t, k, ()), ((e, e2, e3, ()), ()))) = rcheck_l3 N (n_ + 1) t k e e2 e3 := by kernel_rfl
theorem rcheck_l3_ok (N : Nat) {top : Bool} : LoopOK Try.prog rcheck_B.c rcheck_B.n rcheck_B.m0 top (rcheck_l3_L N) := loop_of_ev (Z := (Unit) ⊕ (Int × List (List Int) × List Int × Int)) (N := N) (fun m p => rcheck_l3 N m p.1.2.1 p.1.2.2.1 p.2.1.1 p.2.1.2.1 p.2.1.2.2.1) (fun e => match e with | .inl x => .inl ((), ()) | .inr x => .inr (.inl (((), x.1, ()), ((x.2.1, x.2.2.1, x.2.2.2, ()), ())))) (fun _ p k => bind_congr_ (rcheck_l3 N N p.1.2.1 p.1.2.2.1 p.2.1.1 p.2.1.2.1 p.2.1.2.2.1) _ _ (fun e => by rcases e with x | x <;> rfl)) (fun _ => rfl) (fun m z E Xc hE hX hrec hx => leaf_of_ev (B := rcheck_B) (loops := [rcheck_l1_L N]) (leaves := [rcheck_l3_h (rcheck_l3 N m), rcheck_l3_e0, rcheck_l3_e1]) (rcheck_all N) mixed ⟨rcheck_l1_ok N, trivial⟩ hE hX ⟨hrec, (fun p hp => by obtain rfl := Option.some.inj hp; exact hx), (fun p hp => by obtain rfl := Option.some.inj hp; exact hx), trivial⟩ RetOK.no (fun p => rcheck_l3_eq N m p.1.2.1 p.1.2.2.1 p.2.1.1 p.2.1.2.1 p.2.1.2.2.1))
abbrev rcheck_l2_at : List PI := [.c [1, 1, 1, 0, 1, 0, 0, 0, 0], .c [1, 1, 1, 0, 1, 0, 0, 0, 1], .c [1, 1, 1, 0, 1, 0, 0, 1], .l [1, 1, 1, 0, 1, 0, 0], .b 2, .c [1, 1, 1, 1]]
abbrev rcheck_l2_st : Sta := ⟨[1, 4], ⟨[.own 0 0, .i .i64], [.segs [.sl (.sl (.int .i64)), .sl (.int .i64), .i .i64]]⟩⟩
abbrev rcheck_l2_h (rec : Int → (List (List Int)) → (List Int) → Int → Option ((Unit) ⊕ (List (List Int) × List Int × Int))) : Leaf ((Unit) ⊕ (List (List Int) × List Int × Int)) := ⟨rcheck_l2_at, rcheck_l2_st, fun p => rec p.1.2.1 p.2.1.1 p.2.1.2.1 p.2.1.2.2.1⟩
abbrev rcheck_l2_e0 : Leaf ((Unit) ⊕ (List (List Int) × List Int × Int)) := ⟨[.c [1, 1, 1, 0, 1, 0, 0, 1, 0, 0, 1, 0, 0, 1, 0, 0, 1, 0, 0], .c [1, 1, 1, 0, 1, 0, 0, 1, 0, 0, 1, 0, 0, 1, 0, 0, 1, 0, 1], .b 5, .c [1, 1, 1, 0, 1, 0, 0, 1, 0, 0, 1, 0, 0, 1, 1], .l [1, 1, 1, 0, 1, 0, 0, 1, 0, 0, 1, 0, 0], .b 4, .b 3, .c [1, 1, 1, 0, 1, 0, 0, 1, 1], .l [1, 1, 1, 0, 1, 0, 0], .b 2, .c [1, 1, 1, 1]], ⟨[], ⟨[], []⟩⟩, fun p => some (.inl ())⟩
abbrev rcheck_l2_e1 : Leaf ((Unit) ⊕ (List (List Int) × List Int × Int)) := ⟨[.c [1, 1, 1, 1, 0, 0], .c [1, 1, 1, 1, 0, 1], .c [1, 1, 1, 1, 1]], ⟨[1], ⟨[.own 0 0], [.segs [.sl (.sl (.int .i64)), .sl (.int .i64), .i .i64]]⟩⟩, fun p => some (.inr (p.2.1.1, p.2.1.2.1, p.2.1.2.2.1))⟩
noncomputable def rcheck_l2_L (N : Nat) : LoopS := { at_ := rcheck_l2_at, sta := rcheck_l2_st, exits := [([.c [1, 1, 1, 0, 1, 0, 0, 1, 0, 0, 1, 0, 0, 1, 0, 0, 1, 0, 0], .c [1, 1, 1, 0, 1, 0, 0, 1, 0, 0, 1, 0, 0, 1, 0, 0, 1, 0, 1], .b 5, .c [1, 1, 1, 0, 1, 0, 0, 1, 0, 0, 1, 0, 0, 1, 1], .l [1, 1, 1, 0, 1, 0, 0, 1, 0, 0, 1, 0, 0], .b 4, .b 3, .c [1, 1, 1, 0, 1, 0, 0, 1, 1], .l [1, 1, 1, 0, 1, 0, 0], .b 2, .c [1, 1, 1, 1]], ⟨[], ⟨[], []⟩⟩), ([.c [1, 1, 1, 1, 0, 0], .c [1, 1, 1, 1, 0, 1], .c [1, 1, 1, 1, 1]], ⟨[1], ⟨[.own 0 0], [.segs [.sl (.sl (.int .i64)), .sl (.int .i64), .i .i64]]⟩⟩)], run := fun p k => (rcheck_l2 N N p.1.2.1 p.2.1.1 p.2.1.2.1 p.2.1.2.2.1).bind fun e => match e with | .inl x => k (.inl ((), ())) | .inr x => k (.inr (.inl (((), ()), ((x.1, x.2.1, x.2.2, ()), ())))) }
theorem rcheck_l2_eq (N n_ : Nat) (t : Int) (e : List (List Int)) (e2 : List Int) (e3 : Int) : ev (Z := (Unit) ⊕ (List (List Int) × List Int × Int)) Try.prog (rcheck_sp N) rcheck_B [rcheck_l1_L N, rcheck_l3_L N] [rcheck_l2_h (rcheck_l2 N n_), rcheck_l2_e0, rcheck_l2_e1] none 400 true rcheck_l2_at (stL rcheck_l2_st (((), t, ()), ((e, e2, e3, ()), ()))) (stH rcheck_l2_st (((), t, ()), ((e, e2, e3, ()), ()))) = rcheck_l2 N (n_ + 1) t e e2 e3 := by kernel_rfl
theorem rcheck_l2_ok (N : Nat) {top : Bool} : LoopOK Try.prog rcheck_B.c rcheck_B.n rcheck_B.m0 top (rcheck_l2_L N) := loop_of_ev (Z := (Unit) ⊕ (List (List Int) × List Int × Int)) (N := N) (fun m p => rcheck_l2 N m p.1.2.1 p.2.1.1 p.2.1.2.1 p.2.1.2.2.1) (fun e => match e with | .inl x => .inl ((), ()) | .inr x => .inr (.inl (((), ()), ((x.1, x.2.1, x.2.2, ()), ())))) (fun _ p k => bind_congr_ (rcheck_l2 N N p.1.2.1 p.2.1.1 p.2.1.2.1 p.2.1.2.2.1) _ _ (fun e => by rcases e with x | x <;> rfl)) (fun _ => rfl) (fun m z E Xc hE hX hrec hx => leaf_of_ev (B := rcheck_B) (loops := [rcheck_l1_L N, rcheck_l3_L N]) (leaves := [rcheck_l2_h (rcheck_l2 N m), rcheck_l2_e0, rcheck_l2_e1]) (rcheck_all N) mixed ⟨rcheck_l1_ok N, rcheck_l3_ok N, trivial⟩ hE hX ⟨hrec, (fun p hp => by obtain rfl := Option.some.inj hp; exact hx), (fun p hp => by obtain rfl := Option.some.inj hp; exact hx), trivial⟩ RetOK.no (fun p => rcheck_l2_eq N m p.1.2.1 p.2.1.1 p.2.1.2.1 p.2.1.2.2.1))
abbrev rcheck_l4_at : List PI := [.c [1, 1, 1, 1, 0, 1, 0, 0, 0, 0], .c [1, 1, 1, 1, 0, 1, 0, 0, 0, 1], .c [1, 1, 1, 1, 0, 1, 0, 0, 1], .l [1, 1, 1, 1, 0, 1, 0, 0], .b 6, .c [1, 1, 1, 1, 1]]
abbrev rcheck_l4_st : Sta := ⟨[1, 6], ⟨[.own 0 0, .i .i64], [.segs [.sl (.sl (.int .i64)), .sl (.int .i64), .i .i64]]⟩⟩
abbrev rcheck_l4_h (rec : Int → (List (List Int)) → (List Int) → Int → Option ((Unit) ⊕ (List (List Int) × List Int × Int))) : Leaf ((Unit) ⊕ (List (List Int) × List Int × Int)) := ⟨rcheck_l4_at, rcheck_l4_st, fun p => rec p.1.2.1 p.2.1.1 p.2.1.2.1 p.2.1.2.2.1⟩
abbrev rcheck_l4_e0 : Leaf ((Unit) ⊕ (List (List Int) × List Int × Int)) := ⟨[.c [1, 1, 1, 1, 0, 1, 0, 0, 1, 0, 0, 1, 0, 0], .c [1, 1, 1, 1, 0, 1, 0, 0, 1, 0, 0, 1, 0, 1], .b 7, .c [1, 1, 1, 1, 0, 1, 0, 0, 1, 1], .l [1, 1, 1, 1, 0, 1, 0, 0], .b 6, .c [1, 1, 1, 1, 1]], ⟨[], ⟨[], []⟩⟩, fun p => some (.inl ())⟩
abbrev rcheck_l4_e1 : Leaf ((Unit) ⊕ (List (List Int) × List Int × Int)) := ⟨[.c [1, 1, 1, 1, 1, 0, 0], .c [1, 1, 1, 1, 1, 0, 1], .c [1, 1, 1, 1, 1, 1]], ⟨[1], ⟨[.own 0 0], [.segs [.sl (.sl (.int .i64)), .sl (.int .i64), .i .i64]]⟩⟩, fun p => some (.inr (p.2.1.1, p.2.1.2.1, p.2.1.2.2.1))⟩
noncomputable def rcheck_l4_L (N : Nat) : LoopS := { at_ := rcheck_l4_at, sta := rcheck_l4_st, exits := [([.c [1, 1, 1, 1, 0, 1, 0, 0, 1, 0, 0, 1, 0, 0], .c [1, 1, 1, 1, 0, 1, 0, 0, 1, 0, 0, 1, 0, 1], .b 7, .c [1, 1, 1, 1, 0, 1, 0, 0, 1, 1], .l [1, 1, 1, 1, 0, 1, 0, 0], .b 6, .c [1, 1, 1, 1, 1]], ⟨[], ⟨[], []⟩⟩), ([.c [1, 1, 1, 1, 1, 0, 0], .c [1, 1, 1, 1, 1, 0, 1], .c [1, 1, 1, 1, 1, 1]], ⟨[1], ⟨[.own 0 0], [.segs [.sl (.sl (.int .i64)), .sl (.int .i64), .i .i64]]⟩⟩)], run := fun p k => (rcheck_l4 N N p.1.2.1 p.2.1.1 p.2.1.2.1 p.2.1.2.2.1).bind fun e => match e with | .inl x => k (.inl ((), ())) | .inr x => k (.inr (.inl (((), ()), ((x.1, x.2.1, x.2.2, ()), ())))) }
theorem rcheck_l4_eq (N n_ : Nat) (i : Int) (e : List (List Int)) (e2 : List Int) (e3 : Int) : ev (Z := (Unit) ⊕ (List (List Int) × List Int × Int)) Try.prog (rcheck_sp N) rcheck_B [rcheck_l1_L N, rcheck_l3_L N, rcheck_l2_L N] [rcheck_l4_h (rcheck_l4 N n_), rcheck_l4_e0, rcheck_l4_e1] none 400 true rcheck_l4_at (stL rcheck_l4_st (((), i, ()), ((e, e2, e3, ()), ()))) (stH rcheck_l4_st (((), i, ()), ((e, e2, e3, ()), ()))) = rcheck_l4 N (n_ + 1) i e e2 e3 := by kernel_rfl
theorem rcheck_l4_ok (N : Nat) {top : Bool} : LoopOK Try.prog rcheck_B.c rcheck_B.n rcheck_B.m0 top (rcheck_l4_L N) := loop_of_ev (Z := (Unit) ⊕ (List (List Int) × List Int × Int)) (N := N) (fun m p => rcheck_l4 N m p.1.2.1 p.2.1.1 p.2.1.2.1 p.2.1.2.2.1) (fun e => match e with | .inl x => .inl ((), ()) | .inr x => .inr (.inl (((), ()), ((x.1, x.2.1, x.2.2, ()), ())))) (fun _ p k => bind_congr_ (rcheck_l4 N N p.1.2.1 p.2.1.1 p.2.1.2.1 p.2.1.2.2.1) _ _ (fun e => by rcases e with x | x <;> rfl)) (fun _ => rfl) (fun m z E Xc hE hX hrec hx => leaf_of_ev (B := rcheck_B) (loops := [rcheck_l1_L N, rcheck_l3_L N, rcheck_l2_L N]) (leaves := [rcheck_l4_h (rcheck_l4 N m), rcheck_l4_e0, rcheck_l4_e1]) (rcheck_all N) mixed ⟨rcheck_l1_ok N, rcheck_l3_ok N, rcheck_l2_ok N, trivial⟩ hE hX ⟨hrec, (fun p hp => by obtain rfl := Option.some.inj hp; exact hx), (fun p hp => by obtain rfl := Option.some.inj hp; exact hx), trivial⟩ RetOK.no (fun p => rcheck_l4_eq N m p.1.2.1 p.2.1.1 p.2.1.2.1 p.2.1.2.2.1))
abbrev rcheck_st : Sta := ⟨[0], ⟨[.agg [.sl (.sl (.int .i64)), .sl (.int .i64), .i .i64]], []⟩⟩
theorem rcheck_eq (N : Nat) (e : List (List Int)) (e2 : List Int) (e3 : Int) : ev (Z := Int) Try.prog (rcheck_sp N) rcheck_B [rcheck_l1_L N, rcheck_l3_L N, rcheck_l2_L N, rcheck_l4_L N] [] (some rcheck_rt) 400 false [.c [0], .c [1]] (stL rcheck_st (((e, e2, e3, ()), ()), ())) (stH rcheck_st (((e, e2, e3, ()), ()), ())) = rcheck_S N e e2 e3 := by kernel_rfl
noncomputable def sp_rcheck (N : Nat) : Spec := { f := 41, ins := ⟨[.agg [.sl (.sl (.int .i64)), .sl (.int .i64), .i .i64]], []⟩, outs := [⟨[.i .i64], []⟩], run := fun p k => (rcheck_S N p.1.1.1 p.1.1.2.1 p.1.1.2.2.1).bind fun r => k ((r, ()), ()) }
theorem sp_rcheck_ok (N : Nat) : SpecOK Try.prog (sp_rcheck N) := fn_sound (B := rcheck_B) (loops := [rcheck_l1_L N, rcheck_l3_L N, rcheck_l2_L N, rcheck_l4_L N]) (leaves := []) (fun p => rcheck_S N p.1.1.1 p.1.1.2.1 p.1.1.2.2.1) (fun r => ((r, ()), ())) rcheck_rt (fun _ _ _ => rfl) (fun r z h => by cases h; rfl) Try.func41 (by kernel_rfl) (by kernel_rfl) (by kernel_rfl) rfl rfl (by kernel_rfl) (fun args w => Sem.pv_run _ _ _ (by kernel_rfl) w) (rcheck_all N) mixed ⟨rcheck_l1_ok N, rcheck_l3_ok N, rcheck_l2_ok N, rcheck_l4_ok N, trivial⟩ (fun z E Xc hE hX hret => trivial) (fun p => rcheck_eq N p.1.1.1 p.1.1.2.1 p.1.1.2.2.1)

def rtwo_S (N : Nat) (e : List (List Int)) (e2 : List Int) (e3 : Int) (p : Int) (p2 : Int) : Option Int :=
  (rcheck_S N e e2 e3).bind fun x_1 =>
  br (!decide (x_1 = 0))
    (some x_1)
    (chk ((e.length : Int) - 1) <|
    (off_S N p 0 ((e.length : Int) - 1)).bind fun x_2 =>
    br x_2
      (some 1)
      (chk ((e.length : Int) - 1) <|
      (off_S N p2 0 ((e.length : Int) - 1)).bind fun x_3 =>
      br x_3
        (some 1)
        (some 0)))
noncomputable def rtwo_sp (N : Nat) : List Spec := [sp_off N, sp_rcheck N]
theorem rtwo_all (N : Nat) : AllP (SpecOK Try.prog) (rtwo_sp N) := ⟨sp_off_ok N, sp_rcheck_ok N, trivial⟩
noncomputable def rtwo_c : Code := (Try.f42.body).getD .skip
noncomputable abbrev rtwo_B : Body := { c := rtwo_c, n := 27, res := [.tmp 4], outs := [⟨[.i .i64], []⟩], m0 := 0 }
abbrev rtwo_rt : altD rtwo_B.outs → Option Int := fun r => some r.1.1
abbrev rtwo_st : Sta := ⟨[0, 1], ⟨[.agg [.sl (.sl (.int .i64)), .sl (.int .i64), .i .i64], .agg [.i .i64, .i .i64]], []⟩⟩
theorem rtwo_eq (N : Nat) (e : List (List Int)) (e2 : List Int) (e3 : Int) (p : Int) (p2 : Int) : ev (Z := Int) Try.prog (rtwo_sp N) rtwo_B [] [] (some rtwo_rt) 400 false [.c [0], .c [1]] (stL rtwo_st (((e, e2, e3, ()), (p, p2, ()), ()), ())) (stH rtwo_st (((e, e2, e3, ()), (p, p2, ()), ()), ())) = rtwo_S N e e2 e3 p p2 := by kernel_rfl
noncomputable def sp_rtwo (N : Nat) : Spec := { f := 42, ins := ⟨[.agg [.sl (.sl (.int .i64)), .sl (.int .i64), .i .i64], .agg [.i .i64, .i .i64]], []⟩, outs := [⟨[.i .i64], []⟩], run := fun p k => (rtwo_S N p.1.1.1 p.1.1.2.1 p.1.1.2.2.1 p.1.2.1.1 p.1.2.1.2.1).bind fun r => k ((r, ()), ()) }
theorem sp_rtwo_ok (N : Nat) : SpecOK Try.prog (sp_rtwo N) := fn_sound (B := rtwo_B) (loops := []) (leaves := []) (fun p => rtwo_S N p.1.1.1 p.1.1.2.1 p.1.1.2.2.1 p.1.2.1.1 p.1.2.1.2.1) (fun r => ((r, ()), ())) rtwo_rt (fun _ _ _ => rfl) (fun r z h => by cases h; rfl) Try.func42 (by kernel_rfl) (by kernel_rfl) (by kernel_rfl) rfl rfl (by kernel_rfl) (fun args w => Sem.pv_run _ _ _ (by kernel_rfl) w) (rtwo_all N) mixed trivial (fun z E Xc hE hX hret => trivial) (fun p => rtwo_eq N p.1.1.1 p.1.1.2.1 p.1.1.2.2.1 p.1.2.1.1 p.1.2.1.2.1)

def fits_j1 (N : Nat) (rec : (List (Int × Int)) → Int → Int → Int → (List (List Int)) → (List Int) → Int → Int → Int → Option ((Unit) ⊕ ((Unit) ⊕ ((Unit) ⊕ (Unit))))) (l : List (Int × Int)) (a : Int) (b : Int) (i : Int) (e : List (List Int)) (e2 : List Int) (e3 : Int) (p : Int) (p2 : Int) : Option ((Unit) ⊕ ((Unit) ⊕ ((Unit) ⊕ (Unit)))) :=
  chk (i + 1) <|
  rec l a b (i + 1) e e2 e3 p p2
def fits_l1 (N : Nat) : Nat → (List (Int × Int)) → Int → Int → Int → (List (List Int)) → (List Int) → Int → Int → Int → Option ((Unit) ⊕ ((Unit) ⊕ ((Unit) ⊕ (Unit))))
  | 0, _, _, _, _, _, _, _, _, _ => none
  | n_ + 1, l, a, b, i, e, e2, e3, p, p2 =>
    br (decide (i < (l.length : Int)))
      (idx l i fun x_1 =>
      br (decide (x_1.1 = 1))
        (idx l i fun x_2 =>
        br (decide (x_2.2 ≤ a))
          (some (.inl ()))
          (idx l i fun x_3 =>
          idx e p fun x_4 =>
          br (decide ((x_4.length : Int) ≤ x_3.2))
            (some (.inl ()))
            (idx e p fun x_5 =>
            idx l i fun x_6 =>
            idx x_5 x_6.2 fun x_7 =>
            idx e2 i fun x_8 =>
            br (!decide (x_7 = x_8))
              (some (.inl ()))
              (idx l i fun x_9 =>
              fits_j1 N (fits_l1 N n_) l x_9.2 b i e e2 e3 p p2))))
        (idx l i fun x_10 =>
        br (decide (x_10.1 = 2))
          (idx l i fun x_11 =>
          br (decide (x_11.2 ≤ b))
            (some (.inr (.inl ())))
            (idx l i fun x_12 =>
            idx e p2 fun x_13 =>
            br (decide ((x_13.length : Int) ≤ x_12.2))
              (some (.inr (.inl ())))
              (idx e p2 fun x_14 =>
              idx l i fun x_15 =>
              idx x_14 x_15.2 fun x_16 =>
              idx e2 i fun x_17 =>
              br (!decide (x_16 = x_17))
                (some (.inr (.inl ())))
                (idx l i fun x_18 =>
                fits_j1 N (fits_l1 N n_) l a x_18.2 i e e2 e3 p p2))))
          (idx l i fun x_19 =>
          br (!decide (x_19.1 = 3))
            (some (.inr (.inr (.inl ()))))
            (idx l i fun x_20 =>
            br (!decide (x_20.2 = 0))
              (some (.inr (.inr (.inl ()))))
              (fits_j1 N (fits_l1 N n_) l a b i e e2 e3 p p2)))))
      (some (.inr (.inr (.inr ()))))
def fits_S (N : Nat) (e : List (List Int)) (e2 : List Int) (e3 : Int) (p : Int) (p2 : Int) (l : List (Int × Int)) : Option Bool :=
  (fits_l1 N N l (-1) (-1) 0 e e2 e3 p p2).bind fun e => match e with
  | .inl _ =>
    some false
  | .inr (.inl _) =>
    some false
  | .inr (.inr (.inl _)) =>
    some false
  | .inr (.inr (.inr _)) =>
    some true
noncomputable def fits_sp (N : Nat) : List Spec := []
theorem fits_all (N : Nat) : AllP (SpecOK Try.prog) (fits_sp N) := trivial
noncomputable def fits_c : Code := (Try.f99.body).getD .skip
noncomputable abbrev fits_B : Body := { c := fits_c, n := 138, res := [.tmp 6], outs := [⟨[.b], []⟩], m0 := 0 }
abbrev fits_rt : altD fits_B.outs → Option Bool := fun r => some r.1.1
abbrev fits_l1_at : List PI := [.c [1, 1, 0, 1, 0, 0, 0, 0], .c [1, 1, 0, 1, 0, 0, 0, 1], .c [1, 1, 0, 1, 0, 0, 1], .l [1, 1, 0, 1, 0, 0], .b 0, .c [1, 1, 1]]
abbrev fits_l1_st : Sta := ⟨[2, 3, 4, 7, 8, 9], ⟨[.sl (.pair (.int .i64) (.int .i64)), .own 0 0, .own 1 0, .i .i64, .i .i64, .i .i64], [.segs [.sl (.sl (.int .i64)), .sl (.int .i64), .i .i64], .segs [.i .i64, .i .i64]]⟩⟩
abbrev fits_l1_h (rec : (List (Int × Int)) → Int → Int → Int → (List (List Int)) → (List Int) → Int → Int → Int → Option ((Unit) ⊕ ((Unit) ⊕ ((Unit) ⊕ (Unit))))) : Leaf ((Unit) ⊕ ((Unit) ⊕ ((Unit) ⊕ (Unit)))) := ⟨fits_l1_at, fits_l1_st, fun p => rec p.1.1 p.1.2.2.2.1 p.1.2.2.2.2.1 p.1.2.2.2.2.2.1 p.2.1.1 p.2.1.2.1 p.2.1.2.2.1 p.2.2.1.1 p.2.2.1.2.1⟩
abbrev fits_l1_e0 : Leaf ((Unit) ⊕ ((Unit) ⊕ ((Unit) ⊕ (Unit)))) := ⟨[.c [1, 1, 0, 1, 0, 0, 1, 0, 0, 1, 0, 0, 1, 0, 0], .c [1, 1, 0, 1, 0, 0, 1, 0, 0, 1, 0, 0, 1, 0, 1], .c [1, 1, 0, 1, 0, 0, 1, 0, 0, 1, 0, 1], .b 1, .c [1, 1, 0, 1, 0, 0, 1, 1], .l [1, 1, 0, 1, 0, 0], .b 0, .c [1, 1, 1]], ⟨[], ⟨[], []⟩⟩, fun p => some (.inl ())⟩
abbrev fits_l1_e1 : Leaf ((Unit) ⊕ ((Unit) ⊕ ((Unit) ⊕ (Unit)))) := ⟨[.c [1, 1, 0, 1, 0, 0, 1, 0, 0, 1, 1, 1, 0, 0, 1, 0, 0], .c [1, 1, 0, 1, 0, 0, 1, 0, 0, 1, 1, 1, 0, 0, 1, 0, 1], .c [1, 1, 0, 1, 0, 0, 1, 0, 0, 1, 1, 1, 0, 1], .b 1, .c [1, 1, 0, 1, 0, 0, 1, 1], .l [1, 1, 0, 1, 0, 0], .b 0, .c [1, 1, 1]], ⟨[], ⟨[], []⟩⟩, fun p => some (.inr (.inl ()))⟩
abbrev fits_l1_e2 : Leaf ((Unit) ⊕ ((Unit) ⊕ ((Unit) ⊕ (Unit)))) := ⟨[.c [1, 1, 0, 1, 0, 0, 1, 0, 0, 1, 1, 1, 1, 1, 0, 0], .c [1, 1, 0, 1, 0, 0, 1, 0, 0, 1, 1, 1, 1, 1, 0, 1], .b 1, .c [1, 1, 0, 1, 0, 0, 1, 1], .l [1, 1, 0, 1, 0, 0], .b 0, .c [1, 1, 1]], ⟨[], ⟨[], []⟩⟩, fun p => some (.inr (.inr (.inl ())))⟩
abbrev fits_l1_e3 : Leaf ((Unit) ⊕ ((Unit) ⊕ ((Unit) ⊕ (Unit)))) := ⟨[.c [1, 1, 1, 0], .c [1, 1, 1, 1]], ⟨[], ⟨[], []⟩⟩, fun p => some (.inr (.inr (.inr ())))⟩
abbrev fits_j1_at : List PI := [.c [1, 1, 0, 1, 0, 0, 1, 1], .l [1, 1, 0, 1, 0, 0], .b 0, .c [1, 1, 1]]
abbrev fits_j1_st : Sta := ⟨[2, 3, 4, 7, 8, 9], ⟨[.sl (.pair (.int .i64) (.int .i64)), .own 0 0, .own 1 0, .i .i64, .i .i64, .i .i64], [.segs [.sl (.sl (.int .i64)), .sl (.int .i64), .i .i64], .segs [.i .i64, .i .i64]]⟩⟩
abbrev fits_j1_k (N : Nat) (rec : (List (Int × Int)) → Int → Int → Int → (List (List Int)) → (List Int) → Int → Int → Int → Option ((Unit) ⊕ ((Unit) ⊕ ((Unit) ⊕ (Unit))))) : Leaf ((Unit) ⊕ ((Unit) ⊕ ((Unit) ⊕ (Unit)))) := ⟨fits_j1_at, fits_j1_st, fun p => fits_j1 N rec p.1.1 p.1.2.2.2.1 p.1.2.2.2.2.1 p.1.2.2.2.2.2.1 p.2.1.1 p.2.1.2.1 p.2.1.2.2.1 p.2.2.1.1 p.2.2.1.2.1⟩
theorem fits_j1_eq (N : Nat) (rec : (List (Int × Int)) → Int → Int → Int → (List (List Int)) → (List Int) → Int → Int → Int → Option ((Unit) ⊕ ((Unit) ⊕ ((Unit) ⊕ (Unit))))) (l : List (Int × Int)) (a : Int) (b : Int) (i : Int) (e : List (List Int)) (e2 : List Int) (e3 : Int) (p : Int) (p2 : Int) : ev (Z := (Unit) ⊕ ((Unit) ⊕ ((Unit) ⊕ (Unit)))) Try.prog (fits_sp N) fits_B [] [fits_l1_h rec, fits_l1_e0, fits_l1_e1, fits_l1_e2, fits_l1_e3] none 400 true fits_j1_at (stL fits_j1_st ((l, (), (), a, b, i, ()), ((e, e2, e3, ()), (p, p2, ()), ()))) (stH fits_j1_st ((l, (), (), a, b, i, ()), ((e, e2, e3, ()), (p, p2, ()), ()))) = fits_j1 N rec l a b i e e2 e3 p p2 := by kernel_rfl
theorem fits_j1_lf (N : Nat) (rec : (List (Int × Int)) → Int → Int → Int → (List (List Int)) → (List Int) → Int → Int → Int → Option ((Unit) ⊕ ((Unit) ⊕ ((Unit) ⊕ (Unit))))) {z : (Unit) ⊕ ((Unit) ⊕ ((Unit) ⊕ (Unit)))} {top : Bool} {E : EE} {Xc : Ctx} (hE : EOK fits_B.m0 E) (hX : CxOK top Xc) (hrec : LeafOK Try.prog fits_B.c fits_B.n fits_B.m0 E Xc z (fits_l1_h rec)) (h0 : LeafOK Try.prog fits_B.c fits_B.n fits_B.m0 E Xc z fits_l1_e0) (h1 : LeafOK Try.prog fits_B.c fits_B.n fits_B.m0 E Xc z fits_l1_e1) (h2 : LeafOK Try.prog fits_B.c fits_B.n fits_B.m0 E Xc z fits_l1_e2) (h3 : LeafOK Try.prog fits_B.c fits_B.n fits_B.m0 E Xc z fits_l1_e3) : LeafOK Try.prog fits_B.c fits_B.n fits_B.m0 E Xc z (fits_j1_k N rec) := leaf_of_ev (B := fits_B) (loops := []) (leaves := [fits_l1_h rec, fits_l1_e0, fits_l1_e1, fits_l1_e2, fits_l1_e3]) (fits_all N) mixed trivial hE hX ⟨hrec, h0, h1, h2, h3, trivial⟩ RetOK.no (fun p => fits_j1_eq N rec p.1.1 p.1.2.2.2.1 p.1.2.2.2.2.1 p.1.2.2.2.2.2.1 p.2.1.1 p.2.1.2.1 p.2.1.2.2.1 p.2.2.1.1 p.2.2.1.2.1)
noncomputable def fits_l1_L (N : Nat) : LoopS := { at_ := fits_l1_at, sta := fits_l1_st, exits := [([.c [1, 1, 0, 1, 0, 0, 1, 0, 0, 1, 0, 0, 1, 0, 0], .c [1, 1, 0, 1, 0, 0, 1, 0, 0, 1, 0, 0, 1, 0, 1], .c [1, 1, 0, 1, 0, 0, 1, 0, 0, 1, 0, 1], .b 1, .c [1, 1, 0, 1, 0, 0, 1, 1], .l [1, 1, 0, 1, 0, 0], .b 0, .c [1, 1, 1]], ⟨[], ⟨[], []⟩⟩), ([.c [1, 1, 0, 1, 0, 0, 1, 0, 0, 1, 1, 1, 0, 0, 1, 0, 0], .c [1, 1, 0, 1, 0, 0, 1, 0, 0, 1, 1, 1, 0, 0, 1, 0, 1], .c [1, 1, 0, 1, 0, 0, 1, 0, 0, 1, 1, 1, 0, 1], .b 1, .c [1, 1, 0, 1, 0, 0, 1, 1], .l [1, 1, 0, 1, 0, 0], .b 0, .c [1, 1, 1]], ⟨[], ⟨[], []⟩⟩), ([.c [1, 1, 0, 1, 0, 0, 1, 0, 0, 1, 1, 1, 1, 1, 0, 0], .c [1, 1, 0, 1, 0, 0, 1, 0, 0, 1, 1, 1, 1, 1, 0, 1], .b 1, .c [1, 1, 0, 1, 0, 0, 1, 1], .l [1, 1, 0, 1, 0, 0], .b 0, .c [1, 1, 1]], ⟨[], ⟨[], []⟩⟩), ([.c [1, 1, 1, 0], .c [1, 1, 1, 1]], ⟨[], ⟨[], []⟩⟩)], run := fun p k => (fits_l1 N N p.1.1 p.1.2.2.2.1 p.1.2.2.2.2.1 p.1.2.2.2.2.2.1 p.2.1.1 p.2.1.2.1 p.2.1.2.2.1 p.2.2.1.1 p.2.2.1.2.1).bind fun e => match e with | .inl x => k (.inl ((), ())) | .inr (.inl x) => k (.inr (.inl ((), ()))) | .inr (.inr (.inl x)) => k (.inr (.inr (.inl ((), ())))) | .inr (.inr (.inr x)) => k (.inr (.inr (.inr (.inl ((), ()))))) }
theorem fits_l1_eq (N n_ : Nat) (l : List (Int × Int)) (a : Int) (b : Int) (i : Int) (e : List (List Int)) (e2 : List Int) (e3 : Int) (p : Int) (p2 : Int) : ev (Z := (Unit) ⊕ ((Unit) ⊕ ((Unit) ⊕ (Unit)))) Try.prog (fits_sp N) fits_B [] [fits_l1_h (fits_l1 N n_), fits_l1_e0, fits_l1_e1, fits_l1_e2, fits_l1_e3, fits_j1_k N (fits_l1 N n_)] none 400 true fits_l1_at (stL fits_l1_st ((l, (), (), a, b, i, ()), ((e, e2, e3, ()), (p, p2, ()), ()))) (stH fits_l1_st ((l, (), (), a, b, i, ()), ((e, e2, e3, ()), (p, p2, ()), ()))) = fits_l1 N (n_ + 1) l a b i e e2 e3 p p2 := by kernel_rfl
theorem fits_l1_ok (N : Nat) {top : Bool} : LoopOK Try.prog fits_B.c fits_B.n fits_B.m0 top (fits_l1_L N) := loop_of_ev (Z := (Unit) ⊕ ((Unit) ⊕ ((Unit) ⊕ (Unit)))) (N := N) (fun m p => fits_l1 N m p.1.1 p.1.2.2.2.1 p.1.2.2.2.2.1 p.1.2.2.2.2.2.1 p.2.1.1 p.2.1.2.1 p.2.1.2.2.1 p.2.2.1.1 p.2.2.1.2.1) (fun e => match e with | .inl x => .inl ((), ()) | .inr (.inl x) => .inr (.inl ((), ())) | .inr (.inr (.inl x)) => .inr (.inr (.inl ((), ()))) | .inr (.inr (.inr x)) => .inr (.inr (.inr (.inl ((), ()))))) (fun _ p k => bind_congr_ (fits_l1 N N p.1.1 p.1.2.2.2.1 p.1.2.2.2.2.1 p.1.2.2.2.2.2.1 p.2.1.1 p.2.1.2.1 p.2.1.2.2.1 p.2.2.1.1 p.2.2.1.2.1) _ _ (fun e => by rcases e with x | x | x | x <;> rfl)) (fun _ => rfl) (fun m z E Xc hE hX hrec hx => leaf_of_ev (B := fits_B) (loops := []) (leaves := [fits_l1_h (fits_l1 N m), fits_l1_e0, fits_l1_e1, fits_l1_e2, fits_l1_e3, fits_j1_k N (fits_l1 N m)]) (fits_all N) mixed trivial hE hX ⟨hrec, (fun p hp => by obtain rfl := Option.some.inj hp; exact hx), (fun p hp => by obtain rfl := Option.some.inj hp; exact hx), (fun p hp => by obtain rfl := Option.some.inj hp; exact hx), (fun p hp => by obtain rfl := Option.some.inj hp; exact hx), fits_j1_lf N _ hE hX hrec (fun p hp => by obtain rfl := Option.some.inj hp; exact hx) (fun p hp => by obtain rfl := Option.some.inj hp; exact hx) (fun p hp => by obtain rfl := Option.some.inj hp; exact hx) (fun p hp => by obtain rfl := Option.some.inj hp; exact hx), trivial⟩ RetOK.no (fun p => fits_l1_eq N m p.1.1 p.1.2.2.2.1 p.1.2.2.2.2.1 p.1.2.2.2.2.2.1 p.2.1.1 p.2.1.2.1 p.2.1.2.2.1 p.2.2.1.1 p.2.2.1.2.1))
abbrev fits_st : Sta := ⟨[0, 1, 2], ⟨[.agg [.sl (.sl (.int .i64)), .sl (.int .i64), .i .i64], .agg [.i .i64, .i .i64], .sl (.pair (.int .i64) (.int .i64))], []⟩⟩
theorem fits_eq (N : Nat) (e : List (List Int)) (e2 : List Int) (e3 : Int) (p : Int) (p2 : Int) (l : List (Int × Int)) : ev (Z := Bool) Try.prog (fits_sp N) fits_B [fits_l1_L N] [] (some fits_rt) 400 false [.c [0], .c [1]] (stL fits_st (((e, e2, e3, ()), (p, p2, ()), l, ()), ())) (stH fits_st (((e, e2, e3, ()), (p, p2, ()), l, ()), ())) = fits_S N e e2 e3 p p2 l := by kernel_rfl
noncomputable def sp_fits (N : Nat) : Spec := { f := 99, ins := ⟨[.agg [.sl (.sl (.int .i64)), .sl (.int .i64), .i .i64], .agg [.i .i64, .i .i64], .sl (.pair (.int .i64) (.int .i64))], []⟩, outs := [⟨[.b], []⟩], run := fun p k => (fits_S N p.1.1.1 p.1.1.2.1 p.1.1.2.2.1 p.1.2.1.1 p.1.2.1.2.1 p.1.2.2.1).bind fun r => k ((r, ()), ()) }
theorem sp_fits_ok (N : Nat) : SpecOK Try.prog (sp_fits N) := fn_sound (B := fits_B) (loops := [fits_l1_L N]) (leaves := []) (fun p => fits_S N p.1.1.1 p.1.1.2.1 p.1.1.2.2.1 p.1.2.1.1 p.1.2.1.2.1 p.1.2.2.1) (fun r => ((r, ()), ())) fits_rt (fun _ _ _ => rfl) (fun r z h => by cases h; rfl) Try.func99 (by kernel_rfl) (by kernel_rfl) (by kernel_rfl) rfl rfl (by kernel_rfl) (fun args w => Sem.pv_run _ _ _ (by kernel_rfl) w) (fits_all N) mixed ⟨fits_l1_ok N, trivial⟩ (fun z E Xc hE hX hret => trivial) (fun p => fits_eq N p.1.1.1 p.1.1.2.1 p.1.1.2.2.1 p.1.2.1.1 p.1.2.1.2.1 p.1.2.2.1)

def faulty_j1 (N : Nat) (rec : (List (Int × Int)) → Int → Int → Option Int) (l : List (Int × Int)) (n : Int) (i : Int) : Option Int :=
  chk (i + 1) <|
  rec l n (i + 1)
def faulty_l1 (N : Nat) : Nat → (List (Int × Int)) → Int → Int → Option Int
  | 0, _, _, _ => none
  | n_ + 1, l, n, i =>
    br (decide (i < (l.length : Int)))
      (idx l i fun x_3 =>
      br (decide (x_3.1 = 3))
        (chk (n + 1) <|
        faulty_j1 N (faulty_l1 N n_) l (n + 1) i)
        (chk (n - 1) <|
        faulty_j1 N (faulty_l1 N n_) l (n - 1) i))
      (some (n))
def faulty_S (N : Nat) (e : List (List Int)) (e2 : List Int) (e3 : Int) (p : Int) (p2 : Int) (l : List (Int × Int)) : Option Int :=
  idx e p fun x_1 =>
  idx e p2 fun x_2 =>
  chk ((x_1.length : Int) + (x_2.length : Int)) <|
  (faulty_l1 N N l ((x_1.length : Int) + (x_2.length : Int)) 0).bind fun n_4 =>
  some n_4
noncomputable def faulty_sp (N : Nat) : List Spec := []
theorem faulty_all (N : Nat) : AllP (SpecOK Try.prog) (faulty_sp N) := trivial
noncomputable def faulty_c : Code := (Try.f98.body).getD .skip
noncomputable abbrev faulty_B : Body := { c := faulty_c, n := 41, res := [.tmp 6], outs := [⟨[.i .i64], []⟩], m0 := 0 }
abbrev faulty_rt : altD faulty_B.outs → Option Int := fun r => some r.1.1
abbrev faulty_l1_at : List PI := [.c [1, 1, 0, 1, 0, 0, 0, 0], .c [1, 1, 0, 1, 0, 0, 0, 1], .c [1, 1, 0, 1, 0, 0, 1], .l [1, 1, 0, 1, 0, 0], .b 0, .c [1, 1, 1]]
abbrev faulty_l1_st : Sta := ⟨[2, 7, 8], ⟨[.sl (.pair (.int .i64) (.int .i64)), .i .i64, .i .i64], []⟩⟩
abbrev faulty_l1_h (rec : (List (Int × Int)) → Int → Int → Option Int) : Leaf Int := ⟨faulty_l1_at, faulty_l1_st, fun p => rec p.1.1 p.1.2.1 p.1.2.2.1⟩
abbrev faulty_l1_e0 : Leaf Int := ⟨[.c [1, 1, 1, 0], .c [1, 1, 1, 1]], ⟨[7], ⟨[.i .i64], []⟩⟩, fun p => some (p.1.1)⟩
abbrev faulty_j1_at : List PI := [.c [1, 1, 0, 1, 0, 0, 1, 1], .l [1, 1, 0, 1, 0, 0], .b 0, .c [1, 1, 1]]
abbrev faulty_j1_st : Sta := ⟨[2, 7, 8], ⟨[.sl (.pair (.int .i64) (.int .i64)), .i .i64, .i .i64], []⟩⟩
abbrev faulty_j1_k (N : Nat) (rec : (List (Int × Int)) → Int → Int → Option Int) : Leaf Int := ⟨faulty_j1_at, faulty_j1_st, fun p => faulty_j1 N rec p.1.1 p.1.2.1 p.1.2.2.1⟩
theorem faulty_j1_eq (N : Nat) (rec : (List (Int × Int)) → Int → Int → Option Int) (l : List (Int × Int)) (n : Int) (i : Int) : ev (Z := Int) Try.prog (faulty_sp N) faulty_B [] [faulty_l1_h rec, faulty_l1_e0] none 400 true faulty_j1_at (stL faulty_j1_st ((l, n, i, ()), ())) (stH faulty_j1_st ((l, n, i, ()), ())) = faulty_j1 N rec l n i := by kernel_rfl
theorem faulty_j1_lf (N : Nat) (rec : (List (Int × Int)) → Int → Int → Option Int) {z : Int} {top : Bool} {E : EE} {Xc : Ctx} (hE : EOK faulty_B.m0 E) (hX : CxOK top Xc) (hrec : LeafOK Try.prog faulty_B.c faulty_B.n faulty_B.m0 E Xc z (faulty_l1_h rec)) (h0 : LeafOK Try.prog faulty_B.c faulty_B.n faulty_B.m0 E Xc z faulty_l1_e0) : LeafOK Try.prog faulty_B.c faulty_B.n faulty_B.m0 E Xc z (faulty_j1_k N rec) := leaf_of_ev (B := faulty_B) (loops := []) (leaves := [faulty_l1_h rec, faulty_l1_e0]) (faulty_all N) mixed trivial hE hX ⟨hrec, h0, trivial⟩ RetOK.no (fun p => faulty_j1_eq N rec p.1.1 p.1.2.1 p.1.2.2.1)
noncomputable def faulty_l1_L (N : Nat) : LoopS := { at_ := faulty_l1_at, sta := faulty_l1_st, exits := [([.c [1, 1, 1, 0], .c [1, 1, 1, 1]], ⟨[7], ⟨[.i .i64], []⟩⟩)], run := fun p k => (faulty_l1 N N p.1.1 p.1.2.1 p.1.2.2.1).bind fun e => k (.inl ((e, ()), ())) }
theorem faulty_l1_eq (N n_ : Nat) (l : List (Int × Int)) (n : Int) (i : Int) : ev (Z := Int) Try.prog (faulty_sp N) faulty_B [] [faulty_l1_h (faulty_l1 N n_), faulty_l1_e0, faulty_j1_k N (faulty_l1 N n_)] none 400 true faulty_l1_at (stL faulty_l1_st ((l, n, i, ()), ())) (stH faulty_l1_st ((l, n, i, ()), ())) = faulty_l1 N (n_ + 1) l n i := by kernel_rfl
theorem faulty_l1_ok (N : Nat) {top : Bool} : LoopOK Try.prog faulty_B.c faulty_B.n faulty_B.m0 top (faulty_l1_L N) := loop_of_ev (Z := Int) (N := N) (fun m p => faulty_l1 N m p.1.1 p.1.2.1 p.1.2.2.1) (fun e => .inl ((e, ()), ())) (fun _ _ _ => rfl) (fun _ => rfl) (fun m z E Xc hE hX hrec hx => leaf_of_ev (B := faulty_B) (loops := []) (leaves := [faulty_l1_h (faulty_l1 N m), faulty_l1_e0, faulty_j1_k N (faulty_l1 N m)]) (faulty_all N) mixed trivial hE hX ⟨hrec, (fun p hp => by obtain rfl := Option.some.inj hp; exact hx), faulty_j1_lf N _ hE hX hrec (fun p hp => by obtain rfl := Option.some.inj hp; exact hx), trivial⟩ RetOK.no (fun p => faulty_l1_eq N m p.1.1 p.1.2.1 p.1.2.2.1))
abbrev faulty_st : Sta := ⟨[0, 1, 2], ⟨[.agg [.sl (.sl (.int .i64)), .sl (.int .i64), .i .i64], .agg [.i .i64, .i .i64], .sl (.pair (.int .i64) (.int .i64))], []⟩⟩
theorem faulty_eq (N : Nat) (e : List (List Int)) (e2 : List Int) (e3 : Int) (p : Int) (p2 : Int) (l : List (Int × Int)) : ev (Z := Int) Try.prog (faulty_sp N) faulty_B [faulty_l1_L N] [] (some faulty_rt) 400 false [.c [0], .c [1]] (stL faulty_st (((e, e2, e3, ()), (p, p2, ()), l, ()), ())) (stH faulty_st (((e, e2, e3, ()), (p, p2, ()), l, ()), ())) = faulty_S N e e2 e3 p p2 l := by kernel_rfl
noncomputable def sp_faulty (N : Nat) : Spec := { f := 98, ins := ⟨[.agg [.sl (.sl (.int .i64)), .sl (.int .i64), .i .i64], .agg [.i .i64, .i .i64], .sl (.pair (.int .i64) (.int .i64))], []⟩, outs := [⟨[.i .i64], []⟩], run := fun p k => (faulty_S N p.1.1.1 p.1.1.2.1 p.1.1.2.2.1 p.1.2.1.1 p.1.2.1.2.1 p.1.2.2.1).bind fun r => k ((r, ()), ()) }
theorem sp_faulty_ok (N : Nat) : SpecOK Try.prog (sp_faulty N) := fn_sound (B := faulty_B) (loops := [faulty_l1_L N]) (leaves := []) (fun p => faulty_S N p.1.1.1 p.1.1.2.1 p.1.1.2.2.1 p.1.2.1.1 p.1.2.1.2.1 p.1.2.2.1) (fun r => ((r, ()), ())) faulty_rt (fun _ _ _ => rfl) (fun r z h => by cases h; rfl) Try.func98 (by kernel_rfl) (by kernel_rfl) (by kernel_rfl) rfl rfl (by kernel_rfl) (fun args w => Sem.pv_run _ _ _ (by kernel_rfl) w) (faulty_all N) mixed ⟨faulty_l1_ok N, trivial⟩ (fun z E Xc hE hX hret => trivial) (fun p => faulty_eq N p.1.1.1 p.1.1.2.1 p.1.1.2.2.1 p.1.2.1.1 p.1.2.1.2.1 p.1.2.2.1)

def rfaults_S (N : Nat) (e : List (List Int)) (e2 : List Int) (e3 : Int) (p : Int) (p2 : Int) (l : List (Int × Int)) : Option (Int × Int) :=
  (rtwo_S N e e2 e3 p p2).bind fun x_1 =>
  br (!decide (x_1 = 0))
    (some (0, x_1))
    (br (!decide ((l.length : Int) = (e2.length : Int)))
      (some (0, 2))
      ((fits_S N e e2 e3 p p2 l).bind fun x_2 =>
      br (!x_2)
        (some (0, 8))
        ((faulty_S N e e2 e3 p p2 l).bind fun x_3 =>
        some (x_3, 0))))
def great_l1 (N : Nat) : Nat → (List (List Int)) → Int → Int → Option ((Unit) ⊕ (Unit))
  | 0, _, _, _ => none
  | n_ + 1, u, u2, u3 =>
    br (decide (u3 < u2))
      (idx u u3 fun x_1 =>
      br (decide (9 < (x_1.length : Int)))
        (some (.inl ()))
        (chk (u3 + 1) <|
        great_l1 N n_ u u2 (u3 + 1)))
      (some (.inr ()))
def great_S (N : Nat) (e : List (List Int)) (e2 : List Int) (e3 : Int) : Option Bool :=
  br (decide (8 < (e.length : Int)))
    (some true)
    (br (decide (14 < (e2.length : Int)))
      (some true)
      ((great_l1 N N e (e.length : Int) 0).bind fun e => match e with
      | .inl _ =>
        some true
      | .inr _ =>
        some false))
noncomputable def great_sp (N : Nat) : List Spec := []
theorem great_all (N : Nat) : AllP (SpecOK Try.prog) (great_sp N) := trivial
noncomputable def great_c : Code := (Try.f38.body).getD .skip
noncomputable abbrev great_B : Body := { c := great_c, n := 26, res := [.tmp 2], outs := [⟨[.b], []⟩], m0 := 0 }
abbrev great_rt : altD great_B.outs → Option Bool := fun r => some r.1.1
abbrev great_l1_at : List PI := [.c [1, 1, 0, 1, 0, 0, 0], .c [1, 1, 0, 1, 0, 0, 1], .l [1, 1, 0, 1, 0, 0], .b 0, .c [1, 1, 1]]
abbrev great_l1_st : Sta := ⟨[16, 17, 18], ⟨[.sl (.sl (.int .i64)), .i .i64, .i .i64], []⟩⟩
abbrev great_l1_h (rec : (List (List Int)) → Int → Int → Option ((Unit) ⊕ (Unit))) : Leaf ((Unit) ⊕ (Unit)) := ⟨great_l1_at, great_l1_st, fun p => rec p.1.1 p.1.2.1 p.1.2.2.1⟩
abbrev great_l1_e0 : Leaf ((Unit) ⊕ (Unit)) := ⟨[.c [1, 1, 0, 1, 0, 0, 1, 1, 0, 0, 1, 1, 0, 0], .c [1, 1, 0, 1, 0, 0, 1, 1, 0, 0, 1, 1, 0, 1], .b 1, .c [1, 1, 0, 1, 0, 0, 1, 1, 1], .l [1, 1, 0, 1, 0, 0], .b 0, .c [1, 1, 1]], ⟨[], ⟨[], []⟩⟩, fun p => some (.inl ())⟩
abbrev great_l1_e1 : Leaf ((Unit) ⊕ (Unit)) := ⟨[.c [1, 1, 1, 0], .c [1, 1, 1, 1]], ⟨[], ⟨[], []⟩⟩, fun p => some (.inr ())⟩
noncomputable def great_l1_L (N : Nat) : LoopS := { at_ := great_l1_at, sta := great_l1_st, exits := [([.c [1, 1, 0, 1, 0, 0, 1, 1, 0, 0, 1, 1, 0, 0], .c [1, 1, 0, 1, 0, 0, 1, 1, 0, 0, 1, 1, 0, 1], .b 1, .c [1, 1, 0, 1, 0, 0, 1, 1, 1], .l [1, 1, 0, 1, 0, 0], .b 0, .c [1, 1, 1]], ⟨[], ⟨[], []⟩⟩), ([.c [1, 1, 1, 0], .c [1, 1, 1, 1]], ⟨[], ⟨[], []⟩⟩)], run := fun p k => (great_l1 N N p.1.1 p.1.2.1 p.1.2.2.1).bind fun e => match e with | .inl x => k (.inl ((), ())) | .inr x => k (.inr (.inl ((), ()))) }
theorem great_l1_eq (N n_ : Nat) (u : List (List Int)) (u2 : Int) (u3 : Int) : ev (Z := (Unit) ⊕ (Unit)) Try.prog (great_sp N) great_B [] [great_l1_h (great_l1 N n_), great_l1_e0, great_l1_e1] none 400 true great_l1_at (stL great_l1_st ((u, u2, u3, ()), ())) (stH great_l1_st ((u, u2, u3, ()), ())) = great_l1 N (n_ + 1) u u2 u3 := by kernel_rfl
theorem great_l1_ok (N : Nat) {top : Bool} : LoopOK Try.prog great_B.c great_B.n great_B.m0 top (great_l1_L N) := loop_of_ev (Z := (Unit) ⊕ (Unit)) (N := N) (fun m p => great_l1 N m p.1.1 p.1.2.1 p.1.2.2.1) (fun e => match e with | .inl x => .inl ((), ()) | .inr x => .inr (.inl ((), ()))) (fun _ p k => bind_congr_ (great_l1 N N p.1.1 p.1.2.1 p.1.2.2.1) _ _ (fun e => by rcases e with x | x <;> rfl)) (fun _ => rfl) (fun m z E Xc hE hX hrec hx => leaf_of_ev (B := great_B) (loops := []) (leaves := [great_l1_h (great_l1 N m), great_l1_e0, great_l1_e1]) (great_all N) mixed trivial hE hX ⟨hrec, (fun p hp => by obtain rfl := Option.some.inj hp; exact hx), (fun p hp => by obtain rfl := Option.some.inj hp; exact hx), trivial⟩ RetOK.no (fun p => great_l1_eq N m p.1.1 p.1.2.1 p.1.2.2.1))
abbrev great_st : Sta := ⟨[0], ⟨[.agg [.sl (.sl (.int .i64)), .sl (.int .i64), .i .i64]], []⟩⟩
theorem great_eq (N : Nat) (e : List (List Int)) (e2 : List Int) (e3 : Int) : ev (Z := Bool) Try.prog (great_sp N) great_B [great_l1_L N] [] (some great_rt) 400 false [.c [0], .c [1]] (stL great_st (((e, e2, e3, ()), ()), ())) (stH great_st (((e, e2, e3, ()), ()), ())) = great_S N e e2 e3 := by kernel_rfl
noncomputable def sp_great (N : Nat) : Spec := { f := 38, ins := ⟨[.agg [.sl (.sl (.int .i64)), .sl (.int .i64), .i .i64]], []⟩, outs := [⟨[.b], []⟩], run := fun p k => (great_S N p.1.1.1 p.1.1.2.1 p.1.1.2.2.1).bind fun r => k ((r, ()), ()) }
theorem sp_great_ok (N : Nat) : SpecOK Try.prog (sp_great N) := fn_sound (B := great_B) (loops := [great_l1_L N]) (leaves := []) (fun p => great_S N p.1.1.1 p.1.1.2.1 p.1.1.2.2.1) (fun r => ((r, ()), ())) great_rt (fun _ _ _ => rfl) (fun r z h => by cases h; rfl) Try.func38 (by kernel_rfl) (by kernel_rfl) (by kernel_rfl) rfl rfl (by kernel_rfl) (fun args w => Sem.pv_run _ _ _ (by kernel_rfl) w) (great_all N) mixed ⟨great_l1_ok N, trivial⟩ (fun z E Xc hE hX hret => trivial) (fun p => great_eq N p.1.1.1 p.1.1.2.1 p.1.1.2.2.1)

def wide_l1 (N : Nat) : Nat → Int → (List (List Int)) → Int → Int → Option ((Unit) ⊕ (Unit))
  | 0, _, _, _, _ => none
  | n_ + 1, words, u, u2, u3 =>
    br (decide (u3 < u2))
      (idx u u3 fun x_1 =>
      br (decide (words < (x_1.length : Int)))
        (br (decide ((x_1.length : Int) ≤ 6))
          (some (.inl ()))
          (chk (u3 + 1) <|
          wide_l1 N n_ words u u2 (u3 + 1)))
        (chk (u3 + 1) <|
        wide_l1 N n_ words u u2 (u3 + 1)))
      (some (.inr ()))
def wide_S (N : Nat) (e : List (List Int)) (e2 : List Int) (e3 : Int) (heard : Int) (words : Int) : Option Bool :=
  br (decide (heard < (e2.length : Int)))
    (br (decide ((e2.length : Int) ≤ 10))
      (some true)
      ((wide_l1 N N words e (e.length : Int) 0).bind fun e => match e with
      | .inl _ =>
        some true
      | .inr _ =>
        some false))
    ((wide_l1 N N words e (e.length : Int) 0).bind fun e => match e with
    | .inl _ =>
      some true
    | .inr _ =>
      some false)
noncomputable def wide_sp (N : Nat) : List Spec := []
theorem wide_all (N : Nat) : AllP (SpecOK Try.prog) (wide_sp N) := trivial
noncomputable def wide_c : Code := (Try.f39.body).getD .skip
noncomputable abbrev wide_B : Body := { c := wide_c, n := 37, res := [.tmp 6], outs := [⟨[.b], []⟩], m0 := 0 }
abbrev wide_rt : altD wide_B.outs → Option Bool := fun r => some r.1.1
abbrev wide_l1_at : List PI := [.c [1, 1, 0, 1, 0, 0, 0], .c [1, 1, 0, 1, 0, 0, 1], .l [1, 1, 0, 1, 0, 0], .b 0, .c [1, 1, 1]]
abbrev wide_l1_st : Sta := ⟨[2, 21, 22, 23], ⟨[.i .i64, .sl (.sl (.int .i64)), .i .i64, .i .i64], []⟩⟩
abbrev wide_l1_h (rec : Int → (List (List Int)) → Int → Int → Option ((Unit) ⊕ (Unit))) : Leaf ((Unit) ⊕ (Unit)) := ⟨wide_l1_at, wide_l1_st, fun p => rec p.1.1 p.1.2.1 p.1.2.2.1 p.1.2.2.2.1⟩
abbrev wide_l1_e0 : Leaf ((Unit) ⊕ (Unit)) := ⟨[.c [1, 1, 0, 1, 0, 0, 1, 1, 0, 0, 1, 1, 0, 0], .c [1, 1, 0, 1, 0, 0, 1, 1, 0, 0, 1, 1, 0, 1], .b 1, .c [1, 1, 0, 1, 0, 0, 1, 1, 1], .l [1, 1, 0, 1, 0, 0], .b 0, .c [1, 1, 1]], ⟨[], ⟨[], []⟩⟩, fun p => some (.inl ())⟩
abbrev wide_l1_e1 : Leaf ((Unit) ⊕ (Unit)) := ⟨[.c [1, 1, 1, 0], .c [1, 1, 1, 1]], ⟨[], ⟨[], []⟩⟩, fun p => some (.inr ())⟩
noncomputable def wide_l1_L (N : Nat) : LoopS := { at_ := wide_l1_at, sta := wide_l1_st, exits := [([.c [1, 1, 0, 1, 0, 0, 1, 1, 0, 0, 1, 1, 0, 0], .c [1, 1, 0, 1, 0, 0, 1, 1, 0, 0, 1, 1, 0, 1], .b 1, .c [1, 1, 0, 1, 0, 0, 1, 1, 1], .l [1, 1, 0, 1, 0, 0], .b 0, .c [1, 1, 1]], ⟨[], ⟨[], []⟩⟩), ([.c [1, 1, 1, 0], .c [1, 1, 1, 1]], ⟨[], ⟨[], []⟩⟩)], run := fun p k => (wide_l1 N N p.1.1 p.1.2.1 p.1.2.2.1 p.1.2.2.2.1).bind fun e => match e with | .inl x => k (.inl ((), ())) | .inr x => k (.inr (.inl ((), ()))) }
theorem wide_l1_eq (N n_ : Nat) (words : Int) (u : List (List Int)) (u2 : Int) (u3 : Int) : ev (Z := (Unit) ⊕ (Unit)) Try.prog (wide_sp N) wide_B [] [wide_l1_h (wide_l1 N n_), wide_l1_e0, wide_l1_e1] none 400 true wide_l1_at (stL wide_l1_st ((words, u, u2, u3, ()), ())) (stH wide_l1_st ((words, u, u2, u3, ()), ())) = wide_l1 N (n_ + 1) words u u2 u3 := by kernel_rfl
theorem wide_l1_ok (N : Nat) {top : Bool} : LoopOK Try.prog wide_B.c wide_B.n wide_B.m0 top (wide_l1_L N) := loop_of_ev (Z := (Unit) ⊕ (Unit)) (N := N) (fun m p => wide_l1 N m p.1.1 p.1.2.1 p.1.2.2.1 p.1.2.2.2.1) (fun e => match e with | .inl x => .inl ((), ()) | .inr x => .inr (.inl ((), ()))) (fun _ p k => bind_congr_ (wide_l1 N N p.1.1 p.1.2.1 p.1.2.2.1 p.1.2.2.2.1) _ _ (fun e => by rcases e with x | x <;> rfl)) (fun _ => rfl) (fun m z E Xc hE hX hrec hx => leaf_of_ev (B := wide_B) (loops := []) (leaves := [wide_l1_h (wide_l1 N m), wide_l1_e0, wide_l1_e1]) (wide_all N) mixed trivial hE hX ⟨hrec, (fun p hp => by obtain rfl := Option.some.inj hp; exact hx), (fun p hp => by obtain rfl := Option.some.inj hp; exact hx), trivial⟩ RetOK.no (fun p => wide_l1_eq N m p.1.1 p.1.2.1 p.1.2.2.1 p.1.2.2.2.1))
abbrev wide_st : Sta := ⟨[0, 1, 2], ⟨[.agg [.sl (.sl (.int .i64)), .sl (.int .i64), .i .i64], .i .i64, .i .i64], []⟩⟩
theorem wide_eq (N : Nat) (e : List (List Int)) (e2 : List Int) (e3 : Int) (heard : Int) (words : Int) : ev (Z := Bool) Try.prog (wide_sp N) wide_B [wide_l1_L N] [] (some wide_rt) 400 false [.c [0], .c [1]] (stL wide_st (((e, e2, e3, ()), heard, words, ()), ())) (stH wide_st (((e, e2, e3, ()), heard, words, ()), ())) = wide_S N e e2 e3 heard words := by kernel_rfl
noncomputable def sp_wide (N : Nat) : Spec := { f := 39, ins := ⟨[.agg [.sl (.sl (.int .i64)), .sl (.int .i64), .i .i64], .i .i64, .i .i64], []⟩, outs := [⟨[.b], []⟩], run := fun p k => (wide_S N p.1.1.1 p.1.1.2.1 p.1.1.2.2.1 p.1.2.1 p.1.2.2.1).bind fun r => k ((r, ()), ()) }
theorem sp_wide_ok (N : Nat) : SpecOK Try.prog (sp_wide N) := fn_sound (B := wide_B) (loops := [wide_l1_L N]) (leaves := []) (fun p => wide_S N p.1.1.1 p.1.1.2.1 p.1.1.2.2.1 p.1.2.1 p.1.2.2.1) (fun r => ((r, ()), ())) wide_rt (fun _ _ _ => rfl) (fun r z h => by cases h; rfl) Try.func39 (by kernel_rfl) (by kernel_rfl) (by kernel_rfl) rfl rfl (by kernel_rfl) (fun args w => Sem.pv_run _ _ _ (by kernel_rfl) w) (wide_all N) mixed ⟨wide_l1_ok N, trivial⟩ (fun z E Xc hE hX hret => trivial) (fun p => wide_eq N p.1.1.1 p.1.1.2.1 p.1.1.2.2.1 p.1.2.1 p.1.2.2.1)

def places_l1 (N : Nat) : Nat → (List (Int × Int)) → Int → Int → (List (Int × Int)) → Option (List (Int × Int))
  | 0, _, _, _, _ => none
  | n_ + 1, u, u2, u3, out =>
    br (decide (u3 < u2))
      (idx u u3 fun x_1 =>
      lim (out.length + [(x_1.1, x_1.2)].length) <|
      chk (u3 + 1) <|
      places_l1 N n_ u u2 (u3 + 1) (out ++ [(x_1.1, x_1.2)]))
      (some (out))
def places_S (N : Nat) (l : List (Int × Int)) : Option (List (Int × Int)) :=
  (places_l1 N N l (l.length : Int) 0 []).bind fun out_2 =>
  some out_2
def equalf_l1 (N : Nat) : Nat → (List (List Int)) → (List (List Int)) → Int → Int → Option ((Unit) ⊕ (Unit))
  | 0, _, _, _, _ => none
  | n_ + 1, s2, u, u2, u3 =>
    br (decide (u3 < u2))
      (idx u u3 fun x_1 =>
      idx s2 u3 fun x_2 =>
      (equali_S N x_1 x_2).bind fun x_3 =>
      br (!x_3)
        (some (.inl ()))
        (chk (u3 + 1) <|
        equalf_l1 N n_ s2 u u2 (u3 + 1)))
      (some (.inr ()))
def equalf_S (N : Nat) (s1 : List (List Int)) (s2 : List (List Int)) : Option Bool :=
  br (!decide ((s1.length : Int) = (s2.length : Int)))
    (some false)
    ((equalf_l1 N N s2 s1 (s1.length : Int) 0).bind fun e => match e with
    | .inl _ =>
      some false
    | .inr _ =>
      some true)
noncomputable def equalf_sp (N : Nat) : List Spec := [sp_equali N]
theorem equalf_all (N : Nat) : AllP (SpecOK Try.prog) (equalf_sp N) := ⟨sp_equali_ok N, trivial⟩
noncomputable def equalf_c : Code := (Try.f112.body).getD .skip
noncomputable abbrev equalf_B : Body := { c := equalf_c, n := 32, res := [.tmp 6], outs := [⟨[.b], []⟩], m0 := 0 }
abbrev equalf_rt : altD equalf_B.outs → Option Bool := fun r => some r.1.1
abbrev equalf_l1_at : List PI := [.c [1, 1, 0, 1, 0, 0, 0], .c [1, 1, 0, 1, 0, 0, 1], .l [1, 1, 0, 1, 0, 0], .b 0, .c [1, 1, 1]]
abbrev equalf_l1_st : Sta := ⟨[1, 2, 15, 16, 17], ⟨[.sl (.sl (.int .i64)), .fn 103 [] [], .sl (.sl (.int .i64)), .i .i64, .i .i64], []⟩⟩
abbrev equalf_l1_h (rec : (List (List Int)) → (List (List Int)) → Int → Int → Option ((Unit) ⊕ (Unit))) : Leaf ((Unit) ⊕ (Unit)) := ⟨equalf_l1_at, equalf_l1_st, fun p => rec p.1.1 p.1.2.2.1 p.1.2.2.2.1 p.1.2.2.2.2.1⟩
abbrev equalf_l1_e0 : Leaf ((Unit) ⊕ (Unit)) := ⟨[.c [1, 1, 0, 1, 0, 0, 1, 1, 0, 0, 1, 1, 1, 0, 0], .c [1, 1, 0, 1, 0, 0, 1, 1, 0, 0, 1, 1, 1, 0, 1], .b 1, .c [1, 1, 0, 1, 0, 0, 1, 1, 1], .l [1, 1, 0, 1, 0, 0], .b 0, .c [1, 1, 1]], ⟨[], ⟨[], []⟩⟩, fun p => some (.inl ())⟩
abbrev equalf_l1_e1 : Leaf ((Unit) ⊕ (Unit)) := ⟨[.c [1, 1, 1, 0], .c [1, 1, 1, 1]], ⟨[], ⟨[], []⟩⟩, fun p => some (.inr ())⟩
noncomputable def equalf_l1_L (N : Nat) : LoopS := { at_ := equalf_l1_at, sta := equalf_l1_st, exits := [([.c [1, 1, 0, 1, 0, 0, 1, 1, 0, 0, 1, 1, 1, 0, 0], .c [1, 1, 0, 1, 0, 0, 1, 1, 0, 0, 1, 1, 1, 0, 1], .b 1, .c [1, 1, 0, 1, 0, 0, 1, 1, 1], .l [1, 1, 0, 1, 0, 0], .b 0, .c [1, 1, 1]], ⟨[], ⟨[], []⟩⟩), ([.c [1, 1, 1, 0], .c [1, 1, 1, 1]], ⟨[], ⟨[], []⟩⟩)], run := fun p k => (equalf_l1 N N p.1.1 p.1.2.2.1 p.1.2.2.2.1 p.1.2.2.2.2.1).bind fun e => match e with | .inl x => k (.inl ((), ())) | .inr x => k (.inr (.inl ((), ()))) }
theorem equalf_l1_eq (N n_ : Nat) (s2 : List (List Int)) (u : List (List Int)) (u2 : Int) (u3 : Int) : ev (Z := (Unit) ⊕ (Unit)) Try.prog (equalf_sp N) equalf_B [] [equalf_l1_h (equalf_l1 N n_), equalf_l1_e0, equalf_l1_e1] none 400 true equalf_l1_at (stL equalf_l1_st ((s2, ((), ()), u, u2, u3, ()), ())) (stH equalf_l1_st ((s2, ((), ()), u, u2, u3, ()), ())) = equalf_l1 N (n_ + 1) s2 u u2 u3 := by kernel_rfl
theorem equalf_l1_ok (N : Nat) {top : Bool} : LoopOK Try.prog equalf_B.c equalf_B.n equalf_B.m0 top (equalf_l1_L N) := loop_of_ev (Z := (Unit) ⊕ (Unit)) (N := N) (fun m p => equalf_l1 N m p.1.1 p.1.2.2.1 p.1.2.2.2.1 p.1.2.2.2.2.1) (fun e => match e with | .inl x => .inl ((), ()) | .inr x => .inr (.inl ((), ()))) (fun _ p k => bind_congr_ (equalf_l1 N N p.1.1 p.1.2.2.1 p.1.2.2.2.1 p.1.2.2.2.2.1) _ _ (fun e => by rcases e with x | x <;> rfl)) (fun _ => rfl) (fun m z E Xc hE hX hrec hx => leaf_of_ev (B := equalf_B) (loops := []) (leaves := [equalf_l1_h (equalf_l1 N m), equalf_l1_e0, equalf_l1_e1]) (equalf_all N) mixed trivial hE hX ⟨hrec, (fun p hp => by obtain rfl := Option.some.inj hp; exact hx), (fun p hp => by obtain rfl := Option.some.inj hp; exact hx), trivial⟩ RetOK.no (fun p => equalf_l1_eq N m p.1.1 p.1.2.2.1 p.1.2.2.2.1 p.1.2.2.2.2.1))
abbrev equalf_st : Sta := ⟨[0, 1, 2], ⟨[.sl (.sl (.int .i64)), .sl (.sl (.int .i64)), .fn 103 [] []], []⟩⟩
theorem equalf_eq (N : Nat) (s1 : List (List Int)) (s2 : List (List Int)) : ev (Z := Bool) Try.prog (equalf_sp N) equalf_B [equalf_l1_L N] [] (some equalf_rt) 400 false [.c [0], .c [1]] (stL equalf_st ((s1, s2, ((), ()), ()), ())) (stH equalf_st ((s1, s2, ((), ()), ()), ())) = equalf_S N s1 s2 := by kernel_rfl
noncomputable def sp_equalf (N : Nat) : Spec := { f := 112, ins := ⟨[.sl (.sl (.int .i64)), .sl (.sl (.int .i64)), .fn 103 [] []], []⟩, outs := [⟨[.b], []⟩], run := fun p k => (equalf_S N p.1.1 p.1.2.1).bind fun r => k ((r, ()), ()) }
theorem sp_equalf_ok (N : Nat) : SpecOK Try.prog (sp_equalf N) := fn_sound (B := equalf_B) (loops := [equalf_l1_L N]) (leaves := []) (fun p => equalf_S N p.1.1 p.1.2.1) (fun r => ((r, ()), ())) equalf_rt (fun _ _ _ => rfl) (fun r z h => by cases h; rfl) Try.func112 (by kernel_rfl) (by kernel_rfl) (by kernel_rfl) rfl rfl (by kernel_rfl) (fun args w => Sem.pv_run _ _ _ (by kernel_rfl) w) (equalf_all N) mixed ⟨equalf_l1_ok N, trivial⟩ (fun z E Xc hE hX hret => trivial) (fun p => equalf_eq N p.1.1 p.1.2.1)

def liker_S (N : Nat) (a : List (List Int)) (b : List (List Int)) : Option Bool :=
  (equalf_S N a b).bind fun x_1 =>
  some x_1
noncomputable def liker_sp (N : Nat) : List Spec := [sp_equalf N]
theorem liker_all (N : Nat) : AllP (SpecOK Try.prog) (liker_sp N) := ⟨sp_equalf_ok N, trivial⟩
noncomputable def liker_c : Code := (Try.f68.body).getD .skip
noncomputable abbrev liker_B : Body := { c := liker_c, n := 8, res := [.tmp 4], outs := [⟨[.b], []⟩], m0 := 0 }
abbrev liker_rt : altD liker_B.outs → Option Bool := fun r => some r.1.1
abbrev liker_st : Sta := ⟨[0, 1], ⟨[.sl (.sl (.int .i64)), .sl (.sl (.int .i64))], []⟩⟩
theorem liker_eq (N : Nat) (a : List (List Int)) (b : List (List Int)) : ev (Z := Bool) Try.prog (liker_sp N) liker_B [] [] (some liker_rt) 400 false [.c [0], .c [1]] (stL liker_st ((a, b, ()), ())) (stH liker_st ((a, b, ()), ())) = liker_S N a b := by kernel_rfl
noncomputable def sp_liker (N : Nat) : Spec := { f := 68, ins := ⟨[.sl (.sl (.int .i64)), .sl (.sl (.int .i64))], []⟩, outs := [⟨[.b], []⟩], run := fun p k => (liker_S N p.1.1 p.1.2.1).bind fun r => k ((r, ()), ()) }
theorem sp_liker_ok (N : Nat) : SpecOK Try.prog (sp_liker N) := fn_sound (B := liker_B) (loops := []) (leaves := []) (fun p => liker_S N p.1.1 p.1.2.1) (fun r => ((r, ()), ())) liker_rt (fun _ _ _ => rfl) (fun r z h => by cases h; rfl) Try.func68 (by kernel_rfl) (by kernel_rfl) (by kernel_rfl) rfl rfl (by kernel_rfl) (fun args w => Sem.pv_run _ _ _ (by kernel_rfl) w) (liker_all N) mixed trivial (fun z E Xc hE hX hret => trivial) (fun p => liker_eq N p.1.1 p.1.2.1)

def same_S (N : Nat) (a : List (List Int)) (a2 : List Int) (a3 : Int) (b : List (List Int)) (b2 : List Int) (b3 : Int) : Option Bool :=
  (liker_S N a b).bind fun x_1 =>
  br x_1
    ((likei_S N a2 b2).bind fun x_2 =>
    br x_2
      (some (decide (a3 = b3)))
      (some false))
    (some false)
noncomputable def same_sp (N : Nat) : List Spec := [sp_likei N, sp_liker N]
theorem same_all (N : Nat) : AllP (SpecOK Try.prog) (same_sp N) := ⟨sp_likei_ok N, sp_liker_ok N, trivial⟩
noncomputable def same_c : Code := (Try.f43.body).getD .skip
noncomputable abbrev same_B : Body := { c := same_c, n := 24, res := [.tmp 4], outs := [⟨[.b], []⟩], m0 := 0 }
abbrev same_rt : altD same_B.outs → Option Bool := fun r => some r.1.1
abbrev same_st : Sta := ⟨[0, 1], ⟨[.agg [.sl (.sl (.int .i64)), .sl (.int .i64), .i .i64], .agg [.sl (.sl (.int .i64)), .sl (.int .i64), .i .i64]], []⟩⟩
theorem same_eq (N : Nat) (a : List (List Int)) (a2 : List Int) (a3 : Int) (b : List (List Int)) (b2 : List Int) (b3 : Int) : ev (Z := Bool) Try.prog (same_sp N) same_B [] [] (some same_rt) 400 false [.c [0], .c [1]] (stL same_st (((a, a2, a3, ()), (b, b2, b3, ()), ()), ())) (stH same_st (((a, a2, a3, ()), (b, b2, b3, ()), ()), ())) = same_S N a a2 a3 b b2 b3 := by kernel_rfl
noncomputable def sp_same (N : Nat) : Spec := { f := 43, ins := ⟨[.agg [.sl (.sl (.int .i64)), .sl (.int .i64), .i .i64], .agg [.sl (.sl (.int .i64)), .sl (.int .i64), .i .i64]], []⟩, outs := [⟨[.b], []⟩], run := fun p k => (same_S N p.1.1.1 p.1.1.2.1 p.1.1.2.2.1 p.1.2.1.1 p.1.2.1.2.1 p.1.2.1.2.2.1).bind fun r => k ((r, ()), ()) }
theorem sp_same_ok (N : Nat) : SpecOK Try.prog (sp_same N) := fn_sound (B := same_B) (loops := []) (leaves := []) (fun p => same_S N p.1.1.1 p.1.1.2.1 p.1.1.2.2.1 p.1.2.1.1 p.1.2.1.2.1 p.1.2.1.2.2.1) (fun r => ((r, ()), ())) same_rt (fun _ _ _ => rfl) (fun r z h => by cases h; rfl) Try.func43 (by kernel_rfl) (by kernel_rfl) (by kernel_rfl) rfl rfl (by kernel_rfl) (fun args w => Sem.pv_run _ _ _ (by kernel_rfl) w) (same_all N) mixed trivial (fun z E Xc hE hX hret => trivial) (fun p => same_eq N p.1.1.1 p.1.1.2.1 p.1.1.2.2.1 p.1.2.1.1 p.1.2.1.2.1 p.1.2.1.2.2.1)

def equalq_l1 (N : Nat) : Nat → (List (Int × Int)) → (List (Int × Int)) → Int → Int → Option ((Unit) ⊕ (Unit))
  | 0, _, _, _, _ => none
  | n_ + 1, s1, s2, u, u2 =>
    br (decide (u2 < u))
      (idx s1 u2 fun x_1 =>
      idx s2 u2 fun x_2 =>
      br (!(decide (x_1.1 = x_2.1) && decide (x_1.2 = x_2.2)))
        (some (.inl ()))
        (chk (u2 + 1) <|
        equalq_l1 N n_ s1 s2 u (u2 + 1)))
      (some (.inr ()))
def equalq_S (N : Nat) (s1 : List (Int × Int)) (s2 : List (Int × Int)) : Option Bool :=
  br (!decide ((s1.length : Int) = (s2.length : Int)))
    (some false)
    ((equalq_l1 N N s1 s2 (s1.length : Int) 0).bind fun e => match e with
    | .inl _ =>
      some false
    | .inr _ =>
      some true)
def likeq_S (N : Nat) (a : List (Int × Int)) (b : List (Int × Int)) : Option Bool :=
  (equalq_S N a b).bind fun x_1 =>
  some x_1
def copyp_S (N : Nat) (l : List (Int × Int)) : Option (List (Int × Int)) :=
  grd (lmI (l.length : Int)) <|
  some (l.take (min l.length (List.replicate (l.length : Int).toNat ((0, 0) : (Int × Int))).length) ++ (List.replicate (l.length : Int).toNat ((0, 0) : (Int × Int))).drop (min l.length (List.replicate (l.length : Int).toNat ((0, 0) : (Int × Int))).length))
def efaults_S (N : Nat) (x : List (List Int)) (x2 : List Int) (x3 : Int) (p : Int) (p2 : Int) (reading : List (Int × Int)) : Option Bool :=
  (great_S N x x2 x3).bind fun x_1 =>
  br x_1
    ((awake_S N).bind fun x_2 =>
    some x_2)
    (br (decide (14 < (reading.length : Int)))
      ((awake_S N).bind fun x_3 =>
      some x_3)
      ((copye_S N x x2 x3).bind fun (x_4, y_5, y_6) =>
      (copyp_S N reading).bind fun x_7 =>
      (faults_S N x_4 y_5 y_6 p p2 x_7).bind fun (x_8, y_9) =>
      (copye_S N x x2 x3).bind fun (x_10, y_11, y_12) =>
      (places_S N reading).bind fun x_13 =>
      (rfaults_S N x_10 y_11 y_12 p p2 x_13).bind fun (x_14, y_15) =>
      br (decide (x_8 = x_14))
        (br (decide (y_9 = y_15))
          ((same_S N x_4 y_5 y_6 x x2 x3).bind fun x_16 =>
          br x_16
            ((likeq_S N x_7 reading).bind fun x_17 =>
            br x_17
              ((awake_S N).bind fun x_18 =>
              some x_18)
              (some false))
            (some false))
          (some false))
        (some false)))
noncomputable abbrev readings_self (self : (List (List Int)) → (List Int) → Int → Int → Int → (List (Int × Int)) → Option (List (List (Int × Int)))) : Spec := { f := 97, ins := ⟨[.agg [.sl (.sl (.int .i64)), .sl (.int .i64), .i .i64], .agg [.i .i64, .i .i64], .sl (.pair (.int .i64) (.int .i64))], []⟩, outs := [⟨[.ols 0], [.lst (.sl (.pair (.int .i64) (.int .i64)))]⟩], run := fun p k => (self p.1.1.1 p.1.1.2.1 p.1.1.2.2.1 p.1.2.1.1 p.1.2.1.2.1 p.1.2.2.1).bind fun r => k (((), ()), (r, ())) }
def readings_l1 (N : Nat) (self : (List (List Int)) → (List Int) → Int → Int → Int → (List (Int × Int)) → Option (List (List (Int × Int)))) : Nat → (List (Int × Int)) → Int → (List (List Int)) → (List Int) → Int → Int → Int → (List (List (Int × Int))) → Option ((List (Int × Int)) × List (List Int) × List Int × Int × Int × Int × (List (List (Int × Int))))
  | 0, _, _, _, _, _, _, _, _ => none
  | n_ + 1, l, k, e, e2, e3, p, p2, out =>
    idx e p fun x_3 =>
    br (decide (k < (x_3.length : Int)))
      (lim (([] : (List (Int × Int))).length + l.length) <|
      lim ((([] : (List (Int × Int))) ++ l).length + [(1, k)].length) <|
      (self e e2 e3 p p2 ((([] : (List (Int × Int))) ++ l) ++ [(1, k)])).bind fun x_4 =>
      lim (out.length + x_4.length) <|
      chk (k + 1) <|
      readings_l1 N self n_ l (k + 1) e e2 e3 p p2 (out ++ x_4))
      (some ((l, e, e2, e3, p, p2, out)))
def readings_l2 (N : Nat) (self : (List (List Int)) → (List Int) → Int → Int → Int → (List (Int × Int)) → Option (List (List (Int × Int)))) : Nat → (List (Int × Int)) → Int → (List (List Int)) → (List Int) → Int → Int → Int → (List (List (Int × Int))) → Option (List (List (Int × Int)))
  | 0, _, _, _, _, _, _, _, _ => none
  | n_ + 1, l, k, e, e2, e3, p, p2, out =>
    idx e p2 fun x_12 =>
    br (decide (k < (x_12.length : Int)))
      (lim (([] : (List (Int × Int))).length + l.length) <|
      lim ((([] : (List (Int × Int))) ++ l).length + [(2, k)].length) <|
      (self e e2 e3 p p2 ((([] : (List (Int × Int))) ++ l) ++ [(2, k)])).bind fun x_13 =>
      lim (out.length + x_13.length) <|
      chk (k + 1) <|
      readings_l2 N self n_ l (k + 1) e e2 e3 p p2 (out ++ x_13))
      (some (out))
def readings_S (N : Nat) (self : (List (List Int)) → (List Int) → Int → Int → Int → (List (Int × Int)) → Option (List (List (Int × Int)))) (e : List (List Int)) (e2 : List Int) (e3 : Int) (p : Int) (p2 : Int) (l : List (Int × Int)) : Option (List (List (Int × Int))) :=
  (fits_S N e e2 e3 p p2 l).bind fun x_1 =>
  br (!x_1)
    (some [])
    (br (decide ((l.length : Int) = (e2.length : Int)))
      (some [l])
      (lim (([] : (List (Int × Int))).length + l.length) <|
      lim ((([] : (List (Int × Int))) ++ l).length + [(3, 0)].length) <|
      (self e e2 e3 p p2 ((([] : (List (Int × Int))) ++ l) ++ [(3, 0)])).bind fun x_2 =>
      (readings_l1 N self N l 0 e e2 e3 p p2 x_2).bind fun (l_5, e_6, e2_7, e3_8, p_9, p2_10, out_11) =>
      (readings_l2 N self N l_5 0 e_6 e2_7 e3_8 p_9 p2_10 out_11).bind fun out_14 =>
      some out_14))
noncomputable def readings_sp (N : Nat) (self : (List (List Int)) → (List Int) → Int → Int → Int → (List (Int × Int)) → Option (List (List (Int × Int)))) : List Spec := [sp_fits N, readings_self self]
theorem readings_all (N : Nat) (self : (List (List Int)) → (List Int) → Int → Int → Int → (List (Int × Int)) → Option (List (List (Int × Int)))) (hself : SpecOK Try.prog (readings_self self)) : AllP (SpecOK Try.prog) (readings_sp N self) := ⟨sp_fits_ok N, hself, trivial⟩
noncomputable def readings_c : Code := (Try.f97.body).getD .skip
noncomputable abbrev readings_B : Body := { c := readings_c, n := 79, res := [.tmp 6], outs := [⟨[.ols 0], [.lst (.sl (.pair (.int .i64) (.int .i64)))]⟩], m0 := 0 }
abbrev readings_rt : altD readings_B.outs → Option (List (List (Int × Int))) := fun r => some r.2.1
abbrev readings_l1_at : List PI := [.c [1, 1, 1, 1, 0, 1, 0, 0, 0, 0], .c [1, 1, 1, 1, 0, 1, 0, 0, 0, 1], .c [1, 1, 1, 1, 0, 1, 0, 0, 1], .l [1, 1, 1, 1, 0, 1, 0, 0], .b 0, .c [1, 1, 1, 1, 1]]
abbrev readings_l1_st : Sta := ⟨[2, 3, 4, 7, 8], ⟨[.sl (.pair (.int .i64) (.int .i64)), .own 0 0, .own 1 0, .ols 2, .i .i64], [.segs [.sl (.sl (.int .i64)), .sl (.int .i64), .i .i64], .segs [.i .i64, .i .i64], .lst (.sl (.pair (.int .i64) (.int .i64)))]⟩⟩
abbrev readings_l1_h (rec : (List (Int × Int)) → Int → (List (List Int)) → (List Int) → Int → Int → Int → (List (List (Int × Int))) → Option ((List (Int × Int)) × List (List Int) × List Int × Int × Int × Int × (List (List (Int × Int))))) : Leaf ((List (Int × Int)) × List (List Int) × List Int × Int × Int × Int × (List (List (Int × Int)))) := ⟨readings_l1_at, readings_l1_st, fun p => rec p.1.1 p.1.2.2.2.2.1 p.2.1.1 p.2.1.2.1 p.2.1.2.2.1 p.2.2.1.1 p.2.2.1.2.1 p.2.2.2.1⟩
abbrev readings_l1_e0 : Leaf ((List (Int × Int)) × List (List Int) × List Int × Int × Int × Int × (List (List (Int × Int)))) := ⟨[.c [1, 1, 1, 1, 1, 0, 0], .c [1, 1, 1, 1, 1, 0, 1], .c [1, 1, 1, 1, 1, 1]], ⟨[2, 3, 4, 7], ⟨[.sl (.pair (.int .i64) (.int .i64)), .own 0 0, .own 1 0, .ols 2], [.segs [.sl (.sl (.int .i64)), .sl (.int .i64), .i .i64], .segs [.i .i64, .i .i64], .lst (.sl (.pair (.int .i64) (.int .i64)))]⟩⟩, fun p => some ((p.1.1, p.2.1.1, p.2.1.2.1, p.2.1.2.2.1, p.2.2.1.1, p.2.2.1.2.1, p.2.2.2.1))⟩
noncomputable def readings_l1_L (N : Nat) (self : (List (List Int)) → (List Int) → Int → Int → Int → (List (Int × Int)) → Option (List (List (Int × Int)))) : LoopS := { at_ := readings_l1_at, sta := readings_l1_st, exits := [([.c [1, 1, 1, 1, 1, 0, 0], .c [1, 1, 1, 1, 1, 0, 1], .c [1, 1, 1, 1, 1, 1]], ⟨[2, 3, 4, 7], ⟨[.sl (.pair (.int .i64) (.int .i64)), .own 0 0, .own 1 0, .ols 2], [.segs [.sl (.sl (.int .i64)), .sl (.int .i64), .i .i64], .segs [.i .i64, .i .i64], .lst (.sl (.pair (.int .i64) (.int .i64)))]⟩⟩)], run := fun p k => (readings_l1 N self N p.1.1 p.1.2.2.2.2.1 p.2.1.1 p.2.1.2.1 p.2.1.2.2.1 p.2.2.1.1 p.2.2.1.2.1 p.2.2.2.1).bind fun e => k (.inl ((e.1, (), (), (), ()), ((e.2.1, e.2.2.1, e.2.2.2.1, ()), (e.2.2.2.2.1, e.2.2.2.2.2.1, ()), e.2.2.2.2.2.2, ()))) }
theorem readings_l1_eq (N : Nat) (self : (List (List Int)) → (List Int) → Int → Int → Int → (List (Int × Int)) → Option (List (List (Int × Int)))) (n_ : Nat) (l : List (Int × Int)) (k : Int) (e : List (List Int)) (e2 : List Int) (e3 : Int) (p : Int) (p2 : Int) (out : List (List (Int × Int))) : ev (Z := (List (Int × Int)) × List (List Int) × List Int × Int × Int × Int × (List (List (Int × Int)))) Try.prog (readings_sp N self) readings_B [] [readings_l1_h (readings_l1 N self n_), readings_l1_e0] none 400 true readings_l1_at (stL readings_l1_st ((l, (), (), (), k, ()), ((e, e2, e3, ()), (p, p2, ()), out, ()))) (stH readings_l1_st ((l, (), (), (), k, ()), ((e, e2, e3, ()), (p, p2, ()), out, ()))) = readings_l1 N self (n_ + 1) l k e e2 e3 p p2 out := by kernel_rfl
theorem readings_l1_ok (N : Nat) (self : (List (List Int)) → (List Int) → Int → Int → Int → (List (Int × Int)) → Option (List (List (Int × Int)))) (hself : SpecOK Try.prog (readings_self self)) {top : Bool} : LoopOK Try.prog readings_B.c readings_B.n readings_B.m0 top (readings_l1_L N self) := loop_of_ev (Z := (List (Int × Int)) × List (List Int) × List Int × Int × Int × Int × (List (List (Int × Int)))) (N := N) (fun m p => readings_l1 N self m p.1.1 p.1.2.2.2.2.1 p.2.1.1 p.2.1.2.1 p.2.1.2.2.1 p.2.2.1.1 p.2.2.1.2.1 p.2.2.2.1) (fun e => .inl ((e.1, (), (), (), ()), ((e.2.1, e.2.2.1, e.2.2.2.1, ()), (e.2.2.2.2.1, e.2.2.2.2.2.1, ()), e.2.2.2.2.2.2, ()))) (fun _ _ _ => rfl) (fun _ => rfl) (fun m z E Xc hE hX hrec hx => leaf_of_ev (B := readings_B) (loops := []) (leaves := [readings_l1_h (readings_l1 N self m), readings_l1_e0]) (readings_all N self hself) mixed trivial hE hX ⟨hrec, (fun p hp => by obtain rfl := Option.some.inj hp; exact hx), trivial⟩ RetOK.no (fun p => readings_l1_eq N self m p.1.1 p.1.2.2.2.2.1 p.2.1.1 p.2.1.2.1 p.2.1.2.2.1 p.2.2.1.1 p.2.2.1.2.1 p.2.2.2.1))
abbrev readings_l2_at : List PI := [.c [1, 1, 1, 1, 1, 0, 1, 0, 0, 0, 0], .c [1, 1, 1, 1, 1, 0, 1, 0, 0, 0, 1], .c [1, 1, 1, 1, 1, 0, 1, 0, 0, 1], .l [1, 1, 1, 1, 1, 0, 1, 0, 0], .b 2, .c [1, 1, 1, 1, 1, 1]]
abbrev readings_l2_st : Sta := ⟨[2, 3, 4, 7, 9], ⟨[.sl (.pair (.int .i64) (.int .i64)), .own 0 0, .own 1 0, .ols 2, .i .i64], [.segs [.sl (.sl (.int .i64)), .sl (.int .i64), .i .i64], .segs [.i .i64, .i .i64], .lst (.sl (.pair (.int .i64) (.int .i64)))]⟩⟩
abbrev readings_l2_h (rec : (List (Int × Int)) → Int → (List (List Int)) → (List Int) → Int → Int → Int → (List (List (Int × Int))) → Option (List (List (Int × Int)))) : Leaf (List (List (Int × Int))) := ⟨readings_l2_at, readings_l2_st, fun p => rec p.1.1 p.1.2.2.2.2.1 p.2.1.1 p.2.1.2.1 p.2.1.2.2.1 p.2.2.1.1 p.2.2.1.2.1 p.2.2.2.1⟩
abbrev readings_l2_e0 : Leaf (List (List (Int × Int))) := ⟨[.c [1, 1, 1, 1, 1, 1, 0], .c [1, 1, 1, 1, 1, 1, 1]], ⟨[7], ⟨[.ols 0], [.lst (.sl (.pair (.int .i64) (.int .i64)))]⟩⟩, fun p => some (p.2.1)⟩
noncomputable def readings_l2_L (N : Nat) (self : (List (List Int)) → (List Int) → Int → Int → Int → (List (Int × Int)) → Option (List (List (Int × Int)))) : LoopS := { at_ := readings_l2_at, sta := readings_l2_st, exits := [([.c [1, 1, 1, 1, 1, 1, 0], .c [1, 1, 1, 1, 1, 1, 1]], ⟨[7], ⟨[.ols 0], [.lst (.sl (.pair (.int .i64) (.int .i64)))]⟩⟩)], run := fun p k => (readings_l2 N self N p.1.1 p.1.2.2.2.2.1 p.2.1.1 p.2.1.2.1 p.2.1.2.2.1 p.2.2.1.1 p.2.2.1.2.1 p.2.2.2.1).bind fun e => k (.inl (((), ()), (e, ()))) }
theorem readings_l2_eq (N : Nat) (self : (List (List Int)) → (List Int) → Int → Int → Int → (List (Int × Int)) → Option (List (List (Int × Int)))) (n_ : Nat) (l : List (Int × Int)) (k : Int) (e : List (List Int)) (e2 : List Int) (e3 : Int) (p : Int) (p2 : Int) (out : List (List (Int × Int))) : ev (Z := (List (List (Int × Int)))) Try.prog (readings_sp N self) readings_B [readings_l1_L N self] [readings_l2_h (readings_l2 N self n_), readings_l2_e0] none 400 true readings_l2_at (stL readings_l2_st ((l, (), (), (), k, ()), ((e, e2, e3, ()), (p, p2, ()), out, ()))) (stH readings_l2_st ((l, (), (), (), k, ()), ((e, e2, e3, ()), (p, p2, ()), out, ()))) = readings_l2 N self (n_ + 1) l k e e2 e3 p p2 out := by kernel_rfl
theorem readings_l2_ok (N : Nat) (self : (List (List Int)) → (List Int) → Int → Int → Int → (List (Int × Int)) → Option (List (List (Int × Int)))) (hself : SpecOK Try.prog (readings_self self)) {top : Bool} : LoopOK Try.prog readings_B.c readings_B.n readings_B.m0 top (readings_l2_L N self) := loop_of_ev (Z := (List (List (Int × Int)))) (N := N) (fun m p => readings_l2 N self m p.1.1 p.1.2.2.2.2.1 p.2.1.1 p.2.1.2.1 p.2.1.2.2.1 p.2.2.1.1 p.2.2.1.2.1 p.2.2.2.1) (fun e => .inl (((), ()), (e, ()))) (fun _ _ _ => rfl) (fun _ => rfl) (fun m z E Xc hE hX hrec hx => leaf_of_ev (B := readings_B) (loops := [readings_l1_L N self]) (leaves := [readings_l2_h (readings_l2 N self m), readings_l2_e0]) (readings_all N self hself) mixed ⟨readings_l1_ok N self hself, trivial⟩ hE hX ⟨hrec, (fun p hp => by obtain rfl := Option.some.inj hp; exact hx), trivial⟩ RetOK.no (fun p => readings_l2_eq N self m p.1.1 p.1.2.2.2.2.1 p.2.1.1 p.2.1.2.1 p.2.1.2.2.1 p.2.2.1.1 p.2.2.1.2.1 p.2.2.2.1))
abbrev readings_st : Sta := ⟨[0, 1, 2], ⟨[.agg [.sl (.sl (.int .i64)), .sl (.int .i64), .i .i64], .agg [.i .i64, .i .i64], .sl (.pair (.int .i64) (.int .i64))], []⟩⟩
theorem readings_eq (N : Nat) (self : (List (List Int)) → (List Int) → Int → Int → Int → (List (Int × Int)) → Option (List (List (Int × Int)))) (e : List (List Int)) (e2 : List Int) (e3 : Int) (p : Int) (p2 : Int) (l : List (Int × Int)) : ev (Z := (List (List (Int × Int)))) Try.prog (readings_sp N self) readings_B [readings_l1_L N self, readings_l2_L N self] [] (some readings_rt) 400 false [.c [0], .c [1]] (stL readings_st (((e, e2, e3, ()), (p, p2, ()), l, ()), ())) (stH readings_st (((e, e2, e3, ()), (p, p2, ()), l, ()), ())) = readings_S N self e e2 e3 p p2 l := by kernel_rfl
theorem readings_self_ok (N : Nat) (self : (List (List Int)) → (List Int) → Int → Int → Int → (List (Int × Int)) → Option (List (List (Int × Int)))) (hself : SpecOK Try.prog (readings_self self)) : SpecOK Try.prog (readings_self (readings_S N self)) := fn_sound (B := readings_B) (loops := [readings_l1_L N self, readings_l2_L N self]) (leaves := []) (fun p => readings_S N self p.1.1.1 p.1.1.2.1 p.1.1.2.2.1 p.1.2.1.1 p.1.2.1.2.1 p.1.2.2.1) (fun r => (((), ()), (r, ()))) readings_rt (fun _ _ _ => rfl) (fun r z h => by cases h; rfl) Try.func97 (by kernel_rfl) (by kernel_rfl) (by kernel_rfl) rfl rfl (by kernel_rfl) (fun args w => Sem.pv_run _ _ _ (by kernel_rfl) w) (readings_all N self hself) mixed ⟨readings_l1_ok N self hself, readings_l2_ok N self hself, trivial⟩ (fun z E Xc hE hX hret => trivial) (fun p => readings_eq N self p.1.1.1 p.1.1.2.1 p.1.1.2.2.1 p.1.2.1.1 p.1.2.1.2.1 p.1.2.2.1)
def readings_R (N : Nat) : Nat → (List (List Int)) → (List Int) → Int → Int → Int → (List (Int × Int)) → Option (List (List (Int × Int)))
  | 0 => fun _ _ _ _ _ _ => none
  | n + 1 => readings_S N (readings_R N n)
theorem readings_R_ok (N : Nat) : ∀ n, SpecOK Try.prog (readings_self (readings_R N n))
  | 0 => SpecOK.none (fun _ _ _ => rfl) (fun args w => Sem.pv_run _ _ _ (by kernel_rfl) w)
  | n + 1 => readings_self_ok N (readings_R N n) (readings_R_ok N n)
noncomputable abbrev sp_readings (N : Nat) : Spec := readings_self (readings_R N N)
theorem sp_readings_ok (N : Nat) : SpecOK Try.prog (sp_readings N) := readings_R_ok N N

def best_l1 (N : Nat) : Nat → Int → Int → (List (List Int)) → (List Int) → Int → Int → Int → (List (List (Int × Int))) → Option (Int × List (List Int) × List Int × Int × Int × Int × (List (List (Int × Int))))
  | 0, _, _, _, _, _, _, _, _ => none
  | n_ + 1, least, i, e, e2, e3, p, p2, all =>
    br (decide (i < (all.length : Int)))
      (rng i all.length <|
      get all i.toNat fun x_2 =>
      (faulty_S N e e2 e3 p p2 x_2).bind fun x_3 =>
      chk (i + 1) <|
      best_l1 N n_ (min least x_3) (i + 1) e e2 e3 p p2 all)
      (some ((least, e, e2, e3, p, p2, all)))
def best_j1 (N : Nat) (rec : Int → Int → (List (List Int)) → (List Int) → Int → Int → Int → (List (List (Int × Int))) → (List (List (Int × Int))) → Option (Int × (List (List (Int × Int))))) (least : Int) (i : Int) (e : List (List Int)) (e2 : List Int) (e3 : Int) (p : Int) (p2 : Int) (all : List (List (Int × Int))) (out : List (List (Int × Int))) : Option (Int × (List (List (Int × Int)))) :=
  chk (i + 1) <|
  rec least (i + 1) e e2 e3 p p2 all out
def best_l2 (N : Nat) : Nat → Int → Int → (List (List Int)) → (List Int) → Int → Int → Int → (List (List (Int × Int))) → (List (List (Int × Int))) → Option (Int × (List (List (Int × Int))))
  | 0, _, _, _, _, _, _, _, _, _ => none
  | n_ + 1, least, i, e, e2, e3, p, p2, all, out =>
    br (decide (i < (all.length : Int)))
      (rng i all.length <|
      get all i.toNat fun x_11 =>
      (faulty_S N e e2 e3 p p2 x_11).bind fun x_12 =>
      br (decide (x_12 = least))
        (rng i all.length <|
        get all i.toNat fun x_13 =>
        lim (out.length + [x_13].length) <|
        best_j1 N (best_l2 N n_) least i e e2 e3 p p2 all (out ++ [x_13]))
        (best_j1 N (best_l2 N n_) least i e e2 e3 p p2 all out))
      (some ((least, out)))
def best_S (N : Nat) (e : List (List Int)) (e2 : List Int) (e3 : Int) (p : Int) (p2 : Int) : Option ((List (List (Int × Int))) × Int) :=
  (readings_R N N e e2 e3 p p2 []).bind fun x_1 =>
  (best_l1 N N 99 0 e e2 e3 p p2 x_1).bind fun (least_4, e_5, e2_6, e3_7, p_8, p2_9, all_10) =>
  (best_l2 N N least_4 0 e_5 e2_6 e3_7 p_8 p2_9 all_10 []).bind fun (least_14, out_15) =>
  some (out_15, least_14)
noncomputable def best_sp (N : Nat) : List Spec := [sp_faulty N, sp_readings N]
theorem best_all (N : Nat) : AllP (SpecOK Try.prog) (best_sp N) := ⟨sp_faulty_ok N, sp_readings_ok N, trivial⟩
noncomputable def best_c : Code := (Try.f44.body).getD .skip
noncomputable abbrev best_B : Body := { c := best_c, n := 53, res := [.tmp 4, .tmp 5], outs := [⟨[.sl (.sl (.pair (.int .i64) (.int .i64))), .i .i64], []⟩], m0 := 0 }
abbrev best_rt : altD best_B.outs → Option ((List (List (Int × Int))) × Int) := fun r => some (r.1.1, r.1.2.1)
abbrev best_l1_at : List PI := [.c [1, 1, 1, 0, 1, 0, 0, 0, 0], .c [1, 1, 1, 0, 1, 0, 0, 0, 1], .c [1, 1, 1, 0, 1, 0, 0, 1], .l [1, 1, 1, 0, 1, 0, 0], .b 0, .c [1, 1, 1, 1]]
abbrev best_l1_st : Sta := ⟨[2, 3, 6, 7, 8], ⟨[.own 0 0, .own 1 0, .ols 2, .i .i64, .i .i64], [.segs [.sl (.sl (.int .i64)), .sl (.int .i64), .i .i64], .segs [.i .i64, .i .i64], .lst (.sl (.pair (.int .i64) (.int .i64)))]⟩⟩
abbrev best_l1_h (rec : Int → Int → (List (List Int)) → (List Int) → Int → Int → Int → (List (List (Int × Int))) → Option (Int × List (List Int) × List Int × Int × Int × Int × (List (List (Int × Int))))) : Leaf (Int × List (List Int) × List Int × Int × Int × Int × (List (List (Int × Int)))) := ⟨best_l1_at, best_l1_st, fun p => rec p.1.2.2.2.1 p.1.2.2.2.2.1 p.2.1.1 p.2.1.2.1 p.2.1.2.2.1 p.2.2.1.1 p.2.2.1.2.1 p.2.2.2.1⟩
abbrev best_l1_e0 : Leaf (Int × List (List Int) × List Int × Int × Int × Int × (List (List (Int × Int)))) := ⟨[.c [1, 1, 1, 1, 0], .c [1, 1, 1, 1, 1]], ⟨[2, 3, 6, 7], ⟨[.own 0 0, .own 1 0, .ols 2, .i .i64], [.segs [.sl (.sl (.int .i64)), .sl (.int .i64), .i .i64], .segs [.i .i64, .i .i64], .lst (.sl (.pair (.int .i64) (.int .i64)))]⟩⟩, fun p => some ((p.1.2.2.2.1, p.2.1.1, p.2.1.2.1, p.2.1.2.2.1, p.2.2.1.1, p.2.2.1.2.1, p.2.2.2.1))⟩
noncomputable def best_l1_L (N : Nat) : LoopS := { at_ := best_l1_at, sta := best_l1_st, exits := [([.c [1, 1, 1, 1, 0], .c [1, 1, 1, 1, 1]], ⟨[2, 3, 6, 7], ⟨[.own 0 0, .own 1 0, .ols 2, .i .i64], [.segs [.sl (.sl (.int .i64)), .sl (.int .i64), .i .i64], .segs [.i .i64, .i .i64], .lst (.sl (.pair (.int .i64) (.int .i64)))]⟩⟩)], run := fun p k => (best_l1 N N p.1.2.2.2.1 p.1.2.2.2.2.1 p.2.1.1 p.2.1.2.1 p.2.1.2.2.1 p.2.2.1.1 p.2.2.1.2.1 p.2.2.2.1).bind fun e => k (.inl (((), (), (), e.1, ()), ((e.2.1, e.2.2.1, e.2.2.2.1, ()), (e.2.2.2.2.1, e.2.2.2.2.2.1, ()), e.2.2.2.2.2.2, ()))) }
theorem best_l1_eq (N n_ : Nat) (least : Int) (i : Int) (e : List (List Int)) (e2 : List Int) (e3 : Int) (p : Int) (p2 : Int) (all : List (List (Int × Int))) : ev (Z := Int × List (List Int) × List Int × Int × Int × Int × (List (List (Int × Int)))) Try.prog (best_sp N) best_B [] [best_l1_h (best_l1 N n_), best_l1_e0] none 400 true best_l1_at (stL best_l1_st (((), (), (), least, i, ()), ((e, e2, e3, ()), (p, p2, ()), all, ()))) (stH best_l1_st (((), (), (), least, i, ()), ((e, e2, e3, ()), (p, p2, ()), all, ()))) = best_l1 N (n_ + 1) least i e e2 e3 p p2 all := by kernel_rfl
theorem best_l1_ok (N : Nat) {top : Bool} : LoopOK Try.prog best_B.c best_B.n best_B.m0 top (best_l1_L N) := loop_of_ev (Z := Int × List (List Int) × List Int × Int × Int × Int × (List (List (Int × Int)))) (N := N) (fun m p => best_l1 N m p.1.2.2.2.1 p.1.2.2.2.2.1 p.2.1.1 p.2.1.2.1 p.2.1.2.2.1 p.2.2.1.1 p.2.2.1.2.1 p.2.2.2.1) (fun e => .inl (((), (), (), e.1, ()), ((e.2.1, e.2.2.1, e.2.2.2.1, ()), (e.2.2.2.2.1, e.2.2.2.2.2.1, ()), e.2.2.2.2.2.2, ()))) (fun _ _ _ => rfl) (fun _ => rfl) (fun m z E Xc hE hX hrec hx => leaf_of_ev (B := best_B) (loops := []) (leaves := [best_l1_h (best_l1 N m), best_l1_e0]) (best_all N) mixed trivial hE hX ⟨hrec, (fun p hp => by obtain rfl := Option.some.inj hp; exact hx), trivial⟩ RetOK.no (fun p => best_l1_eq N m p.1.2.2.2.1 p.1.2.2.2.2.1 p.2.1.1 p.2.1.2.1 p.2.1.2.2.1 p.2.2.1.1 p.2.2.1.2.1 p.2.2.2.1))
abbrev best_l2_at : List PI := [.c [1, 1, 1, 1, 1, 0, 1, 0, 0, 0, 0], .c [1, 1, 1, 1, 1, 0, 1, 0, 0, 0, 1], .c [1, 1, 1, 1, 1, 0, 1, 0, 0, 1], .l [1, 1, 1, 1, 1, 0, 1, 0, 0], .b 2, .c [1, 1, 1, 1, 1, 1]]
abbrev best_l2_st : Sta := ⟨[2, 3, 6, 7, 9, 10], ⟨[.own 0 0, .own 1 0, .ols 2, .i .i64, .ols 3, .i .i64], [.segs [.sl (.sl (.int .i64)), .sl (.int .i64), .i .i64], .segs [.i .i64, .i .i64], .lst (.sl (.pair (.int .i64) (.int .i64))), .lst (.sl (.pair (.int .i64) (.int .i64)))]⟩⟩
abbrev best_l2_h (rec : Int → Int → (List (List Int)) → (List Int) → Int → Int → Int → (List (List (Int × Int))) → (List (List (Int × Int))) → Option (Int × (List (List (Int × Int))))) : Leaf (Int × (List (List (Int × Int)))) := ⟨best_l2_at, best_l2_st, fun p => rec p.1.2.2.2.1 p.1.2.2.2.2.2.1 p.2.1.1 p.2.1.2.1 p.2.1.2.2.1 p.2.2.1.1 p.2.2.1.2.1 p.2.2.2.1 p.2.2.2.2.1⟩
abbrev best_l2_e0 : Leaf (Int × (List (List (Int × Int)))) := ⟨[.c [1, 1, 1, 1, 1, 1, 0], .c [1, 1, 1, 1, 1, 1, 1]], ⟨[7, 9], ⟨[.i .i64, .ols 0], [.lst (.sl (.pair (.int .i64) (.int .i64)))]⟩⟩, fun p => some ((p.1.1, p.2.1))⟩
abbrev best_j1_at : List PI := [.c [1, 1, 1, 1, 1, 0, 1, 0, 0, 1, 1], .l [1, 1, 1, 1, 1, 0, 1, 0, 0], .b 2, .c [1, 1, 1, 1, 1, 1]]
abbrev best_j1_st : Sta := ⟨[2, 3, 6, 7, 9, 10], ⟨[.own 0 0, .own 1 0, .ols 2, .i .i64, .ols 3, .i .i64], [.segs [.sl (.sl (.int .i64)), .sl (.int .i64), .i .i64], .segs [.i .i64, .i .i64], .lst (.sl (.pair (.int .i64) (.int .i64))), .lst (.sl (.pair (.int .i64) (.int .i64)))]⟩⟩
abbrev best_j1_k (N : Nat) (rec : Int → Int → (List (List Int)) → (List Int) → Int → Int → Int → (List (List (Int × Int))) → (List (List (Int × Int))) → Option (Int × (List (List (Int × Int))))) : Leaf (Int × (List (List (Int × Int)))) := ⟨best_j1_at, best_j1_st, fun p => best_j1 N rec p.1.2.2.2.1 p.1.2.2.2.2.2.1 p.2.1.1 p.2.1.2.1 p.2.1.2.2.1 p.2.2.1.1 p.2.2.1.2.1 p.2.2.2.1 p.2.2.2.2.1⟩
theorem best_j1_eq (N : Nat) (rec : Int → Int → (List (List Int)) → (List Int) → Int → Int → Int → (List (List (Int × Int))) → (List (List (Int × Int))) → Option (Int × (List (List (Int × Int))))) (least : Int) (i : Int) (e : List (List Int)) (e2 : List Int) (e3 : Int) (p : Int) (p2 : Int) (all : List (List (Int × Int))) (out : List (List (Int × Int))) : ev (Z := Int × (List (List (Int × Int)))) Try.prog (best_sp N) best_B [best_l1_L N] [best_l2_h rec, best_l2_e0] none 400 true best_j1_at (stL best_j1_st (((), (), (), least, (), i, ()), ((e, e2, e3, ()), (p, p2, ()), all, out, ()))) (stH best_j1_st (((), (), (), least, (), i, ()), ((e, e2, e3, ()), (p, p2, ()), all, out, ()))) = best_j1 N rec least i e e2 e3 p p2 all out := by kernel_rfl
theorem best_j1_lf (N : Nat) (rec : Int → Int → (List (List Int)) → (List Int) → Int → Int → Int → (List (List (Int × Int))) → (List (List (Int × Int))) → Option (Int × (List (List (Int × Int))))) {z : Int × (List (List (Int × Int)))} {top : Bool} {E : EE} {Xc : Ctx} (hE : EOK best_B.m0 E) (hX : CxOK top Xc) (hrec : LeafOK Try.prog best_B.c best_B.n best_B.m0 E Xc z (best_l2_h rec)) (h0 : LeafOK Try.prog best_B.c best_B.n best_B.m0 E Xc z best_l2_e0) : LeafOK Try.prog best_B.c best_B.n best_B.m0 E Xc z (best_j1_k N rec) := leaf_of_ev (B := best_B) (loops := [best_l1_L N]) (leaves := [best_l2_h rec, best_l2_e0]) (best_all N) mixed ⟨best_l1_ok N, trivial⟩ hE hX ⟨hrec, h0, trivial⟩ RetOK.no (fun p => best_j1_eq N rec p.1.2.2.2.1 p.1.2.2.2.2.2.1 p.2.1.1 p.2.1.2.1 p.2.1.2.2.1 p.2.2.1.1 p.2.2.1.2.1 p.2.2.2.1 p.2.2.2.2.1)
noncomputable def best_l2_L (N : Nat) : LoopS := { at_ := best_l2_at, sta := best_l2_st, exits := [([.c [1, 1, 1, 1, 1, 1, 0], .c [1, 1, 1, 1, 1, 1, 1]], ⟨[7, 9], ⟨[.i .i64, .ols 0], [.lst (.sl (.pair (.int .i64) (.int .i64)))]⟩⟩)], run := fun p k => (best_l2 N N p.1.2.2.2.1 p.1.2.2.2.2.2.1 p.2.1.1 p.2.1.2.1 p.2.1.2.2.1 p.2.2.1.1 p.2.2.1.2.1 p.2.2.2.1 p.2.2.2.2.1).bind fun e => k (.inl ((e.1, (), ()), (e.2, ()))) }
theorem best_l2_eq (N n_ : Nat) (least : Int) (i : Int) (e : List (List Int)) (e2 : List Int) (e3 : Int) (p : Int) (p2 : Int) (all : List (List (Int × Int))) (out : List (List (Int × Int))) : ev (Z := Int × (List (List (Int × Int)))) Try.prog (best_sp N) best_B [best_l1_L N] [best_l2_h (best_l2 N n_), best_l2_e0, best_j1_k N (best_l2 N n_)] none 400 true best_l2_at (stL best_l2_st (((), (), (), least, (), i, ()), ((e, e2, e3, ()), (p, p2, ()), all, out, ()))) (stH best_l2_st (((), (), (), least, (), i, ()), ((e, e2, e3, ()), (p, p2, ()), all, out, ()))) = best_l2 N (n_ + 1) least i e e2 e3 p p2 all out := by kernel_rfl
theorem best_l2_ok (N : Nat) {top : Bool} : LoopOK Try.prog best_B.c best_B.n best_B.m0 top (best_l2_L N) := loop_of_ev (Z := Int × (List (List (Int × Int)))) (N := N) (fun m p => best_l2 N m p.1.2.2.2.1 p.1.2.2.2.2.2.1 p.2.1.1 p.2.1.2.1 p.2.1.2.2.1 p.2.2.1.1 p.2.2.1.2.1 p.2.2.2.1 p.2.2.2.2.1) (fun e => .inl ((e.1, (), ()), (e.2, ()))) (fun _ _ _ => rfl) (fun _ => rfl) (fun m z E Xc hE hX hrec hx => leaf_of_ev (B := best_B) (loops := [best_l1_L N]) (leaves := [best_l2_h (best_l2 N m), best_l2_e0, best_j1_k N (best_l2 N m)]) (best_all N) mixed ⟨best_l1_ok N, trivial⟩ hE hX ⟨hrec, (fun p hp => by obtain rfl := Option.some.inj hp; exact hx), best_j1_lf N _ hE hX hrec (fun p hp => by obtain rfl := Option.some.inj hp; exact hx), trivial⟩ RetOK.no (fun p => best_l2_eq N m p.1.2.2.2.1 p.1.2.2.2.2.2.1 p.2.1.1 p.2.1.2.1 p.2.1.2.2.1 p.2.2.1.1 p.2.2.1.2.1 p.2.2.2.1 p.2.2.2.2.1))
abbrev best_st : Sta := ⟨[0, 1], ⟨[.agg [.sl (.sl (.int .i64)), .sl (.int .i64), .i .i64], .agg [.i .i64, .i .i64]], []⟩⟩
theorem best_eq (N : Nat) (e : List (List Int)) (e2 : List Int) (e3 : Int) (p : Int) (p2 : Int) : ev (Z := (List (List (Int × Int))) × Int) Try.prog (best_sp N) best_B [best_l1_L N, best_l2_L N] [] (some best_rt) 400 false [.c [0], .c [1]] (stL best_st (((e, e2, e3, ()), (p, p2, ()), ()), ())) (stH best_st (((e, e2, e3, ()), (p, p2, ()), ()), ())) = best_S N e e2 e3 p p2 := by kernel_rfl
noncomputable def sp_best (N : Nat) : Spec := { f := 44, ins := ⟨[.agg [.sl (.sl (.int .i64)), .sl (.int .i64), .i .i64], .agg [.i .i64, .i .i64]], []⟩, outs := [⟨[.sl (.sl (.pair (.int .i64) (.int .i64))), .i .i64], []⟩], run := fun p k => (best_S N p.1.1.1 p.1.1.2.1 p.1.1.2.2.1 p.1.2.1.1 p.1.2.1.2.1).bind fun r => k ((r.1, r.2, ()), ()) }
theorem sp_best_ok (N : Nat) : SpecOK Try.prog (sp_best N) := fn_sound (B := best_B) (loops := [best_l1_L N, best_l2_L N]) (leaves := []) (fun p => best_S N p.1.1.1 p.1.1.2.1 p.1.1.2.2.1 p.1.2.1.1 p.1.2.1.2.1) (fun r => ((r.1, r.2, ()), ())) best_rt (fun _ _ _ => rfl) (fun r z h => by cases h; rfl) Try.func44 (by kernel_rfl) (by kernel_rfl) (by kernel_rfl) rfl rfl (by kernel_rfl) (fun args w => Sem.pv_run _ _ _ (by kernel_rfl) w) (best_all N) mixed ⟨best_l1_ok N, best_l2_ok N, trivial⟩ (fun z E Xc hE hX hret => trivial) (fun p => best_eq N p.1.1.1 p.1.1.2.1 p.1.1.2.2.1 p.1.2.1.1 p.1.2.1.2.1)

def rpairs_j1 (N : Nat) (rec : Int → Int → (List (List Int)) → (List Int) → Int → (List (Int × Int)) → Option (Int × List (List Int) × List Int × Int × (List (Int × Int)))) (a : Int) (b : Int) (e : List (List Int)) (e2 : List Int) (e3 : Int) (out : List (Int × Int)) : Option (Int × List (List Int) × List Int × Int × (List (Int × Int))) :=
  chk (b + 1) <|
  rec a (b + 1) e e2 e3 out
def rpairs_l2 (N : Nat) : Nat → Int → Int → (List (List Int)) → (List Int) → Int → (List (Int × Int)) → Option (Int × List (List Int) × List Int × Int × (List (Int × Int)))
  | 0, _, _, _, _, _, _ => none
  | n_ + 1, a, b, e, e2, e3, out =>
    br (decide (b < (e.length : Int)))
      ((best_S N e e2 e3 a b).bind fun (x_2, y_3) =>
      br (decide (y_3 ≤ e3))
        (lim (out.length + [(a, b)].length) <|
        rpairs_j1 N (rpairs_l2 N n_) a b e e2 e3 (out ++ [(a, b)]))
        (rpairs_j1 N (rpairs_l2 N n_) a b e e2 e3 out))
      (some ((a, e, e2, e3, out)))
def rpairs_l1 (N : Nat) : Nat → Int → (List (List Int)) → (List Int) → Int → (List (Int × Int)) → Option (List (Int × Int))
  | 0, _, _, _, _, _ => none
  | n_ + 1, a, e, e2, e3, out =>
    br (decide (a < (e.length : Int)))
      ((rpairs_l2 N N a a e e2 e3 out).bind fun (a_4, e_5, e2_6, e3_7, out_8) =>
      chk (a_4 + 1) <|
      rpairs_l1 N n_ (a_4 + 1) e_5 e2_6 e3_7 out_8)
      (some (out))
def rpairs_S (N : Nat) (e : List (List Int)) (e2 : List Int) (e3 : Int) : Option ((List (Int × Int)) × Int) :=
  (rcheck_S N e e2 e3).bind fun x_1 =>
  br (!decide (x_1 = 0))
    (some ([], x_1))
    ((rpairs_l1 N N 0 e e2 e3 []).bind fun out_9 =>
    some (out_9, 0))
noncomputable def rpairs_sp (N : Nat) : List Spec := [sp_rcheck N, sp_best N]
theorem rpairs_all (N : Nat) : AllP (SpecOK Try.prog) (rpairs_sp N) := ⟨sp_rcheck_ok N, sp_best_ok N, trivial⟩
noncomputable def rpairs_c : Code := (Try.f59.body).getD .skip
noncomputable abbrev rpairs_B : Body := { c := rpairs_c, n := 49, res := [.tmp 2, .tmp 3], outs := [⟨[.sl (.pair (.int .i64) (.int .i64)), .i .i64], []⟩], m0 := 0 }
abbrev rpairs_rt : altD rpairs_B.outs → Option ((List (Int × Int)) × Int) := fun r => some (r.1.1, r.1.2.1)
abbrev rpairs_l2_at : List PI := [.c [1, 1, 1, 0, 1, 0, 0, 1, 0, 0, 1, 0, 0, 0, 0], .c [1, 1, 1, 0, 1, 0, 0, 1, 0, 0, 1, 0, 0, 0, 1], .c [1, 1, 1, 0, 1, 0, 0, 1, 0, 0, 1, 0, 0, 1], .l [1, 1, 1, 0, 1, 0, 0, 1, 0, 0, 1, 0, 0], .b 2, .b 1, .c [1, 1, 1, 0, 1, 0, 0, 1, 1], .l [1, 1, 1, 0, 1, 0, 0], .b 0, .c [1, 1, 1, 1]]
abbrev rpairs_l2_st : Sta := ⟨[1, 5, 6, 7], ⟨[.own 0 0, .ols 1, .i .i64, .i .i64], [.segs [.sl (.sl (.int .i64)), .sl (.int .i64), .i .i64], .lst (.pair (.int .i64) (.int .i64))]⟩⟩
abbrev rpairs_l2_h (rec : Int → Int → (List (List Int)) → (List Int) → Int → (List (Int × Int)) → Option (Int × List (List Int) × List Int × Int × (List (Int × Int)))) : Leaf (Int × List (List Int) × List Int × Int × (List (Int × Int))) := ⟨rpairs_l2_at, rpairs_l2_st, fun p => rec p.1.2.2.1 p.1.2.2.2.1 p.2.1.1 p.2.1.2.1 p.2.1.2.2.1 p.2.2.1⟩
abbrev rpairs_l2_e0 : Leaf (Int × List (List Int) × List Int × Int × (List (Int × Int))) := ⟨[.c [1, 1, 1, 0, 1, 0, 0, 1, 1], .l [1, 1, 1, 0, 1, 0, 0], .b 0, .c [1, 1, 1, 1]], ⟨[1, 5, 6], ⟨[.own 0 0, .ols 1, .i .i64], [.segs [.sl (.sl (.int .i64)), .sl (.int .i64), .i .i64], .lst (.pair (.int .i64) (.int .i64))]⟩⟩, fun p => some ((p.1.2.2.1, p.2.1.1, p.2.1.2.1, p.2.1.2.2.1, p.2.2.1))⟩
abbrev rpairs_j1_at : List PI := [.c [1, 1, 1, 0, 1, 0, 0, 1, 0, 0, 1, 0, 0, 1, 1], .l [1, 1, 1, 0, 1, 0, 0, 1, 0, 0, 1, 0, 0], .b 2, .b 1, .c [1, 1, 1, 0, 1, 0, 0, 1, 1], .l [1, 1, 1, 0, 1, 0, 0], .b 0, .c [1, 1, 1, 1]]
abbrev rpairs_j1_st : Sta := ⟨[1, 5, 6, 7], ⟨[.own 0 0, .ols 1, .i .i64, .i .i64], [.segs [.sl (.sl (.int .i64)), .sl (.int .i64), .i .i64], .lst (.pair (.int .i64) (.int .i64))]⟩⟩
abbrev rpairs_j1_k (N : Nat) (rec : Int → Int → (List (List Int)) → (List Int) → Int → (List (Int × Int)) → Option (Int × List (List Int) × List Int × Int × (List (Int × Int)))) : Leaf (Int × List (List Int) × List Int × Int × (List (Int × Int))) := ⟨rpairs_j1_at, rpairs_j1_st, fun p => rpairs_j1 N rec p.1.2.2.1 p.1.2.2.2.1 p.2.1.1 p.2.1.2.1 p.2.1.2.2.1 p.2.2.1⟩
theorem rpairs_j1_eq (N : Nat) (rec : Int → Int → (List (List Int)) → (List Int) → Int → (List (Int × Int)) → Option (Int × List (List Int) × List Int × Int × (List (Int × Int)))) (a : Int) (b : Int) (e : List (List Int)) (e2 : List Int) (e3 : Int) (out : List (Int × Int)) : ev (Z := Int × List (List Int) × List Int × Int × (List (Int × Int))) Try.prog (rpairs_sp N) rpairs_B [] [rpairs_l2_h rec, rpairs_l2_e0] none 400 true rpairs_j1_at (stL rpairs_j1_st (((), (), a, b, ()), ((e, e2, e3, ()), out, ()))) (stH rpairs_j1_st (((), (), a, b, ()), ((e, e2, e3, ()), out, ()))) = rpairs_j1 N rec a b e e2 e3 out := by kernel_rfl
theorem rpairs_j1_lf (N : Nat) (rec : Int → Int → (List (List Int)) → (List Int) → Int → (List (Int × Int)) → Option (Int × List (List Int) × List Int × Int × (List (Int × Int)))) {z : Int × List (List Int) × List Int × Int × (List (Int × Int))} {top : Bool} {E : EE} {Xc : Ctx} (hE : EOK rpairs_B.m0 E) (hX : CxOK top Xc) (hrec : LeafOK Try.prog rpairs_B.c rpairs_B.n rpairs_B.m0 E Xc z (rpairs_l2_h rec)) (h0 : LeafOK Try.prog rpairs_B.c rpairs_B.n rpairs_B.m0 E Xc z rpairs_l2_e0) : LeafOK Try.prog rpairs_B.c rpairs_B.n rpairs_B.m0 E Xc z (rpairs_j1_k N rec) := leaf_of_ev (B := rpairs_B) (loops := []) (leaves := [rpairs_l2_h rec, rpairs_l2_e0]) (rpairs_all N) mixed trivial hE hX ⟨hrec, h0, trivial⟩ RetOK.no (fun p => rpairs_j1_eq N rec p.1.2.2.1 p.1.2.2.2.1 p.2.1.1 p.2.1.2.1 p.2.1.2.2.1 p.2.2.1)
noncomputable def rpairs_l2_L (N : Nat) : LoopS := { at_ := rpairs_l2_at, sta := rpairs_l2_st, exits := [([.c [1, 1, 1, 0, 1, 0, 0, 1, 1], .l [1, 1, 1, 0, 1, 0, 0], .b 0, .c [1, 1, 1, 1]], ⟨[1, 5, 6], ⟨[.own 0 0, .ols 1, .i .i64], [.segs [.sl (.sl (.int .i64)), .sl (.int .i64), .i .i64], .lst (.pair (.int .i64) (.int .i64))]⟩⟩)], run := fun p k => (rpairs_l2 N N p.1.2.2.1 p.1.2.2.2.1 p.2.1.1 p.2.1.2.1 p.2.1.2.2.1 p.2.2.1).bind fun e => k (.inl (((), (), e.1, ()), ((e.2.1, e.2.2.1, e.2.2.2.1, ()), e.2.2.2.2, ()))) }
theorem rpairs_l2_eq (N n_ : Nat) (a : Int) (b : Int) (e : List (List Int)) (e2 : List Int) (e3 : Int) (out : List (Int × Int)) : ev (Z := Int × List (List Int) × List Int × Int × (List (Int × Int))) Try.prog (rpairs_sp N) rpairs_B [] [rpairs_l2_h (rpairs_l2 N n_), rpairs_l2_e0, rpairs_j1_k N (rpairs_l2 N n_)] none 400 true rpairs_l2_at (stL rpairs_l2_st (((), (), a, b, ()), ((e, e2, e3, ()), out, ()))) (stH rpairs_l2_st (((), (), a, b, ()), ((e, e2, e3, ()), out, ()))) = rpairs_l2 N (n_ + 1) a b e e2 e3 out := by kernel_rfl
theorem rpairs_l2_ok (N : Nat) {top : Bool} : LoopOK Try.prog rpairs_B.c rpairs_B.n rpairs_B.m0 top (rpairs_l2_L N) := loop_of_ev (Z := Int × List (List Int) × List Int × Int × (List (Int × Int))) (N := N) (fun m p => rpairs_l2 N m p.1.2.2.1 p.1.2.2.2.1 p.2.1.1 p.2.1.2.1 p.2.1.2.2.1 p.2.2.1) (fun e => .inl (((), (), e.1, ()), ((e.2.1, e.2.2.1, e.2.2.2.1, ()), e.2.2.2.2, ()))) (fun _ _ _ => rfl) (fun _ => rfl) (fun m z E Xc hE hX hrec hx => leaf_of_ev (B := rpairs_B) (loops := []) (leaves := [rpairs_l2_h (rpairs_l2 N m), rpairs_l2_e0, rpairs_j1_k N (rpairs_l2 N m)]) (rpairs_all N) mixed trivial hE hX ⟨hrec, (fun p hp => by obtain rfl := Option.some.inj hp; exact hx), rpairs_j1_lf N _ hE hX hrec (fun p hp => by obtain rfl := Option.some.inj hp; exact hx), trivial⟩ RetOK.no (fun p => rpairs_l2_eq N m p.1.2.2.1 p.1.2.2.2.1 p.2.1.1 p.2.1.2.1 p.2.1.2.2.1 p.2.2.1))
abbrev rpairs_l1_at : List PI := [.c [1, 1, 1, 0, 1, 0, 0, 0, 0], .c [1, 1, 1, 0, 1, 0, 0, 0, 1], .c [1, 1, 1, 0, 1, 0, 0, 1], .l [1, 1, 1, 0, 1, 0, 0], .b 0, .c [1, 1, 1, 1]]
abbrev rpairs_l1_st : Sta := ⟨[1, 5, 6], ⟨[.own 0 0, .ols 1, .i .i64], [.segs [.sl (.sl (.int .i64)), .sl (.int .i64), .i .i64], .lst (.pair (.int .i64) (.int .i64))]⟩⟩
abbrev rpairs_l1_h (rec : Int → (List (List Int)) → (List Int) → Int → (List (Int × Int)) → Option (List (Int × Int))) : Leaf (List (Int × Int)) := ⟨rpairs_l1_at, rpairs_l1_st, fun p => rec p.1.2.2.1 p.2.1.1 p.2.1.2.1 p.2.1.2.2.1 p.2.2.1⟩
abbrev rpairs_l1_e0 : Leaf (List (Int × Int)) := ⟨[.c [1, 1, 1, 1, 0], .c [1, 1, 1, 1, 1]], ⟨[5], ⟨[.ols 0], [.lst (.pair (.int .i64) (.int .i64))]⟩⟩, fun p => some (p.2.1)⟩
noncomputable def rpairs_l1_L (N : Nat) : LoopS := { at_ := rpairs_l1_at, sta := rpairs_l1_st, exits := [([.c [1, 1, 1, 1, 0], .c [1, 1, 1, 1, 1]], ⟨[5], ⟨[.ols 0], [.lst (.pair (.int .i64) (.int .i64))]⟩⟩)], run := fun p k => (rpairs_l1 N N p.1.2.2.1 p.2.1.1 p.2.1.2.1 p.2.1.2.2.1 p.2.2.1).bind fun e => k (.inl (((), ()), (e, ()))) }
theorem rpairs_l1_eq (N n_ : Nat) (a : Int) (e : List (List Int)) (e2 : List Int) (e3 : Int) (out : List (Int × Int)) : ev (Z := (List (Int × Int))) Try.prog (rpairs_sp N) rpairs_B [rpairs_l2_L N] [rpairs_l1_h (rpairs_l1 N n_), rpairs_l1_e0] none 400 true rpairs_l1_at (stL rpairs_l1_st (((), (), a, ()), ((e, e2, e3, ()), out, ()))) (stH rpairs_l1_st (((), (), a, ()), ((e, e2, e3, ()), out, ()))) = rpairs_l1 N (n_ + 1) a e e2 e3 out := by kernel_rfl
theorem rpairs_l1_ok (N : Nat) {top : Bool} : LoopOK Try.prog rpairs_B.c rpairs_B.n rpairs_B.m0 top (rpairs_l1_L N) := loop_of_ev (Z := (List (Int × Int))) (N := N) (fun m p => rpairs_l1 N m p.1.2.2.1 p.2.1.1 p.2.1.2.1 p.2.1.2.2.1 p.2.2.1) (fun e => .inl (((), ()), (e, ()))) (fun _ _ _ => rfl) (fun _ => rfl) (fun m z E Xc hE hX hrec hx => leaf_of_ev (B := rpairs_B) (loops := [rpairs_l2_L N]) (leaves := [rpairs_l1_h (rpairs_l1 N m), rpairs_l1_e0]) (rpairs_all N) mixed ⟨rpairs_l2_ok N, trivial⟩ hE hX ⟨hrec, (fun p hp => by obtain rfl := Option.some.inj hp; exact hx), trivial⟩ RetOK.no (fun p => rpairs_l1_eq N m p.1.2.2.1 p.2.1.1 p.2.1.2.1 p.2.1.2.2.1 p.2.2.1))
abbrev rpairs_st : Sta := ⟨[0], ⟨[.agg [.sl (.sl (.int .i64)), .sl (.int .i64), .i .i64]], []⟩⟩
theorem rpairs_eq (N : Nat) (e : List (List Int)) (e2 : List Int) (e3 : Int) : ev (Z := (List (Int × Int)) × Int) Try.prog (rpairs_sp N) rpairs_B [rpairs_l2_L N, rpairs_l1_L N] [] (some rpairs_rt) 400 false [.c [0], .c [1]] (stL rpairs_st (((e, e2, e3, ()), ()), ())) (stH rpairs_st (((e, e2, e3, ()), ()), ())) = rpairs_S N e e2 e3 := by kernel_rfl
noncomputable def sp_rpairs (N : Nat) : Spec := { f := 59, ins := ⟨[.agg [.sl (.sl (.int .i64)), .sl (.int .i64), .i .i64]], []⟩, outs := [⟨[.sl (.pair (.int .i64) (.int .i64)), .i .i64], []⟩], run := fun p k => (rpairs_S N p.1.1.1 p.1.1.2.1 p.1.1.2.2.1).bind fun r => k ((r.1, r.2, ()), ()) }
theorem sp_rpairs_ok (N : Nat) : SpecOK Try.prog (sp_rpairs N) := fn_sound (B := rpairs_B) (loops := [rpairs_l2_L N, rpairs_l1_L N]) (leaves := []) (fun p => rpairs_S N p.1.1.1 p.1.1.2.1 p.1.1.2.2.1) (fun r => ((r.1, r.2, ()), ())) rpairs_rt (fun _ _ _ => rfl) (fun r z h => by cases h; rfl) Try.func59 (by kernel_rfl) (by kernel_rfl) (by kernel_rfl) rfl rfl (by kernel_rfl) (fun args w => Sem.pv_run _ _ _ (by kernel_rfl) w) (rpairs_all N) mixed ⟨rpairs_l2_ok N, rpairs_l1_ok N, trivial⟩ (fun z E Xc hE hX hret => trivial) (fun p => rpairs_eq N p.1.1.1 p.1.1.2.1 p.1.1.2.2.1)

def rwith_j1 (N : Nat) (rec : Int → Int → (List (List Int)) → (List Int) → Int → (List Int) → Option (List Int)) (text : Int) (o : Int) (e : List (List Int)) (e2 : List Int) (e3 : Int) (out : List Int) : Option (List Int) :=
  chk (o + 1) <|
  rec text (o + 1) e e2 e3 out
def rwith_l1 (N : Nat) : Nat → Int → Int → (List (List Int)) → (List Int) → Int → (List Int) → Option (List Int)
  | 0, _, _, _, _, _, _ => none
  | n_ + 1, text, o, e, e2, e3, out =>
    br (decide (o < (e.length : Int)))
      ((best_S N e e2 e3 text o).bind fun (x_2, y_3) =>
      br (decide (y_3 ≤ e3))
        (lim (out.length + [o].length) <|
        rwith_j1 N (rwith_l1 N n_) text o e e2 e3 (out ++ [o]))
        (rwith_j1 N (rwith_l1 N n_) text o e e2 e3 out))
      (some (out))
def rwith_S (N : Nat) (e : List (List Int)) (e2 : List Int) (e3 : Int) (text : Int) : Option (List Int × Int) :=
  (rtwo_S N e e2 e3 text 0).bind fun x_1 =>
  br (!decide (x_1 = 0))
    (some ([], x_1))
    ((rwith_l1 N N text 0 e e2 e3 []).bind fun out_4 =>
    some (out_4, 0))
noncomputable def rwith_sp (N : Nat) : List Spec := [sp_rtwo N, sp_best N]
theorem rwith_all (N : Nat) : AllP (SpecOK Try.prog) (rwith_sp N) := ⟨sp_rtwo_ok N, sp_best_ok N, trivial⟩
noncomputable def rwith_c : Code := (Try.f60.body).getD .skip
noncomputable abbrev rwith_B : Body := { c := rwith_c, n := 42, res := [.tmp 4, .tmp 5], outs := [⟨[.sl (.int .i64), .i .i64], []⟩], m0 := 0 }
abbrev rwith_rt : altD rwith_B.outs → Option (List Int × Int) := fun r => some (r.1.1, r.1.2.1)
abbrev rwith_l1_at : List PI := [.c [1, 1, 1, 0, 1, 0, 0, 0, 0], .c [1, 1, 1, 0, 1, 0, 0, 0, 1], .c [1, 1, 1, 0, 1, 0, 0, 1], .l [1, 1, 1, 0, 1, 0, 0], .b 0, .c [1, 1, 1, 1]]
abbrev rwith_l1_st : Sta := ⟨[1, 2, 7, 8], ⟨[.i .i64, .own 0 0, .ols 1, .i .i64], [.segs [.sl (.sl (.int .i64)), .sl (.int .i64), .i .i64], .lst (.int .i64)]⟩⟩
abbrev rwith_l1_h (rec : Int → Int → (List (List Int)) → (List Int) → Int → (List Int) → Option (List Int)) : Leaf (List Int) := ⟨rwith_l1_at, rwith_l1_st, fun p => rec p.1.1 p.1.2.2.2.1 p.2.1.1 p.2.1.2.1 p.2.1.2.2.1 p.2.2.1⟩
abbrev rwith_l1_e0 : Leaf (List Int) := ⟨[.c [1, 1, 1, 1, 0], .c [1, 1, 1, 1, 1]], ⟨[7], ⟨[.ols 0], [.lst (.int .i64)]⟩⟩, fun p => some (p.2.1)⟩
abbrev rwith_j1_at : List PI := [.c [1, 1, 1, 0, 1, 0, 0, 1, 1], .l [1, 1, 1, 0, 1, 0, 0], .b 0, .c [1, 1, 1, 1]]
abbrev rwith_j1_st : Sta := ⟨[1, 2, 7, 8], ⟨[.i .i64, .own 0 0, .ols 1, .i .i64], [.segs [.sl (.sl (.int .i64)), .sl (.int .i64), .i .i64], .lst (.int .i64)]⟩⟩
abbrev rwith_j1_k (N : Nat) (rec : Int → Int → (List (List Int)) → (List Int) → Int → (List Int) → Option (List Int)) : Leaf (List Int) := ⟨rwith_j1_at, rwith_j1_st, fun p => rwith_j1 N rec p.1.1 p.1.2.2.2.1 p.2.1.1 p.2.1.2.1 p.2.1.2.2.1 p.2.2.1⟩
theorem rwith_j1_eq (N : Nat) (rec : Int → Int → (List (List Int)) → (List Int) → Int → (List Int) → Option (List Int)) (text : Int) (o : Int) (e : List (List Int)) (e2 : List Int) (e3 : Int) (out : List Int) : ev (Z := List Int) Try.prog (rwith_sp N) rwith_B [] [rwith_l1_h rec, rwith_l1_e0] none 400 true rwith_j1_at (stL rwith_j1_st ((text, (), (), o, ()), ((e, e2, e3, ()), out, ()))) (stH rwith_j1_st ((text, (), (), o, ()), ((e, e2, e3, ()), out, ()))) = rwith_j1 N rec text o e e2 e3 out := by kernel_rfl
theorem rwith_j1_lf (N : Nat) (rec : Int → Int → (List (List Int)) → (List Int) → Int → (List Int) → Option (List Int)) {z : List Int} {top : Bool} {E : EE} {Xc : Ctx} (hE : EOK rwith_B.m0 E) (hX : CxOK top Xc) (hrec : LeafOK Try.prog rwith_B.c rwith_B.n rwith_B.m0 E Xc z (rwith_l1_h rec)) (h0 : LeafOK Try.prog rwith_B.c rwith_B.n rwith_B.m0 E Xc z rwith_l1_e0) : LeafOK Try.prog rwith_B.c rwith_B.n rwith_B.m0 E Xc z (rwith_j1_k N rec) := leaf_of_ev (B := rwith_B) (loops := []) (leaves := [rwith_l1_h rec, rwith_l1_e0]) (rwith_all N) mixed trivial hE hX ⟨hrec, h0, trivial⟩ RetOK.no (fun p => rwith_j1_eq N rec p.1.1 p.1.2.2.2.1 p.2.1.1 p.2.1.2.1 p.2.1.2.2.1 p.2.2.1)
noncomputable def rwith_l1_L (N : Nat) : LoopS := { at_ := rwith_l1_at, sta := rwith_l1_st, exits := [([.c [1, 1, 1, 1, 0], .c [1, 1, 1, 1, 1]], ⟨[7], ⟨[.ols 0], [.lst (.int .i64)]⟩⟩)], run := fun p k => (rwith_l1 N N p.1.1 p.1.2.2.2.1 p.2.1.1 p.2.1.2.1 p.2.1.2.2.1 p.2.2.1).bind fun e => k (.inl (((), ()), (e, ()))) }
theorem rwith_l1_eq (N n_ : Nat) (text : Int) (o : Int) (e : List (List Int)) (e2 : List Int) (e3 : Int) (out : List Int) : ev (Z := List Int) Try.prog (rwith_sp N) rwith_B [] [rwith_l1_h (rwith_l1 N n_), rwith_l1_e0, rwith_j1_k N (rwith_l1 N n_)] none 400 true rwith_l1_at (stL rwith_l1_st ((text, (), (), o, ()), ((e, e2, e3, ()), out, ()))) (stH rwith_l1_st ((text, (), (), o, ()), ((e, e2, e3, ()), out, ()))) = rwith_l1 N (n_ + 1) text o e e2 e3 out := by kernel_rfl
theorem rwith_l1_ok (N : Nat) {top : Bool} : LoopOK Try.prog rwith_B.c rwith_B.n rwith_B.m0 top (rwith_l1_L N) := loop_of_ev (Z := List Int) (N := N) (fun m p => rwith_l1 N m p.1.1 p.1.2.2.2.1 p.2.1.1 p.2.1.2.1 p.2.1.2.2.1 p.2.2.1) (fun e => .inl (((), ()), (e, ()))) (fun _ _ _ => rfl) (fun _ => rfl) (fun m z E Xc hE hX hrec hx => leaf_of_ev (B := rwith_B) (loops := []) (leaves := [rwith_l1_h (rwith_l1 N m), rwith_l1_e0, rwith_j1_k N (rwith_l1 N m)]) (rwith_all N) mixed trivial hE hX ⟨hrec, (fun p hp => by obtain rfl := Option.some.inj hp; exact hx), rwith_j1_lf N _ hE hX hrec (fun p hp => by obtain rfl := Option.some.inj hp; exact hx), trivial⟩ RetOK.no (fun p => rwith_l1_eq N m p.1.1 p.1.2.2.2.1 p.2.1.1 p.2.1.2.1 p.2.1.2.2.1 p.2.2.1))
abbrev rwith_st : Sta := ⟨[0, 1], ⟨[.agg [.sl (.sl (.int .i64)), .sl (.int .i64), .i .i64], .i .i64], []⟩⟩
theorem rwith_eq (N : Nat) (e : List (List Int)) (e2 : List Int) (e3 : Int) (text : Int) : ev (Z := List Int × Int) Try.prog (rwith_sp N) rwith_B [rwith_l1_L N] [] (some rwith_rt) 400 false [.c [0], .c [1]] (stL rwith_st (((e, e2, e3, ()), text, ()), ())) (stH rwith_st (((e, e2, e3, ()), text, ()), ())) = rwith_S N e e2 e3 text := by kernel_rfl
noncomputable def sp_rwith (N : Nat) : Spec := { f := 60, ins := ⟨[.agg [.sl (.sl (.int .i64)), .sl (.int .i64), .i .i64], .i .i64], []⟩, outs := [⟨[.sl (.int .i64), .i .i64], []⟩], run := fun p k => (rwith_S N p.1.1.1 p.1.1.2.1 p.1.1.2.2.1 p.1.2.1).bind fun r => k ((r.1, r.2, ()), ()) }
theorem sp_rwith_ok (N : Nat) : SpecOK Try.prog (sp_rwith N) := fn_sound (B := rwith_B) (loops := [rwith_l1_L N]) (leaves := []) (fun p => rwith_S N p.1.1.1 p.1.1.2.1 p.1.1.2.2.1 p.1.2.1) (fun r => ((r.1, r.2, ()), ())) rwith_rt (fun _ _ _ => rfl) (fun r z h => by cases h; rfl) Try.func60 (by kernel_rfl) (by kernel_rfl) (by kernel_rfl) rfl rfl (by kernel_rfl) (fun args w => Sem.pv_run _ _ _ (by kernel_rfl) w) (rwith_all N) mixed ⟨rwith_l1_ok N, trivial⟩ (fun z E Xc hE hX hret => trivial) (fun p => rwith_eq N p.1.1.1 p.1.1.2.1 p.1.1.2.2.1 p.1.2.1)

def rmusts_l2 (N : Nat) : Nat → (List (Int × Int)) → Int → Bool → Int → (List (List Int)) → (List Int) → Int → (List Int) → Option ((List (Int × Int)) × Int × Bool × List (List Int) × List Int × Int × List Int)
  | 0, _, _, _, _, _, _, _, _ => none
  | n_ + 1, l, t, in_, i, e, e2, e3, out =>
    br (decide (i < (l.length : Int)))
      (br in_
        (idx l i fun x_3 =>
        br (decide (x_3.1 = t))
          (chk (i + 1) <|
          rmusts_l2 N n_ l t true (i + 1) e e2 e3 out)
          (idx l i fun x_4 =>
          chk (i + 1) <|
          rmusts_l2 N n_ l t (decide (x_4.2 = t)) (i + 1) e e2 e3 out))
        (chk (i + 1) <|
        rmusts_l2 N n_ l t false (i + 1) e e2 e3 out))
      (some ((l, t, in_, e, e2, e3, out)))
def rmusts_j1 (N : Nat) (rec : (List (Int × Int)) → Int → (List (List Int)) → (List Int) → Int → (List Int) → Option (List Int)) (l : List (Int × Int)) (t : Int) (e : List (List Int)) (e2 : List Int) (e3 : Int) (out : List Int) : Option (List Int) :=
  chk (t + 1) <|
  rec l (t + 1) e e2 e3 out
def rmusts_l1 (N : Nat) : Nat → (List (Int × Int)) → Int → (List (List Int)) → (List Int) → Int → (List Int) → Option (List Int)
  | 0, _, _, _, _, _, _ => none
  | n_ + 1, l, t, e, e2, e3, out =>
    br (decide (t < (e.length : Int)))
      ((rmusts_l2 N N l t true 0 e e2 e3 out).bind fun (l_5, t_6, in__7, e_8, e2_9, e3_10, out_11) =>
      br in__7
        (lim (out_11.length + [t_6].length) <|
        rmusts_j1 N (rmusts_l1 N n_) l_5 t_6 e_8 e2_9 e3_10 (out_11 ++ [t_6]))
        (rmusts_j1 N (rmusts_l1 N n_) l_5 t_6 e_8 e2_9 e3_10 out_11))
      (some (out))
def rmusts_S (N : Nat) (e : List (List Int)) (e2 : List Int) (e3 : Int) : Option (List Int × Int) :=
  (rpairs_S N e e2 e3).bind fun (x_1, y_2) =>
  br (!decide (y_2 = 0))
    (some ([], y_2))
    (br (decide ((x_1.length : Int) = 0))
      (some ([], 6))
      ((rmusts_l1 N N x_1 0 e e2 e3 []).bind fun out_12 =>
      some (out_12, 0)))
noncomputable def rmusts_sp (N : Nat) : List Spec := [sp_rpairs N]
theorem rmusts_all (N : Nat) : AllP (SpecOK Try.prog) (rmusts_sp N) := ⟨sp_rpairs_ok N, trivial⟩
noncomputable def rmusts_c : Code := (Try.f62.body).getD .skip
noncomputable abbrev rmusts_B : Body := { c := rmusts_c, n := 59, res := [.tmp 2, .tmp 3], outs := [⟨[.sl (.int .i64), .i .i64], []⟩], m0 := 0 }
abbrev rmusts_rt : altD rmusts_B.outs → Option (List Int × Int) := fun r => some (r.1.1, r.1.2.1)
abbrev rmusts_l2_at : List PI := [.c [1, 1, 1, 1, 1, 0, 1, 0, 0, 1, 0, 0, 1, 0, 1, 0, 0, 0, 0], .c [1, 1, 1, 1, 1, 0, 1, 0, 0, 1, 0, 0, 1, 0, 1, 0, 0, 0, 1], .c [1, 1, 1, 1, 1, 0, 1, 0, 0, 1, 0, 0, 1, 0, 1, 0, 0, 1], .l [1, 1, 1, 1, 1, 0, 1, 0, 0, 1, 0, 0, 1, 0, 1, 0, 0], .b 2, .c [1, 1, 1, 1, 1, 0, 1, 0, 0, 1, 0, 0, 1, 1], .b 1, .c [1, 1, 1, 1, 1, 0, 1, 0, 0, 1, 1], .l [1, 1, 1, 1, 1, 0, 1, 0, 0], .b 0, .c [1, 1, 1, 1, 1, 1]]
abbrev rmusts_l2_st : Sta := ⟨[1, 4, 6, 7, 8, 9], ⟨[.own 0 0, .sl (.pair (.int .i64) (.int .i64)), .ols 1, .i .i64, .b, .i .i64], [.segs [.sl (.sl (.int .i64)), .sl (.int .i64), .i .i64], .lst (.int .i64)]⟩⟩
abbrev rmusts_l2_h (rec : (List (Int × Int)) → Int → Bool → Int → (List (List Int)) → (List Int) → Int → (List Int) → Option ((List (Int × Int)) × Int × Bool × List (List Int) × List Int × Int × List Int)) : Leaf ((List (Int × Int)) × Int × Bool × List (List Int) × List Int × Int × List Int) := ⟨rmusts_l2_at, rmusts_l2_st, fun p => rec p.1.2.1 p.1.2.2.2.1 p.1.2.2.2.2.1 p.1.2.2.2.2.2.1 p.2.1.1 p.2.1.2.1 p.2.1.2.2.1 p.2.2.1⟩
abbrev rmusts_l2_e0 : Leaf ((List (Int × Int)) × Int × Bool × List (List Int) × List Int × Int × List Int) := ⟨[.c [1, 1, 1, 1, 1, 0, 1, 0, 0, 1, 0, 0, 1, 1, 0], .c [1, 1, 1, 1, 1, 0, 1, 0, 0, 1, 0, 0, 1, 1, 1], .b 1, .c [1, 1, 1, 1, 1, 0, 1, 0, 0, 1, 1], .l [1, 1, 1, 1, 1, 0, 1, 0, 0], .b 0, .c [1, 1, 1, 1, 1, 1]], ⟨[1, 4, 6, 7, 8], ⟨[.own 0 0, .sl (.pair (.int .i64) (.int .i64)), .ols 1, .i .i64, .b], [.segs [.sl (.sl (.int .i64)), .sl (.int .i64), .i .i64], .lst (.int .i64)]⟩⟩, fun p => some ((p.1.2.1, p.1.2.2.2.1, p.1.2.2.2.2.1, p.2.1.1, p.2.1.2.1, p.2.1.2.2.1, p.2.2.1))⟩
noncomputable def rmusts_l2_L (N : Nat) : LoopS := { at_ := rmusts_l2_at, sta := rmusts_l2_st, exits := [([.c [1, 1, 1, 1, 1, 0, 1, 0, 0, 1, 0, 0, 1, 1, 0], .c [1, 1, 1, 1, 1, 0, 1, 0, 0, 1, 0, 0, 1, 1, 1], .b 1, .c [1, 1, 1, 1, 1, 0, 1, 0, 0, 1, 1], .l [1, 1, 1, 1, 1, 0, 1, 0, 0], .b 0, .c [1, 1, 1, 1, 1, 1]], ⟨[1, 4, 6, 7, 8], ⟨[.own 0 0, .sl (.pair (.int .i64) (.int .i64)), .ols 1, .i .i64, .b], [.segs [.sl (.sl (.int .i64)), .sl (.int .i64), .i .i64], .lst (.int .i64)]⟩⟩)], run := fun p k => (rmusts_l2 N N p.1.2.1 p.1.2.2.2.1 p.1.2.2.2.2.1 p.1.2.2.2.2.2.1 p.2.1.1 p.2.1.2.1 p.2.1.2.2.1 p.2.2.1).bind fun e => k (.inl (((), e.1, (), e.2.1, e.2.2.1, ()), ((e.2.2.2.1, e.2.2.2.2.1, e.2.2.2.2.2.1, ()), e.2.2.2.2.2.2, ()))) }
theorem rmusts_l2_eq (N n_ : Nat) (l : List (Int × Int)) (t : Int) (in_ : Bool) (i : Int) (e : List (List Int)) (e2 : List Int) (e3 : Int) (out : List Int) : ev (Z := (List (Int × Int)) × Int × Bool × List (List Int) × List Int × Int × List Int) Try.prog (rmusts_sp N) rmusts_B [] [rmusts_l2_h (rmusts_l2 N n_), rmusts_l2_e0] none 400 true rmusts_l2_at (stL rmusts_l2_st (((), l, (), t, in_, i, ()), ((e, e2, e3, ()), out, ()))) (stH rmusts_l2_st (((), l, (), t, in_, i, ()), ((e, e2, e3, ()), out, ()))) = rmusts_l2 N (n_ + 1) l t in_ i e e2 e3 out := by kernel_rfl
theorem rmusts_l2_ok (N : Nat) {top : Bool} : LoopOK Try.prog rmusts_B.c rmusts_B.n rmusts_B.m0 top (rmusts_l2_L N) := loop_of_ev (Z := (List (Int × Int)) × Int × Bool × List (List Int) × List Int × Int × List Int) (N := N) (fun m p => rmusts_l2 N m p.1.2.1 p.1.2.2.2.1 p.1.2.2.2.2.1 p.1.2.2.2.2.2.1 p.2.1.1 p.2.1.2.1 p.2.1.2.2.1 p.2.2.1) (fun e => .inl (((), e.1, (), e.2.1, e.2.2.1, ()), ((e.2.2.2.1, e.2.2.2.2.1, e.2.2.2.2.2.1, ()), e.2.2.2.2.2.2, ()))) (fun _ _ _ => rfl) (fun _ => rfl) (fun m z E Xc hE hX hrec hx => leaf_of_ev (B := rmusts_B) (loops := []) (leaves := [rmusts_l2_h (rmusts_l2 N m), rmusts_l2_e0]) (rmusts_all N) mixed trivial hE hX ⟨hrec, (fun p hp => by obtain rfl := Option.some.inj hp; exact hx), trivial⟩ RetOK.no (fun p => rmusts_l2_eq N m p.1.2.1 p.1.2.2.2.1 p.1.2.2.2.2.1 p.1.2.2.2.2.2.1 p.2.1.1 p.2.1.2.1 p.2.1.2.2.1 p.2.2.1))
abbrev rmusts_l1_at : List PI := [.c [1, 1, 1, 1, 1, 0, 1, 0, 0, 0, 0], .c [1, 1, 1, 1, 1, 0, 1, 0, 0, 0, 1], .c [1, 1, 1, 1, 1, 0, 1, 0, 0, 1], .l [1, 1, 1, 1, 1, 0, 1, 0, 0], .b 0, .c [1, 1, 1, 1, 1, 1]]
abbrev rmusts_l1_st : Sta := ⟨[1, 4, 6, 7], ⟨[.own 0 0, .sl (.pair (.int .i64) (.int .i64)), .ols 1, .i .i64], [.segs [.sl (.sl (.int .i64)), .sl (.int .i64), .i .i64], .lst (.int .i64)]⟩⟩
abbrev rmusts_l1_h (rec : (List (Int × Int)) → Int → (List (List Int)) → (List Int) → Int → (List Int) → Option (List Int)) : Leaf (List Int) := ⟨rmusts_l1_at, rmusts_l1_st, fun p => rec p.1.2.1 p.1.2.2.2.1 p.2.1.1 p.2.1.2.1 p.2.1.2.2.1 p.2.2.1⟩
abbrev rmusts_l1_e0 : Leaf (List Int) := ⟨[.c [1, 1, 1, 1, 1, 1, 0], .c [1, 1, 1, 1, 1, 1, 1]], ⟨[6], ⟨[.ols 0], [.lst (.int .i64)]⟩⟩, fun p => some (p.2.1)⟩
abbrev rmusts_j1_at : List PI := [.c [1, 1, 1, 1, 1, 0, 1, 0, 0, 1, 1], .l [1, 1, 1, 1, 1, 0, 1, 0, 0], .b 0, .c [1, 1, 1, 1, 1, 1]]
abbrev rmusts_j1_st : Sta := ⟨[1, 4, 6, 7], ⟨[.own 0 0, .sl (.pair (.int .i64) (.int .i64)), .ols 1, .i .i64], [.segs [.sl (.sl (.int .i64)), .sl (.int .i64), .i .i64], .lst (.int .i64)]⟩⟩
abbrev rmusts_j1_k (N : Nat) (rec : (List (Int × Int)) → Int → (List (List Int)) → (List Int) → Int → (List Int) → Option (List Int)) : Leaf (List Int) := ⟨rmusts_j1_at, rmusts_j1_st, fun p => rmusts_j1 N rec p.1.2.1 p.1.2.2.2.1 p.2.1.1 p.2.1.2.1 p.2.1.2.2.1 p.2.2.1⟩
theorem rmusts_j1_eq (N : Nat) (rec : (List (Int × Int)) → Int → (List (List Int)) → (List Int) → Int → (List Int) → Option (List Int)) (l : List (Int × Int)) (t : Int) (e : List (List Int)) (e2 : List Int) (e3 : Int) (out : List Int) : ev (Z := List Int) Try.prog (rmusts_sp N) rmusts_B [rmusts_l2_L N] [rmusts_l1_h rec, rmusts_l1_e0] none 400 true rmusts_j1_at (stL rmusts_j1_st (((), l, (), t, ()), ((e, e2, e3, ()), out, ()))) (stH rmusts_j1_st (((), l, (), t, ()), ((e, e2, e3, ()), out, ()))) = rmusts_j1 N rec l t e e2 e3 out := by kernel_rfl
theorem rmusts_j1_lf (N : Nat) (rec : (List (Int × Int)) → Int → (List (List Int)) → (List Int) → Int → (List Int) → Option (List Int)) {z : List Int} {top : Bool} {E : EE} {Xc : Ctx} (hE : EOK rmusts_B.m0 E) (hX : CxOK top Xc) (hrec : LeafOK Try.prog rmusts_B.c rmusts_B.n rmusts_B.m0 E Xc z (rmusts_l1_h rec)) (h0 : LeafOK Try.prog rmusts_B.c rmusts_B.n rmusts_B.m0 E Xc z rmusts_l1_e0) : LeafOK Try.prog rmusts_B.c rmusts_B.n rmusts_B.m0 E Xc z (rmusts_j1_k N rec) := leaf_of_ev (B := rmusts_B) (loops := [rmusts_l2_L N]) (leaves := [rmusts_l1_h rec, rmusts_l1_e0]) (rmusts_all N) mixed ⟨rmusts_l2_ok N, trivial⟩ hE hX ⟨hrec, h0, trivial⟩ RetOK.no (fun p => rmusts_j1_eq N rec p.1.2.1 p.1.2.2.2.1 p.2.1.1 p.2.1.2.1 p.2.1.2.2.1 p.2.2.1)
noncomputable def rmusts_l1_L (N : Nat) : LoopS := { at_ := rmusts_l1_at, sta := rmusts_l1_st, exits := [([.c [1, 1, 1, 1, 1, 1, 0], .c [1, 1, 1, 1, 1, 1, 1]], ⟨[6], ⟨[.ols 0], [.lst (.int .i64)]⟩⟩)], run := fun p k => (rmusts_l1 N N p.1.2.1 p.1.2.2.2.1 p.2.1.1 p.2.1.2.1 p.2.1.2.2.1 p.2.2.1).bind fun e => k (.inl (((), ()), (e, ()))) }
theorem rmusts_l1_eq (N n_ : Nat) (l : List (Int × Int)) (t : Int) (e : List (List Int)) (e2 : List Int) (e3 : Int) (out : List Int) : ev (Z := List Int) Try.prog (rmusts_sp N) rmusts_B [rmusts_l2_L N] [rmusts_l1_h (rmusts_l1 N n_), rmusts_l1_e0, rmusts_j1_k N (rmusts_l1 N n_)] none 400 true rmusts_l1_at (stL rmusts_l1_st (((), l, (), t, ()), ((e, e2, e3, ()), out, ()))) (stH rmusts_l1_st (((), l, (), t, ()), ((e, e2, e3, ()), out, ()))) = rmusts_l1 N (n_ + 1) l t e e2 e3 out := by kernel_rfl
theorem rmusts_l1_ok (N : Nat) {top : Bool} : LoopOK Try.prog rmusts_B.c rmusts_B.n rmusts_B.m0 top (rmusts_l1_L N) := loop_of_ev (Z := List Int) (N := N) (fun m p => rmusts_l1 N m p.1.2.1 p.1.2.2.2.1 p.2.1.1 p.2.1.2.1 p.2.1.2.2.1 p.2.2.1) (fun e => .inl (((), ()), (e, ()))) (fun _ _ _ => rfl) (fun _ => rfl) (fun m z E Xc hE hX hrec hx => leaf_of_ev (B := rmusts_B) (loops := [rmusts_l2_L N]) (leaves := [rmusts_l1_h (rmusts_l1 N m), rmusts_l1_e0, rmusts_j1_k N (rmusts_l1 N m)]) (rmusts_all N) mixed ⟨rmusts_l2_ok N, trivial⟩ hE hX ⟨hrec, (fun p hp => by obtain rfl := Option.some.inj hp; exact hx), rmusts_j1_lf N _ hE hX hrec (fun p hp => by obtain rfl := Option.some.inj hp; exact hx), trivial⟩ RetOK.no (fun p => rmusts_l1_eq N m p.1.2.1 p.1.2.2.2.1 p.2.1.1 p.2.1.2.1 p.2.1.2.2.1 p.2.2.1))
abbrev rmusts_st : Sta := ⟨[0], ⟨[.agg [.sl (.sl (.int .i64)), .sl (.int .i64), .i .i64]], []⟩⟩
theorem rmusts_eq (N : Nat) (e : List (List Int)) (e2 : List Int) (e3 : Int) : ev (Z := List Int × Int) Try.prog (rmusts_sp N) rmusts_B [rmusts_l2_L N, rmusts_l1_L N] [] (some rmusts_rt) 400 false [.c [0], .c [1]] (stL rmusts_st (((e, e2, e3, ()), ()), ())) (stH rmusts_st (((e, e2, e3, ()), ()), ())) = rmusts_S N e e2 e3 := by kernel_rfl
noncomputable def sp_rmusts (N : Nat) : Spec := { f := 62, ins := ⟨[.agg [.sl (.sl (.int .i64)), .sl (.int .i64), .i .i64]], []⟩, outs := [⟨[.sl (.int .i64), .i .i64], []⟩], run := fun p k => (rmusts_S N p.1.1.1 p.1.1.2.1 p.1.1.2.2.1).bind fun r => k ((r.1, r.2, ()), ()) }
theorem sp_rmusts_ok (N : Nat) : SpecOK Try.prog (sp_rmusts N) := fn_sound (B := rmusts_B) (loops := [rmusts_l2_L N, rmusts_l1_L N]) (leaves := []) (fun p => rmusts_S N p.1.1.1 p.1.1.2.1 p.1.1.2.2.1) (fun r => ((r.1, r.2, ()), ())) rmusts_rt (fun _ _ _ => rfl) (fun r z h => by cases h; rfl) Try.func62 (by kernel_rfl) (by kernel_rfl) (by kernel_rfl) rfl rfl (by kernel_rfl) (fun args w => Sem.pv_run _ _ _ (by kernel_rfl) w) (rmusts_all N) mixed ⟨rmusts_l2_ok N, rmusts_l1_ok N, trivial⟩ (fun z E Xc hE hX hret => trivial) (fun p => rmusts_eq N p.1.1.1 p.1.1.2.1 p.1.1.2.2.1)

def rclosest_j1 (N : Nat) (rec : Int → Int → Int → (List (List Int)) → (List Int) → Int → Int → Int → Int → Int → Option (Int × Int × List (List Int) × List Int × Int × Int × Int × Int × Int)) (least : Int) (a : Int) (b : Int) (e : List (List Int)) (e2 : List Int) (e3 : Int) (g : Int) (g2 : Int) (best : Int) (best2 : Int) : Option (Int × Int × List (List Int) × List Int × Int × Int × Int × Int × Int) :=
  chk (b + 1) <|
  rec least a (b + 1) e e2 e3 g g2 best best2
def rclosest_l2 (N : Nat) : Nat → Int → Int → Int → (List (List Int)) → (List Int) → Int → Int → Int → Int → Int → Option (Int × Int × List (List Int) × List Int × Int × Int × Int × Int × Int)
  | 0, _, _, _, _, _, _, _, _, _, _ => none
  | n_ + 1, least, a, b, e, e2, e3, g, g2, best, best2 =>
    br (decide (b < (e.length : Int)))
      ((best_S N e e2 e3 a b).bind fun (x_2, y_3) =>
      br (decide (y_3 < least))
        (rclosest_j1 N (rclosest_l2 N n_) y_3 a b e e2 e3 g g2 a b)
        (rclosest_j1 N (rclosest_l2 N n_) least a b e e2 e3 g g2 best best2))
      (some ((least, a, e, e2, e3, g, g2, best, best2)))
def rclosest_l1 (N : Nat) : Nat → Int → Int → (List (List Int)) → (List Int) → Int → Int → Int → Int → Int → Option (Int × Int × Int × Int × Int)
  | 0, _, _, _, _, _, _, _, _, _ => none
  | n_ + 1, least, a, e, e2, e3, g, g2, best, best2 =>
    br (decide (a < (e.length : Int)))
      ((rclosest_l2 N N least a a e e2 e3 g g2 best best2).bind fun (least_4, a_5, e_6, e2_7, e3_8, g_9, g2_10, best_11, best2_12) =>
      chk (a_5 + 1) <|
      rclosest_l1 N n_ least_4 (a_5 + 1) e_6 e2_7 e3_8 g_9 g2_10 best_11 best2_12)
      (some ((least, g, g2, best, best2)))
def rclosest_S (N : Nat) (e : List (List Int)) (e2 : List Int) (e3 : Int) : Option (Int × Int × Int × Int) :=
  (rcheck_S N e e2 e3).bind fun x_1 =>
  br (!decide (x_1 = 0))
    (some (0, 0, 0, x_1))
    ((rclosest_l1 N N 99 0 e e2 e3 0 0 0 0).bind fun (least_13, g_14, g2_15, best_16, best2_17) =>
    some (best_16, best2_17, least_13, 0))
noncomputable def rclosest_sp (N : Nat) : List Spec := [sp_rcheck N, sp_best N]
theorem rclosest_all (N : Nat) : AllP (SpecOK Try.prog) (rclosest_sp N) := ⟨sp_rcheck_ok N, sp_best_ok N, trivial⟩
noncomputable def rclosest_c : Code := (Try.f63.body).getD .skip
noncomputable abbrev rclosest_B : Body := { c := rclosest_c, n := 51, res := [.cell 2 72, .tmp 3, .tmp 4], outs := [⟨[.agg [.i .i64, .i .i64], .i .i64, .i .i64], []⟩], m0 := 0 }
abbrev rclosest_rt : altD rclosest_B.outs → Option (Int × Int × Int × Int) := fun r => some (r.1.1.1, r.1.1.2.1, r.1.2.1, r.1.2.2.1)
abbrev rclosest_l2_at : List PI := [.c [1, 1, 1, 0, 1, 0, 0, 1, 0, 0, 1, 0, 0, 0, 0], .c [1, 1, 1, 0, 1, 0, 0, 1, 0, 0, 1, 0, 0, 0, 1], .c [1, 1, 1, 0, 1, 0, 0, 1, 0, 0, 1, 0, 0, 1], .l [1, 1, 1, 0, 1, 0, 0, 1, 0, 0, 1, 0, 0], .b 2, .b 1, .c [1, 1, 1, 0, 1, 0, 0, 1, 1], .l [1, 1, 1, 0, 1, 0, 0], .b 0, .c [1, 1, 1, 1]]
abbrev rclosest_l2_st : Sta := ⟨[1, 2, 6, 7, 8, 9], ⟨[.own 0 0, .own 1 0, .own 2 0, .i .i64, .i .i64, .i .i64], [.segs [.sl (.sl (.int .i64)), .sl (.int .i64), .i .i64], .segs [.i .i64, .i .i64], .segs [.i .i64, .i .i64]]⟩⟩
abbrev rclosest_l2_h (rec : Int → Int → Int → (List (List Int)) → (List Int) → Int → Int → Int → Int → Int → Option (Int × Int × List (List Int) × List Int × Int × Int × Int × Int × Int)) : Leaf (Int × Int × List (List Int) × List Int × Int × Int × Int × Int × Int) := ⟨rclosest_l2_at, rclosest_l2_st, fun p => rec p.1.2.2.2.1 p.1.2.2.2.2.1 p.1.2.2.2.2.2.1 p.2.1.1 p.2.1.2.1 p.2.1.2.2.1 p.2.2.1.1 p.2.2.1.2.1 p.2.2.2.1.1 p.2.2.2.1.2.1⟩
abbrev rclosest_l2_e0 : Leaf (Int × Int × List (List Int) × List Int × Int × Int × Int × Int × Int) := ⟨[.c [1, 1, 1, 0, 1, 0, 0, 1, 1], .l [1, 1, 1, 0, 1, 0, 0], .b 0, .c [1, 1, 1, 1]], ⟨[1, 2, 6, 7, 8], ⟨[.own 0 0, .own 1 0, .own 2 0, .i .i64, .i .i64], [.segs [.sl (.sl (.int .i64)), .sl (.int .i64), .i .i64], .segs [.i .i64, .i .i64], .segs [.i .i64, .i .i64]]⟩⟩, fun p => some ((p.1.2.2.2.1, p.1.2.2.2.2.1, p.2.1.1, p.2.1.2.1, p.2.1.2.2.1, p.2.2.1.1, p.2.2.1.2.1, p.2.2.2.1.1, p.2.2.2.1.2.1))⟩
abbrev rclosest_j1_at : List PI := [.c [1, 1, 1, 0, 1, 0, 0, 1, 0, 0, 1, 0, 0, 1, 1], .l [1, 1, 1, 0, 1, 0, 0, 1, 0, 0, 1, 0, 0], .b 2, .b 1, .c [1, 1, 1, 0, 1, 0, 0, 1, 1], .l [1, 1, 1, 0, 1, 0, 0], .b 0, .c [1, 1, 1, 1]]
abbrev rclosest_j1_st : Sta := ⟨[1, 2, 6, 7, 8, 9], ⟨[.own 0 0, .own 1 0, .own 2 0, .i .i64, .i .i64, .i .i64], [.segs [.sl (.sl (.int .i64)), .sl (.int .i64), .i .i64], .segs [.i .i64, .i .i64], .segs [.i .i64, .i .i64]]⟩⟩
abbrev rclosest_j1_k (N : Nat) (rec : Int → Int → Int → (List (List Int)) → (List Int) → Int → Int → Int → Int → Int → Option (Int × Int × List (List Int) × List Int × Int × Int × Int × Int × Int)) : Leaf (Int × Int × List (List Int) × List Int × Int × Int × Int × Int × Int) := ⟨rclosest_j1_at, rclosest_j1_st, fun p => rclosest_j1 N rec p.1.2.2.2.1 p.1.2.2.2.2.1 p.1.2.2.2.2.2.1 p.2.1.1 p.2.1.2.1 p.2.1.2.2.1 p.2.2.1.1 p.2.2.1.2.1 p.2.2.2.1.1 p.2.2.2.1.2.1⟩
theorem rclosest_j1_eq (N : Nat) (rec : Int → Int → Int → (List (List Int)) → (List Int) → Int → Int → Int → Int → Int → Option (Int × Int × List (List Int) × List Int × Int × Int × Int × Int × Int)) (least : Int) (a : Int) (b : Int) (e : List (List Int)) (e2 : List Int) (e3 : Int) (g : Int) (g2 : Int) (best : Int) (best2 : Int) : ev (Z := Int × Int × List (List Int) × List Int × Int × Int × Int × Int × Int) Try.prog (rclosest_sp N) rclosest_B [] [rclosest_l2_h rec, rclosest_l2_e0] none 400 true rclosest_j1_at (stL rclosest_j1_st (((), (), (), least, a, b, ()), ((e, e2, e3, ()), (g, g2, ()), (best, best2, ()), ()))) (stH rclosest_j1_st (((), (), (), least, a, b, ()), ((e, e2, e3, ()), (g, g2, ()), (best, best2, ()), ()))) = rclosest_j1 N rec least a b e e2 e3 g g2 best best2 := by kernel_rfl
theorem rclosest_j1_lf (N : Nat) (rec : Int → Int → Int → (List (List Int)) → (List Int) → Int → Int → Int → Int → Int → Option (Int × Int × List (List Int) × List Int × Int × Int × Int × Int × Int)) {z : Int × Int × List (List Int) × List Int × Int × Int × Int × Int × Int} {top : Bool} {E : EE} {Xc : Ctx} (hE : EOK rclosest_B.m0 E) (hX : CxOK top Xc) (hrec : LeafOK Try.prog rclosest_B.c rclosest_B.n rclosest_B.m0 E Xc z (rclosest_l2_h rec)) (h0 : LeafOK Try.prog rclosest_B.c rclosest_B.n rclosest_B.m0 E Xc z rclosest_l2_e0) : LeafOK Try.prog rclosest_B.c rclosest_B.n rclosest_B.m0 E Xc z (rclosest_j1_k N rec) := leaf_of_ev (B := rclosest_B) (loops := []) (leaves := [rclosest_l2_h rec, rclosest_l2_e0]) (rclosest_all N) mixed trivial hE hX ⟨hrec, h0, trivial⟩ RetOK.no (fun p => rclosest_j1_eq N rec p.1.2.2.2.1 p.1.2.2.2.2.1 p.1.2.2.2.2.2.1 p.2.1.1 p.2.1.2.1 p.2.1.2.2.1 p.2.2.1.1 p.2.2.1.2.1 p.2.2.2.1.1 p.2.2.2.1.2.1)
noncomputable def rclosest_l2_L (N : Nat) : LoopS := { at_ := rclosest_l2_at, sta := rclosest_l2_st, exits := [([.c [1, 1, 1, 0, 1, 0, 0, 1, 1], .l [1, 1, 1, 0, 1, 0, 0], .b 0, .c [1, 1, 1, 1]], ⟨[1, 2, 6, 7, 8], ⟨[.own 0 0, .own 1 0, .own 2 0, .i .i64, .i .i64], [.segs [.sl (.sl (.int .i64)), .sl (.int .i64), .i .i64], .segs [.i .i64, .i .i64], .segs [.i .i64, .i .i64]]⟩⟩)], run := fun p k => (rclosest_l2 N N p.1.2.2.2.1 p.1.2.2.2.2.1 p.1.2.2.2.2.2.1 p.2.1.1 p.2.1.2.1 p.2.1.2.2.1 p.2.2.1.1 p.2.2.1.2.1 p.2.2.2.1.1 p.2.2.2.1.2.1).bind fun e => k (.inl (((), (), (), e.1, e.2.1, ()), ((e.2.2.1, e.2.2.2.1, e.2.2.2.2.1, ()), (e.2.2.2.2.2.1, e.2.2.2.2.2.2.1, ()), (e.2.2.2.2.2.2.2.1, e.2.2.2.2.2.2.2.2, ()), ()))) }
theorem rclosest_l2_eq (N n_ : Nat) (least : Int) (a : Int) (b : Int) (e : List (List Int)) (e2 : List Int) (e3 : Int) (g : Int) (g2 : Int) (best : Int) (best2 : Int) : ev (Z := Int × Int × List (List Int) × List Int × Int × Int × Int × Int × Int) Try.prog (rclosest_sp N) rclosest_B [] [rclosest_l2_h (rclosest_l2 N n_), rclosest_l2_e0, rclosest_j1_k N (rclosest_l2 N n_)] none 400 true rclosest_l2_at (stL rclosest_l2_st (((), (), (), least, a, b, ()), ((e, e2, e3, ()), (g, g2, ()), (best, best2, ()), ()))) (stH rclosest_l2_st (((), (), (), least, a, b, ()), ((e, e2, e3, ()), (g, g2, ()), (best, best2, ()), ()))) = rclosest_l2 N (n_ + 1) least a b e e2 e3 g g2 best best2 := by kernel_rfl
theorem rclosest_l2_ok (N : Nat) {top : Bool} : LoopOK Try.prog rclosest_B.c rclosest_B.n rclosest_B.m0 top (rclosest_l2_L N) := loop_of_ev (Z := Int × Int × List (List Int) × List Int × Int × Int × Int × Int × Int) (N := N) (fun m p => rclosest_l2 N m p.1.2.2.2.1 p.1.2.2.2.2.1 p.1.2.2.2.2.2.1 p.2.1.1 p.2.1.2.1 p.2.1.2.2.1 p.2.2.1.1 p.2.2.1.2.1 p.2.2.2.1.1 p.2.2.2.1.2.1) (fun e => .inl (((), (), (), e.1, e.2.1, ()), ((e.2.2.1, e.2.2.2.1, e.2.2.2.2.1, ()), (e.2.2.2.2.2.1, e.2.2.2.2.2.2.1, ()), (e.2.2.2.2.2.2.2.1, e.2.2.2.2.2.2.2.2, ()), ()))) (fun _ _ _ => rfl) (fun _ => rfl) (fun m z E Xc hE hX hrec hx => leaf_of_ev (B := rclosest_B) (loops := []) (leaves := [rclosest_l2_h (rclosest_l2 N m), rclosest_l2_e0, rclosest_j1_k N (rclosest_l2 N m)]) (rclosest_all N) mixed trivial hE hX ⟨hrec, (fun p hp => by obtain rfl := Option.some.inj hp; exact hx), rclosest_j1_lf N _ hE hX hrec (fun p hp => by obtain rfl := Option.some.inj hp; exact hx), trivial⟩ RetOK.no (fun p => rclosest_l2_eq N m p.1.2.2.2.1 p.1.2.2.2.2.1 p.1.2.2.2.2.2.1 p.2.1.1 p.2.1.2.1 p.2.1.2.2.1 p.2.2.1.1 p.2.2.1.2.1 p.2.2.2.1.1 p.2.2.2.1.2.1))
abbrev rclosest_l1_at : List PI := [.c [1, 1, 1, 0, 1, 0, 0, 0, 0], .c [1, 1, 1, 0, 1, 0, 0, 0, 1], .c [1, 1, 1, 0, 1, 0, 0, 1], .l [1, 1, 1, 0, 1, 0, 0], .b 0, .c [1, 1, 1, 1]]
abbrev rclosest_l1_st : Sta := ⟨[1, 2, 6, 7, 8], ⟨[.own 0 0, .own 1 0, .own 2 0, .i .i64, .i .i64], [.segs [.sl (.sl (.int .i64)), .sl (.int .i64), .i .i64], .segs [.i .i64, .i .i64], .segs [.i .i64, .i .i64]]⟩⟩
abbrev rclosest_l1_h (rec : Int → Int → (List (List Int)) → (List Int) → Int → Int → Int → Int → Int → Option (Int × Int × Int × Int × Int)) : Leaf (Int × Int × Int × Int × Int) := ⟨rclosest_l1_at, rclosest_l1_st, fun p => rec p.1.2.2.2.1 p.1.2.2.2.2.1 p.2.1.1 p.2.1.2.1 p.2.1.2.2.1 p.2.2.1.1 p.2.2.1.2.1 p.2.2.2.1.1 p.2.2.2.1.2.1⟩
abbrev rclosest_l1_e0 : Leaf (Int × Int × Int × Int × Int) := ⟨[.c [1, 1, 1, 1, 0], .c [1, 1, 1, 1, 1]], ⟨[2, 6, 7], ⟨[.own 0 0, .own 1 0, .i .i64], [.segs [.i .i64, .i .i64], .segs [.i .i64, .i .i64]]⟩⟩, fun p => some ((p.1.2.2.1, p.2.1.1, p.2.1.2.1, p.2.2.1.1, p.2.2.1.2.1))⟩
noncomputable def rclosest_l1_L (N : Nat) : LoopS := { at_ := rclosest_l1_at, sta := rclosest_l1_st, exits := [([.c [1, 1, 1, 1, 0], .c [1, 1, 1, 1, 1]], ⟨[2, 6, 7], ⟨[.own 0 0, .own 1 0, .i .i64], [.segs [.i .i64, .i .i64], .segs [.i .i64, .i .i64]]⟩⟩)], run := fun p k => (rclosest_l1 N N p.1.2.2.2.1 p.1.2.2.2.2.1 p.2.1.1 p.2.1.2.1 p.2.1.2.2.1 p.2.2.1.1 p.2.2.1.2.1 p.2.2.2.1.1 p.2.2.2.1.2.1).bind fun e => k (.inl (((), (), e.1, ()), ((e.2.1, e.2.2.1, ()), (e.2.2.2.1, e.2.2.2.2, ()), ()))) }
theorem rclosest_l1_eq (N n_ : Nat) (least : Int) (a : Int) (e : List (List Int)) (e2 : List Int) (e3 : Int) (g : Int) (g2 : Int) (best : Int) (best2 : Int) : ev (Z := Int × Int × Int × Int × Int) Try.prog (rclosest_sp N) rclosest_B [rclosest_l2_L N] [rclosest_l1_h (rclosest_l1 N n_), rclosest_l1_e0] none 400 true rclosest_l1_at (stL rclosest_l1_st (((), (), (), least, a, ()), ((e, e2, e3, ()), (g, g2, ()), (best, best2, ()), ()))) (stH rclosest_l1_st (((), (), (), least, a, ()), ((e, e2, e3, ()), (g, g2, ()), (best, best2, ()), ()))) = rclosest_l1 N (n_ + 1) least a e e2 e3 g g2 best best2 := by kernel_rfl
theorem rclosest_l1_ok (N : Nat) {top : Bool} : LoopOK Try.prog rclosest_B.c rclosest_B.n rclosest_B.m0 top (rclosest_l1_L N) := loop_of_ev (Z := Int × Int × Int × Int × Int) (N := N) (fun m p => rclosest_l1 N m p.1.2.2.2.1 p.1.2.2.2.2.1 p.2.1.1 p.2.1.2.1 p.2.1.2.2.1 p.2.2.1.1 p.2.2.1.2.1 p.2.2.2.1.1 p.2.2.2.1.2.1) (fun e => .inl (((), (), e.1, ()), ((e.2.1, e.2.2.1, ()), (e.2.2.2.1, e.2.2.2.2, ()), ()))) (fun _ _ _ => rfl) (fun _ => rfl) (fun m z E Xc hE hX hrec hx => leaf_of_ev (B := rclosest_B) (loops := [rclosest_l2_L N]) (leaves := [rclosest_l1_h (rclosest_l1 N m), rclosest_l1_e0]) (rclosest_all N) mixed ⟨rclosest_l2_ok N, trivial⟩ hE hX ⟨hrec, (fun p hp => by obtain rfl := Option.some.inj hp; exact hx), trivial⟩ RetOK.no (fun p => rclosest_l1_eq N m p.1.2.2.2.1 p.1.2.2.2.2.1 p.2.1.1 p.2.1.2.1 p.2.1.2.2.1 p.2.2.1.1 p.2.2.1.2.1 p.2.2.2.1.1 p.2.2.2.1.2.1))
abbrev rclosest_st : Sta := ⟨[0], ⟨[.agg [.sl (.sl (.int .i64)), .sl (.int .i64), .i .i64]], []⟩⟩
theorem rclosest_eq (N : Nat) (e : List (List Int)) (e2 : List Int) (e3 : Int) : ev (Z := Int × Int × Int × Int) Try.prog (rclosest_sp N) rclosest_B [rclosest_l2_L N, rclosest_l1_L N] [] (some rclosest_rt) 400 false [.c [0], .c [1]] (stL rclosest_st (((e, e2, e3, ()), ()), ())) (stH rclosest_st (((e, e2, e3, ()), ()), ())) = rclosest_S N e e2 e3 := by kernel_rfl
noncomputable def sp_rclosest (N : Nat) : Spec := { f := 63, ins := ⟨[.agg [.sl (.sl (.int .i64)), .sl (.int .i64), .i .i64]], []⟩, outs := [⟨[.agg [.i .i64, .i .i64], .i .i64, .i .i64], []⟩], run := fun p k => (rclosest_S N p.1.1.1 p.1.1.2.1 p.1.1.2.2.1).bind fun r => k (((r.1, r.2.1, ()), r.2.2.1, r.2.2.2, ()), ()) }
theorem sp_rclosest_ok (N : Nat) : SpecOK Try.prog (sp_rclosest N) := fn_sound (B := rclosest_B) (loops := [rclosest_l2_L N, rclosest_l1_L N]) (leaves := []) (fun p => rclosest_S N p.1.1.1 p.1.1.2.1 p.1.1.2.2.1) (fun r => (((r.1, r.2.1, ()), r.2.2.1, r.2.2.2, ()), ())) rclosest_rt (fun _ _ _ => rfl) (fun r z h => by cases h; rfl) Try.func63 (by kernel_rfl) (by kernel_rfl) (by kernel_rfl) rfl rfl (by kernel_rfl) (fun args w => Sem.pv_run _ _ _ (by kernel_rfl) w) (rclosest_all N) mixed ⟨rclosest_l2_ok N, rclosest_l1_ok N, trivial⟩ (fun z E Xc hE hX hret => trivial) (fun p => rclosest_eq N p.1.1.1 p.1.1.2.1 p.1.1.2.2.1)

def epairsl_l1 (N : Nat) : Nat → Int → (List (Int × Int)) → (List (Int × Int)) → Int → Int → (List (List Int)) → (List Int) → Int → (List (List Int)) → (List Int) → Int → (List (List Int)) → (List Int) → Int → Option ((Unit) ⊕ (Int × List (List Int) × List Int × Int × List (List Int) × List Int × Int × List (List Int) × List Int × Int))
  | 0, _, _, _, _, _, _, _, _, _, _, _, _, _, _ => none
  | n_ + 1, text, want, u, u2, u3, x, x2, x3, own, own2, own3, y, y2, y3 =>
    br (decide (u3 < u2))
      (idx u u3 fun x_15 =>
      idx want u3 fun x_16 =>
      br (!(decide (x_15.1 = x_16.1) && decide (x_15.2 = x_16.2)))
        (some (.inl ()))
        (chk (u3 + 1) <|
        epairsl_l1 N n_ text want u u2 (u3 + 1) x x2 x3 own own2 own3 y y2 y3))
      (some (.inr (text, x, x2, x3, own, own2, own3, y, y2, y3)))
def epairsl_S (N : Nat) (x : List (List Int)) (x2 : List Int) (x3 : Int) (text : Int) : Option Bool :=
  (great_S N x x2 x3).bind fun x_1 =>
  br x_1
    ((awake_S N).bind fun x_2 =>
    some x_2)
    ((wide_S N x x2 x3 4 3).bind fun x_3 =>
    br x_3
      ((awake_S N).bind fun x_4 =>
      some x_4)
      ((copye_S N x x2 x3).bind fun (x_5, y_6, y_7) =>
      (copye_S N x x2 x3).bind fun (x_8, y_9, y_10) =>
      (pairs_S N x_5 y_6 y_7).bind fun (x_11, y_12) =>
      (rpairs_S N x_8 y_9 y_10).bind fun (x_13, y_14) =>
      br (!decide (y_12 = y_14))
        (some false)
        (br (!decide ((x_11.length : Int) = (x_13.length : Int)))
          (some false)
          ((epairsl_l1 N N text x_13 x_11 (x_11.length : Int) 0 x x2 x3 x_5 y_6 y_7 x_8 y_9 y_10).bind fun e => match e with
          | .inl _ =>
            some false
          | .inr (text_17, x_18, x2_19, x3_20, own_21, own2_22, own3_23, y_24, y2_25, y3_26) =>
            (with__S N own_21 own2_22 own3_23 text_17).bind fun (x_27, y_28) =>
            (rwith_S N y_24 y2_25 y3_26 text_17).bind fun (x_29, y_30) =>
            br (!decide (y_28 = y_30))
              (some false)
              ((likei_S N x_27 x_29).bind fun x_31 =>
              br (!x_31)
                (some false)
                ((musts_S N own_21 own2_22 own3_23).bind fun (x_32, y_33) =>
                (rmusts_S N y_24 y2_25 y3_26).bind fun (x_34, y_35) =>
                br (!decide (y_33 = y_35))
                  (some false)
                  ((likei_S N x_32 x_34).bind fun x_36 =>
                  br (!x_36)
                    (some false)
                    ((closest_S N own_21 own2_22 own3_23).bind fun (x_37, y_38, y_39, y_40) =>
                    (rclosest_S N y_24 y2_25 y3_26).bind fun (x_41, y_42, y_43, y_44) =>
                    br (decide (x_37 = x_41) && decide (y_38 = y_42))
                      (br (decide (y_39 = y_43))
                        (br (decide (y_40 = y_44))
                          ((same_S N own_21 own2_22 own3_23 x_18 x2_19 x3_20).bind fun x_45 =>
                          br x_45
                            ((awake_S N).bind fun x_46 =>
                            some x_46)
                            (some false))
                          (some false))
                        (some false))
                      (some false)))))))))
noncomputable def epairsl_sp (N : Nat) : List Spec := [sp_pairs N, sp_with_ N, sp_closest N, sp_likei N, sp_awake N, sp_copye N, sp_musts N, sp_great N, sp_wide N, sp_same N, sp_rpairs N, sp_rwith N, sp_rmusts N, sp_rclosest N]
theorem epairsl_all (N : Nat) : AllP (SpecOK Try.prog) (epairsl_sp N) := ⟨sp_pairs_ok N, sp_with__ok N, sp_closest_ok N, sp_likei_ok N, sp_awake_ok N, sp_copye_ok N, sp_musts_ok N, sp_great_ok N, sp_wide_ok N, sp_same_ok N, sp_rpairs_ok N, sp_rwith_ok N, sp_rmusts_ok N, sp_rclosest_ok N, trivial⟩
noncomputable def epairsl_c : Code := (Try.f11.body).getD .skip
noncomputable abbrev epairsl_B : Body := { c := epairsl_c, n := 137, res := [.tmp 4], outs := [⟨[.b], []⟩], m0 := 0 }
abbrev epairsl_rt : altD epairsl_B.outs → Option Bool := fun r => some r.1.1
abbrev epairsl_l1_at : List PI := [.c [1, 1, 1, 1, 1, 1, 0, 1, 0, 0, 0], .c [1, 1, 1, 1, 1, 1, 0, 1, 0, 0, 1], .l [1, 1, 1, 1, 1, 1, 0, 1, 0, 0], .b 0, .c [1, 1, 1, 1, 1, 1, 1]]
abbrev epairsl_l1_st : Sta := ⟨[1, 2, 5, 6, 9, 50, 51, 52], ⟨[.i .i64, .own 0 0, .own 1 0, .own 2 0, .sl (.pair (.int .i64) (.int .i64)), .sl (.pair (.int .i64) (.int .i64)), .i .i64, .i .i64], [.segs [.sl (.sl (.int .i64)), .sl (.int .i64), .i .i64], .segs [.sl (.sl (.int .i64)), .sl (.int .i64), .i .i64], .segs [.sl (.sl (.int .i64)), .sl (.int .i64), .i .i64]]⟩⟩
abbrev epairsl_l1_h (rec : Int → (List (Int × Int)) → (List (Int × Int)) → Int → Int → (List (List Int)) → (List Int) → Int → (List (List Int)) → (List Int) → Int → (List (List Int)) → (List Int) → Int → Option ((Unit) ⊕ (Int × List (List Int) × List Int × Int × List (List Int) × List Int × Int × List (List Int) × List Int × Int))) : Leaf ((Unit) ⊕ (Int × List (List Int) × List Int × Int × List (List Int) × List Int × Int × List (List Int) × List Int × Int)) := ⟨epairsl_l1_at, epairsl_l1_st, fun p => rec p.1.1 p.1.2.2.2.2.1 p.1.2.2.2.2.2.1 p.1.2.2.2.2.2.2.1 p.1.2.2.2.2.2.2.2.1 p.2.1.1 p.2.1.2.1 p.2.1.2.2.1 p.2.2.1.1 p.2.2.1.2.1 p.2.2.1.2.2.1 p.2.2.2.1.1 p.2.2.2.1.2.1 p.2.2.2.1.2.2.1⟩
abbrev epairsl_l1_e0 : Leaf ((Unit) ⊕ (Int × List (List Int) × List Int × Int × List (List Int) × List Int × Int × List (List Int) × List Int × Int)) := ⟨[.c [1, 1, 1, 1, 1, 1, 0, 1, 0, 0, 1, 1, 0, 0, 1, 1, 0, 0], .c [1, 1, 1, 1, 1, 1, 0, 1, 0, 0, 1, 1, 0, 0, 1, 1, 0, 1], .b 1, .c [1, 1, 1, 1, 1, 1, 0, 1, 0, 0, 1, 1, 1], .l [1, 1, 1, 1, 1, 1, 0, 1, 0, 0], .b 0, .c [1, 1, 1, 1, 1, 1, 1]], ⟨[], ⟨[], []⟩⟩, fun p => some (.inl ())⟩
abbrev epairsl_l1_e1 : Leaf ((Unit) ⊕ (Int × List (List Int) × List Int × Int × List (List Int) × List Int × Int × List (List Int) × List Int × Int)) := ⟨[.c [1, 1, 1, 1, 1, 1, 1, 0], .c [1, 1, 1, 1, 1, 1, 1, 1]], ⟨[1, 2, 5, 6], ⟨[.i .i64, .own 0 0, .own 1 0, .own 2 0], [.segs [.sl (.sl (.int .i64)), .sl (.int .i64), .i .i64], .segs [.sl (.sl (.int .i64)), .sl (.int .i64), .i .i64], .segs [.sl (.sl (.int .i64)), .sl (.int .i64), .i .i64]]⟩⟩, fun p => some (.inr (p.1.1, p.2.1.1, p.2.1.2.1, p.2.1.2.2.1, p.2.2.1.1, p.2.2.1.2.1, p.2.2.1.2.2.1, p.2.2.2.1.1, p.2.2.2.1.2.1, p.2.2.2.1.2.2.1))⟩
noncomputable def epairsl_l1_L (N : Nat) : LoopS := { at_ := epairsl_l1_at, sta := epairsl_l1_st, exits := [([.c [1, 1, 1, 1, 1, 1, 0, 1, 0, 0, 1, 1, 0, 0, 1, 1, 0, 0], .c [1, 1, 1, 1, 1, 1, 0, 1, 0, 0, 1, 1, 0, 0, 1, 1, 0, 1], .b 1, .c [1, 1, 1, 1, 1, 1, 0, 1, 0, 0, 1, 1, 1], .l [1, 1, 1, 1, 1, 1, 0, 1, 0, 0], .b 0, .c [1, 1, 1, 1, 1, 1, 1]], ⟨[], ⟨[], []⟩⟩), ([.c [1, 1, 1, 1, 1, 1, 1, 0], .c [1, 1, 1, 1, 1, 1, 1, 1]], ⟨[1, 2, 5, 6], ⟨[.i .i64, .own 0 0, .own 1 0, .own 2 0], [.segs [.sl (.sl (.int .i64)), .sl (.int .i64), .i .i64], .segs [.sl (.sl (.int .i64)), .sl (.int .i64), .i .i64], .segs [.sl (.sl (.int .i64)), .sl (.int .i64), .i .i64]]⟩⟩)], run := fun p k => (epairsl_l1 N N p.1.1 p.1.2.2.2.2.1 p.1.2.2.2.2.2.1 p.1.2.2.2.2.2.2.1 p.1.2.2.2.2.2.2.2.1 p.2.1.1 p.2.1.2.1 p.2.1.2.2.1 p.2.2.1.1 p.2.2.1.2.1 p.2.2.1.2.2.1 p.2.2.2.1.1 p.2.2.2.1.2.1 p.2.2.2.1.2.2.1).bind fun e => match e with | .inl x => k (.inl ((), ())) | .inr x => k (.inr (.inl ((x.1, (), (), (), ()), ((x.2.1, x.2.2.1, x.2.2.2.1, ()), (x.2.2.2.2.1, x.2.2.2.2.2.1, x.2.2.2.2.2.2.1, ()), (x.2.2.2.2.2.2.2.1, x.2.2.2.2.2.2.2.2.1, x.2.2.2.2.2.2.2.2.2, ()), ())))) }
theorem epairsl_l1_eq (N n_ : Nat) (text : Int) (want : List (Int × Int)) (u : List (Int × Int)) (u2 : Int) (u3 : Int) (x : List (List Int)) (x2 : List Int) (x3 : Int) (own : List (List Int)) (own2 : List Int) (own3 : Int) (y : List (List Int)) (y2 : List Int) (y3 : Int) : ev (Z := (Unit) ⊕ (Int × List (List Int) × List Int × Int × List (List Int) × List Int × Int × List (List Int) × List Int × Int)) Try.prog (epairsl_sp N) epairsl_B [] [epairsl_l1_h (epairsl_l1 N n_), epairsl_l1_e0, epairsl_l1_e1] none 400 true epairsl_l1_at (stL epairsl_l1_st ((text, (), (), (), want, u, u2, u3, ()), ((x, x2, x3, ()), (own, own2, own3, ()), (y, y2, y3, ()), ()))) (stH epairsl_l1_st ((text, (), (), (), want, u, u2, u3, ()), ((x, x2, x3, ()), (own, own2, own3, ()), (y, y2, y3, ()), ()))) = epairsl_l1 N (n_ + 1) text want u u2 u3 x x2 x3 own own2 own3 y y2 y3 := by kernel_rfl
theorem epairsl_l1_ok (N : Nat) {top : Bool} : LoopOK Try.prog epairsl_B.c epairsl_B.n epairsl_B.m0 top (epairsl_l1_L N) := loop_of_ev (Z := (Unit) ⊕ (Int × List (List Int) × List Int × Int × List (List Int) × List Int × Int × List (List Int) × List Int × Int)) (N := N) (fun m p => epairsl_l1 N m p.1.1 p.1.2.2.2.2.1 p.1.2.2.2.2.2.1 p.1.2.2.2.2.2.2.1 p.1.2.2.2.2.2.2.2.1 p.2.1.1 p.2.1.2.1 p.2.1.2.2.1 p.2.2.1.1 p.2.2.1.2.1 p.2.2.1.2.2.1 p.2.2.2.1.1 p.2.2.2.1.2.1 p.2.2.2.1.2.2.1) (fun e => match e with | .inl x => .inl ((), ()) | .inr x => .inr (.inl ((x.1, (), (), (), ()), ((x.2.1, x.2.2.1, x.2.2.2.1, ()), (x.2.2.2.2.1, x.2.2.2.2.2.1, x.2.2.2.2.2.2.1, ()), (x.2.2.2.2.2.2.2.1, x.2.2.2.2.2.2.2.2.1, x.2.2.2.2.2.2.2.2.2, ()), ())))) (fun _ p k => bind_congr_ (epairsl_l1 N N p.1.1 p.1.2.2.2.2.1 p.1.2.2.2.2.2.1 p.1.2.2.2.2.2.2.1 p.1.2.2.2.2.2.2.2.1 p.2.1.1 p.2.1.2.1 p.2.1.2.2.1 p.2.2.1.1 p.2.2.1.2.1 p.2.2.1.2.2.1 p.2.2.2.1.1 p.2.2.2.1.2.1 p.2.2.2.1.2.2.1) _ _ (fun e => by rcases e with x | x <;> rfl)) (fun _ => rfl) (fun m z E Xc hE hX hrec hx => leaf_of_ev (B := epairsl_B) (loops := []) (leaves := [epairsl_l1_h (epairsl_l1 N m), epairsl_l1_e0, epairsl_l1_e1]) (epairsl_all N) mixed trivial hE hX ⟨hrec, (fun p hp => by obtain rfl := Option.some.inj hp; exact hx), (fun p hp => by obtain rfl := Option.some.inj hp; exact hx), trivial⟩ RetOK.no (fun p => epairsl_l1_eq N m p.1.1 p.1.2.2.2.2.1 p.1.2.2.2.2.2.1 p.1.2.2.2.2.2.2.1 p.1.2.2.2.2.2.2.2.1 p.2.1.1 p.2.1.2.1 p.2.1.2.2.1 p.2.2.1.1 p.2.2.1.2.1 p.2.2.1.2.2.1 p.2.2.2.1.1 p.2.2.2.1.2.1 p.2.2.2.1.2.2.1))
abbrev epairsl_st : Sta := ⟨[0, 1], ⟨[.agg [.sl (.sl (.int .i64)), .sl (.int .i64), .i .i64], .i .i64], []⟩⟩
theorem epairsl_eq (N : Nat) (x : List (List Int)) (x2 : List Int) (x3 : Int) (text : Int) : ev (Z := Bool) Try.prog (epairsl_sp N) epairsl_B [epairsl_l1_L N] [] (some epairsl_rt) 400 false [.c [0], .c [1]] (stL epairsl_st (((x, x2, x3, ()), text, ()), ())) (stH epairsl_st (((x, x2, x3, ()), text, ()), ())) = epairsl_S N x x2 x3 text := by kernel_rfl
noncomputable def sp_epairsl (N : Nat) : Spec := { f := 11, ins := ⟨[.agg [.sl (.sl (.int .i64)), .sl (.int .i64), .i .i64], .i .i64], []⟩, outs := [⟨[.b], []⟩], run := fun p k => (epairsl_S N p.1.1.1 p.1.1.2.1 p.1.1.2.2.1 p.1.2.1).bind fun r => k ((r, ()), ()) }
theorem sp_epairsl_ok (N : Nat) : SpecOK Try.prog (sp_epairsl N) := fn_sound (B := epairsl_B) (loops := [epairsl_l1_L N]) (leaves := []) (fun p => epairsl_S N p.1.1.1 p.1.1.2.1 p.1.1.2.2.1 p.1.2.1) (fun r => ((r, ()), ())) epairsl_rt (fun _ _ _ => rfl) (fun r z h => by cases h; rfl) Try.func11 (by kernel_rfl) (by kernel_rfl) (by kernel_rfl) rfl rfl (by kernel_rfl) (fun args w => Sem.pv_run _ _ _ (by kernel_rfl) w) (epairsl_all N) mixed ⟨epairsl_l1_ok N, trivial⟩ (fun z E Xc hE hX hret => trivial) (fun p => epairsl_eq N p.1.1.1 p.1.1.2.1 p.1.1.2.2.1 p.1.2.1)

end Go.Proofs.Ytfcnhnbnjdccfaa

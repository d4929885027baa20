/-
  Parts of a proof, put together: PS, PA.
  Conditions: none.
-/
import Derived.Test.YtgeijboidfadaaaZe
namespace Go.Proofs.Ytgeijboidfadaaa.Sl
set_option linter.all false
open Go

def in__S (N : Nat) (n : Int) (lo : Int) (hi : Int) : Option Bool :=
  br (decide (lo ≤ n))
    (some (decide (n ≤ hi)))
    (some false)
noncomputable def in__sp (N : Nat) : List Spec := []
theorem in__all (N : Nat) : AllP (SpecOK Try.prog) (in__sp N) := trivial
noncomputable def in__c : Code := (Try.f134.body).getD .skip
noncomputable abbrev in__B : Body := { c := in__c, n := 15, res := [.tmp 6], outs := [⟨[.b], []⟩], m0 := 0 }
abbrev in__rt : altD in__B.outs → Option Bool := fun r => some r.1.1
abbrev in__st : Sta := ⟨[0, 1, 2], ⟨[.i .i64, .i .i64, .i .i64], []⟩⟩
theorem in__eq (N : Nat) (n : Int) (lo : Int) (hi : Int) : ev (Z := Bool) Try.prog (in__sp N) in__B [] [] (some in__rt) 400 false [.c [0], .c [1]] (stL in__st ((n, lo, hi, ()), ())) (stH in__st ((n, lo, hi, ()), ())) = in__S N n lo hi := by kernel_rfl
noncomputable def sp_in_ (N : Nat) : Spec := { f := 134, ins := ⟨[.i .i64, .i .i64, .i .i64], []⟩, outs := [⟨[.b], []⟩], run := fun p k => (in__S N p.1.1 p.1.2.1 p.1.2.2.1).bind fun r => k ((r, ()), ()) }
theorem sp_in__ok (N : Nat) : SpecOK Try.prog (sp_in_ N) := fn_sound (B := in__B) (loops := []) (leaves := []) (fun p => in__S N p.1.1 p.1.2.1 p.1.2.2.1) (fun r => ((r, ()), ())) in__rt (fun _ _ _ => rfl) (fun r z h => by cases h; rfl) Try.func134 (by kernel_rfl) (by kernel_rfl) (by kernel_rfl) rfl rfl (by kernel_rfl) (fun args w => Sem.pv_run _ _ _ (by kernel_rfl) w) (in__all N) mixed trivial (fun z E Xc hE hX hret => trivial) (fun p => in__eq N p.1.1 p.1.2.1 p.1.2.2.1)

def man_S (N : Nat) (r : Int) (r2 : List (Int × Qa)) (m : Int) : Option Bool :=
  chk (r - 1) <|
  (in__S N m 0 (r - 1)).bind fun x_1 =>
  some x_1
noncomputable def man_sp (N : Nat) : List Spec := [sp_in_ N]
theorem man_all (N : Nat) : AllP (SpecOK Try.prog) (man_sp N) := ⟨sp_in__ok N, trivial⟩
noncomputable def man_c : Code := (Try.f135.body).getD .skip
noncomputable abbrev man_B : Body := { c := man_c, n := 10, res := [.tmp 4], outs := [⟨[.b], []⟩], m0 := 0 }
abbrev man_rt : altD man_B.outs → Option Bool := fun r => some r.1.1
abbrev man_st : Sta := ⟨[0, 1], ⟨[.agg [.i .i64, .sl Ql], .i .i64], []⟩⟩
theorem man_eq (N : Nat) (r : Int) (r2 : List (Int × Qa)) (m : Int) : ev (Z := Bool) Try.prog (man_sp N) man_B [] [] (some man_rt) 400 false [.c [0], .c [1]] (stL man_st (((r, r2, ()), m, ()), ())) (stH man_st (((r, r2, ()), m, ()), ())) = man_S N r r2 m := by kernel_rfl
noncomputable def sp_man (N : Nat) : Spec := { f := 135, ins := ⟨[.agg [.i .i64, .sl Ql], .i .i64], []⟩, outs := [⟨[.b], []⟩], run := fun p k => (man_S N p.1.1.1 p.1.1.2.1 p.1.2.1).bind fun r => k ((r, ()), ()) }
theorem sp_man_ok (N : Nat) : SpecOK Try.prog (sp_man N) := fn_sound (B := man_B) (loops := []) (leaves := []) (fun p => man_S N p.1.1.1 p.1.1.2.1 p.1.2.1) (fun r => ((r, ()), ())) man_rt (fun _ _ _ => rfl) (fun r z h => by cases h; rfl) Try.func135 (by kernel_rfl) (by kernel_rfl) (by kernel_rfl) rfl rfl (by kernel_rfl) (fun args w => Sem.pv_run _ _ _ (by kernel_rfl) w) (man_all N) mixed trivial (fun z E Xc hE hX hret => trivial) (fun p => man_eq N p.1.1.1 p.1.1.2.1 p.1.2.1)

def rising_l1 (N : Nat) : Nat → Qa → Int → Int → Option ((Unit) ⊕ (Unit))
  | 0, _, _, _ => none
  | n_ + 1, l, u, u2 =>
    br (decide (u2 < u))
      (br (decide (0 < u2))
        (idx l u2 fun x_1 =>
        chk (u2 - 1) <|
        idx l (u2 - 1) fun x_2 =>
        br (decide (x_1 ≤ x_2))
          (some (.inl ()))
          (chk (u2 + 1) <|
          rising_l1 N n_ l u (u2 + 1)))
        (chk (u2 + 1) <|
        rising_l1 N n_ l u (u2 + 1)))
      (some (.inr ()))
def rising_S (N : Nat) (l : List Int) : Option Bool :=
  (rising_l1 N N l (l.length : Int) 0).bind fun e => match e with
  | .inl _ =>
    some false
  | .inr _ =>
    some true
noncomputable def rising_sp (N : Nat) : List Spec := []
theorem rising_all (N : Nat) : AllP (SpecOK Try.prog) (rising_sp N) := trivial
noncomputable def rising_c : Code := (Try.f115.body).getD .skip
noncomputable abbrev rising_B : Body := { c := rising_c, n := 24, res := [.tmp 2], outs := [⟨[.b], []⟩], m0 := 0 }
abbrev rising_rt : altD rising_B.outs → Option Bool := fun r => some r.1.1
abbrev rising_l1_at : List PI := [.c [1, 0, 1, 0, 0, 0], .c [1, 0, 1, 0, 0, 1], .l [1, 0, 1, 0, 0], .b 0, .c [1, 1]]
abbrev rising_l1_st : Sta := ⟨[0, 5, 6], ⟨[.sl (.int .i64), .i .i64, .i .i64], []⟩⟩
abbrev rising_l1_h (rec : Qa → Int → Int → Option ((Unit) ⊕ (Unit))) : Leaf ((Unit) ⊕ (Unit)) := ⟨rising_l1_at, rising_l1_st, fun p => rec p.1.1 p.1.2.1 p.1.2.2.1⟩
abbrev rising_l1_e0 : Leaf ((Unit) ⊕ (Unit)) := ⟨[.c [1, 0, 1, 0, 0, 1, 1, 0, 0, 1, 1, 0, 0], .c [1, 0, 1, 0, 0, 1, 1, 0, 0, 1, 1, 0, 1], .b 1, .c [1, 0, 1, 0, 0, 1, 1, 1], .l [1, 0, 1, 0, 0], .b 0, .c [1, 1]], ⟨[], ⟨[], []⟩⟩, fun p => some (.inl ())⟩
abbrev rising_l1_e1 : Leaf ((Unit) ⊕ (Unit)) := ⟨[.c [1, 1, 0], .c [1, 1, 1]], ⟨[], ⟨[], []⟩⟩, fun p => some (.inr ())⟩
noncomputable def rising_l1_L (N : Nat) : LoopS := { at_ := rising_l1_at, sta := rising_l1_st, exits := [([.c [1, 0, 1, 0, 0, 1, 1, 0, 0, 1, 1, 0, 0], .c [1, 0, 1, 0, 0, 1, 1, 0, 0, 1, 1, 0, 1], .b 1, .c [1, 0, 1, 0, 0, 1, 1, 1], .l [1, 0, 1, 0, 0], .b 0, .c [1, 1]], ⟨[], ⟨[], []⟩⟩), ([.c [1, 1, 0], .c [1, 1, 1]], ⟨[], ⟨[], []⟩⟩)], run := fun p k => (rising_l1 N N p.1.1 p.1.2.1 p.1.2.2.1).bind fun e => match e with | .inl x => k (.inl ((), ())) | .inr x => k (.inr (.inl ((), ()))) }
theorem rising_l1_eq (N n_ : Nat) (l : List Int) (u : Int) (u2 : Int) : ev (Z := (Unit) ⊕ (Unit)) Try.prog (rising_sp N) rising_B [] [rising_l1_h (rising_l1 N n_), rising_l1_e0, rising_l1_e1] none 400 true rising_l1_at (stL rising_l1_st ((l, u, u2, ()), ())) (stH rising_l1_st ((l, u, u2, ()), ())) = rising_l1 N (n_ + 1) l u u2 := by kernel_rfl
theorem rising_l1_ok (N : Nat) {top : Bool} : LoopOK Try.prog rising_B.c rising_B.n rising_B.m0 top (rising_l1_L N) := loop_of_ev (Z := (Unit) ⊕ (Unit)) (N := N) (fun m p => rising_l1 N m p.1.1 p.1.2.1 p.1.2.2.1) (fun e => match e with | .inl x => .inl ((), ()) | .inr x => .inr (.inl ((), ()))) (fun _ p k => bind_congr_ (rising_l1 N N p.1.1 p.1.2.1 p.1.2.2.1) _ _ (fun e => by rcases e with x | x <;> rfl)) (fun _ => rfl) (fun m z E Xc hE hX hrec hx => leaf_of_ev (B := rising_B) (loops := []) (leaves := [rising_l1_h (rising_l1 N m), rising_l1_e0, rising_l1_e1]) (rising_all N) mixed trivial hE hX ⟨hrec, (fun p hp => by obtain rfl := Option.some.inj hp; exact hx), (fun p hp => by obtain rfl := Option.some.inj hp; exact hx), trivial⟩ RetOK.no (fun p => rising_l1_eq N m p.1.1 p.1.2.1 p.1.2.2.1))
abbrev rising_st : Sta := ⟨[0], ⟨[.sl (.int .i64)], []⟩⟩
theorem rising_eq (N : Nat) (l : List Int) : ev (Z := Bool) Try.prog (rising_sp N) rising_B [rising_l1_L N] [] (some rising_rt) 400 false [.c [0], .c [1]] (stL rising_st ((l, ()), ())) (stH rising_st ((l, ()), ())) = rising_S N l := by kernel_rfl
noncomputable def sp_rising (N : Nat) : Spec := { f := 115, ins := ⟨[.sl (.int .i64)], []⟩, outs := [⟨[.b], []⟩], run := fun p k => (rising_S N p.1.1).bind fun r => k ((r, ()), ()) }
theorem sp_rising_ok (N : Nat) : SpecOK Try.prog (sp_rising N) := fn_sound (B := rising_B) (loops := [rising_l1_L N]) (leaves := []) (fun p => rising_S N p.1.1) (fun r => ((r, ()), ())) rising_rt (fun _ _ _ => rfl) (fun r z h => by cases h; rfl) Try.func115 (by kernel_rfl) (by kernel_rfl) (by kernel_rfl) rfl rfl (by kernel_rfl) (fun args w => Sem.pv_run _ _ _ (by kernel_rfl) w) (rising_all N) mixed ⟨rising_l1_ok N, trivial⟩ (fun z E Xc hE hX hret => trivial) (fun p => rising_eq N p.1.1)

def every1m_S (N : Nat) (x : Int) (g : Int) (g2 : List (Int × Qa)) : Option (Bool × Int × Qn) :=
  (man_S N g g2 x).bind fun x_1 =>
  some ((!x_1), g, g2)
noncomputable def every1m_sp (N : Nat) : List Spec := [sp_man N]
theorem every1m_all (N : Nat) : AllP (SpecOK Try.prog) (every1m_sp N) := ⟨sp_man_ok N, trivial⟩
noncomputable def every1m_c : Code := (Try.f136.body).getD .skip
noncomputable abbrev every1m_B : Body := { c := every1m_c, n := 8, res := [.tmp 3], outs := [⟨[.b], [.segs [.fn 135 [.agg [.i .i64, .sl Ql]] []]]⟩], m0 := 1 }
abbrev every1m_rt : altD every1m_B.outs → Option (Bool × Int × Qn) := fun r => some (r.1.1, r.2.1.1.1.1.1, r.2.1.1.1.1.2.1)
abbrev every1m_st : Sta := ⟨[0, 1], ⟨[.i .i64, .own 0 0], [.segs [.fn 135 [.agg [.i .i64, .sl Ql]] []]]⟩⟩
theorem every1m_eq (N : Nat) (x : Int) (g : Int) (g2 : List (Int × Qa)) : ev (Z := Bool × Int × Qn) Try.prog (every1m_sp N) every1m_B [] [] (some every1m_rt) 400 false [.c [0], .c [1]] (stL every1m_st ((x, (), ()), (((((g, g2, ()), ()), ()), ()), ()))) (stH every1m_st ((x, (), ()), (((((g, g2, ()), ()), ()), ()), ()))) = every1m_S N x g g2 := by kernel_rfl
noncomputable def sp_every1m (N : Nat) : Spec := { f := 136, ins := ⟨[.i .i64, .own 0 0], [.segs [.fn 135 [.agg [.i .i64, .sl Ql]] []]]⟩, outs := [⟨[.b], [.segs [.fn 135 [.agg [.i .i64, .sl Ql]] []]]⟩], run := fun p k => (every1m_S N p.1.1 p.2.1.1.1.1.1 p.2.1.1.1.1.2.1).bind fun r => k ((r.1, ()), (((((r.2.1, r.2.2, ()), ()), ()), ()), ())) }
theorem sp_every1m_ok (N : Nat) : SpecOK Try.prog (sp_every1m N) := fn_sound (B := every1m_B) (loops := []) (leaves := []) (fun p => every1m_S N p.1.1 p.2.1.1.1.1.1 p.2.1.1.1.1.2.1) (fun r => ((r.1, ()), (((((r.2.1, r.2.2, ()), ()), ()), ()), ()))) every1m_rt (fun _ _ _ => rfl) (fun r z h => by cases h; rfl) Try.func136 (by kernel_rfl) (by kernel_rfl) (by kernel_rfl) rfl rfl (by kernel_rfl) (fun args w => Sem.pv_run _ _ _ (by kernel_rfl) w) (every1m_all N) mixed trivial (fun z E Xc hE hX hret => trivial) (fun p => every1m_eq N p.1.1 p.2.1.1.1.1.1 p.2.1.1.1.1.2.1)

def ixfm_l1 (N : Nat) : Nat → Qa → Int → Int → Int → Qn → Option ((Int × Int × Qn) ⊕ (Int × Qn))
  | 0, _, _, _, _, _ => none
  | n_ + 1, s, u, u2, f, f2 =>
    br (decide (u2 < u))
      (idx s u2 fun x_1 =>
      (every1m_S N x_1 f f2).bind fun (x_2, y_3, y_4) =>
      br x_2
        (some (.inl (u2, y_3, y_4)))
        (chk (u2 + 1) <|
        ixfm_l1 N n_ s u (u2 + 1) y_3 y_4))
      (some (.inr (f, f2)))
def ixfm_S (N : Nat) (s : List Int) (f : Int) (f2 : List (Int × Qa)) : Option (Int × Int × Qn) :=
  (ixfm_l1 N N s (s.length : Int) 0 f f2).bind fun e => match e with
  | .inl (i_5, g_6, g2_7) =>
    some (i_5, g_6, g2_7)
  | .inr (g_8, g2_9) =>
    some (-1, g_8, g2_9)
noncomputable def ixfm_sp (N : Nat) : List Spec := [sp_every1m N]
theorem ixfm_all (N : Nat) : AllP (SpecOK Try.prog) (ixfm_sp N) := ⟨sp_every1m_ok N, trivial⟩
noncomputable def ixfm_c : Code := (Try.f80.body).getD .skip
noncomputable abbrev ixfm_B : Body := { c := ixfm_c, n := 19, res := [.tmp 4], outs := [⟨[.i .i64], [.segs [.fn 135 [.agg [.i .i64, .sl Ql]] []]]⟩], m0 := 1 }
abbrev ixfm_rt : altD ixfm_B.outs → Option (Int × Int × Qn) := fun r => some (r.1.1, r.2.1.1.1.1.1, r.2.1.1.1.1.2.1)
abbrev ixfm_l1_at : List PI := [.c [1, 0, 1, 0, 0, 0], .c [1, 0, 1, 0, 0, 1], .l [1, 0, 1, 0, 0], .b 0, .c [1, 1]]
abbrev ixfm_l1_st : Sta := ⟨[0, 1, 7, 8], ⟨[.sl (.int .i64), .fn 136 [] [.own 0 0], .i .i64, .i .i64], [.segs [.fn 135 [.agg [.i .i64, .sl Ql]] []]]⟩⟩
abbrev ixfm_l1_h (rec : Qa → Int → Int → Int → Qn → Option ((Int × Int × Qn) ⊕ (Int × Qn))) : Leaf ((Int × Int × Qn) ⊕ (Int × Qn)) := ⟨ixfm_l1_at, ixfm_l1_st, fun p => rec p.1.1 p.1.2.2.1 p.1.2.2.2.1 p.2.1.1.1.1.1 p.2.1.1.1.1.2.1⟩
abbrev ixfm_l1_e0 : Leaf ((Int × Int × Qn) ⊕ (Int × Qn)) := ⟨[.c [1, 0, 1, 0, 0, 1, 1, 0, 0, 1, 1, 0, 0], .c [1, 0, 1, 0, 0, 1, 1, 0, 0, 1, 1, 0, 1], .b 1, .c [1, 0, 1, 0, 0, 1, 1, 1], .l [1, 0, 1, 0, 0], .b 0, .c [1, 1]], ⟨[5], ⟨[.i .i64], [.segs [.fn 135 [.agg [.i .i64, .sl Ql]] []]]⟩⟩, fun p => some (.inl (p.1.1, p.2.1.1.1.1.1, p.2.1.1.1.1.2.1))⟩
abbrev ixfm_l1_e1 : Leaf ((Int × Int × Qn) ⊕ (Int × Qn)) := ⟨[.c [1, 1, 0], .c [1, 1, 1]], ⟨[], ⟨[], [.segs [.fn 135 [.agg [.i .i64, .sl Ql]] []]]⟩⟩, fun p => some (.inr (p.2.1.1.1.1.1, p.2.1.1.1.1.2.1))⟩
noncomputable def ixfm_l1_L (N : Nat) : LoopS := { at_ := ixfm_l1_at, sta := ixfm_l1_st, exits := [([.c [1, 0, 1, 0, 0, 1, 1, 0, 0, 1, 1, 0, 0], .c [1, 0, 1, 0, 0, 1, 1, 0, 0, 1, 1, 0, 1], .b 1, .c [1, 0, 1, 0, 0, 1, 1, 1], .l [1, 0, 1, 0, 0], .b 0, .c [1, 1]], ⟨[5], ⟨[.i .i64], [.segs [.fn 135 [.agg [.i .i64, .sl Ql]] []]]⟩⟩), ([.c [1, 1, 0], .c [1, 1, 1]], ⟨[], ⟨[], [.segs [.fn 135 [.agg [.i .i64, .sl Ql]] []]]⟩⟩)], run := fun p k => (ixfm_l1 N N p.1.1 p.1.2.2.1 p.1.2.2.2.1 p.2.1.1.1.1.1 p.2.1.1.1.1.2.1).bind fun e => match e with | .inl x => k (.inl ((x.1, ()), (((((x.2.1, x.2.2, ()), ()), ()), ()), ()))) | .inr x => k (.inr (.inl ((), (((((x.1, x.2, ()), ()), ()), ()), ())))) }
theorem ixfm_l1_eq (N n_ : Nat) (s : List Int) (u : Int) (u2 : Int) (f : Int) (f2 : List (Int × Qa)) : ev (Z := (Int × Int × Qn) ⊕ (Int × Qn)) Try.prog (ixfm_sp N) ixfm_B [] [ixfm_l1_h (ixfm_l1 N n_), ixfm_l1_e0, ixfm_l1_e1] none 400 true ixfm_l1_at (stL ixfm_l1_st ((s, ((), ((), ())), u, u2, ()), (((((f, f2, ()), ()), ()), ()), ()))) (stH ixfm_l1_st ((s, ((), ((), ())), u, u2, ()), (((((f, f2, ()), ()), ()), ()), ()))) = ixfm_l1 N (n_ + 1) s u u2 f f2 := by kernel_rfl
theorem ixfm_l1_ok (N : Nat) {top : Bool} : LoopOK Try.prog ixfm_B.c ixfm_B.n ixfm_B.m0 top (ixfm_l1_L N) := loop_of_ev (Z := (Int × Int × Qn) ⊕ (Int × Qn)) (N := N) (fun m p => ixfm_l1 N m p.1.1 p.1.2.2.1 p.1.2.2.2.1 p.2.1.1.1.1.1 p.2.1.1.1.1.2.1) (fun e => match e with | .inl x => .inl ((x.1, ()), (((((x.2.1, x.2.2, ()), ()), ()), ()), ())) | .inr x => .inr (.inl ((), (((((x.1, x.2, ()), ()), ()), ()), ())))) (fun _ p k => bind_congr_ (ixfm_l1 N N p.1.1 p.1.2.2.1 p.1.2.2.2.1 p.2.1.1.1.1.1 p.2.1.1.1.1.2.1) _ _ (fun e => by rcases e with x | x <;> rfl)) (fun _ => rfl) (fun m z E Xc hE hX hrec hx => leaf_of_ev (B := ixfm_B) (loops := []) (leaves := [ixfm_l1_h (ixfm_l1 N m), ixfm_l1_e0, ixfm_l1_e1]) (ixfm_all N) mixed trivial hE hX ⟨hrec, (fun p hp => by obtain rfl := Option.some.inj hp; exact hx), (fun p hp => by obtain rfl := Option.some.inj hp; exact hx), trivial⟩ RetOK.no (fun p => ixfm_l1_eq N m p.1.1 p.1.2.2.1 p.1.2.2.2.1 p.2.1.1.1.1.1 p.2.1.1.1.1.2.1))
abbrev ixfm_st : Sta := ⟨[0, 1], ⟨[.sl (.int .i64), .fn 136 [] [.own 0 0]], [.segs [.fn 135 [.agg [.i .i64, .sl Ql]] []]]⟩⟩
theorem ixfm_eq (N : Nat) (s : List Int) (f : Int) (f2 : List (Int × Qa)) : ev (Z := Int × Int × Qn) Try.prog (ixfm_sp N) ixfm_B [ixfm_l1_L N] [] (some ixfm_rt) 400 false [.c [0], .c [1]] (stL ixfm_st ((s, ((), ((), ())), ()), (((((f, f2, ()), ()), ()), ()), ()))) (stH ixfm_st ((s, ((), ((), ())), ()), (((((f, f2, ()), ()), ()), ()), ()))) = ixfm_S N s f f2 := by kernel_rfl
noncomputable def sp_ixfm (N : Nat) : Spec := { f := 80, ins := ⟨[.sl (.int .i64), .fn 136 [] [.own 0 0]], [.segs [.fn 135 [.agg [.i .i64, .sl Ql]] []]]⟩, outs := [⟨[.i .i64], [.segs [.fn 135 [.agg [.i .i64, .sl Ql]] []]]⟩], run := fun p k => (ixfm_S N p.1.1 p.2.1.1.1.1.1 p.2.1.1.1.1.2.1).bind fun r => k ((r.1, ()), (((((r.2.1, r.2.2, ()), ()), ()), ()), ())) }
theorem sp_ixfm_ok (N : Nat) : SpecOK Try.prog (sp_ixfm N) := fn_sound (B := ixfm_B) (loops := [ixfm_l1_L N]) (leaves := []) (fun p => ixfm_S N p.1.1 p.2.1.1.1.1.1 p.2.1.1.1.1.2.1) (fun r => ((r.1, ()), (((((r.2.1, r.2.2, ()), ()), ()), ()), ()))) ixfm_rt (fun _ _ _ => rfl) (fun r z h => by cases h; rfl) Try.func80 (by kernel_rfl) (by kernel_rfl) (by kernel_rfl) rfl rfl (by kernel_rfl) (fun args w => Sem.pv_run _ _ _ (by kernel_rfl) w) (ixfm_all N) mixed ⟨ixfm_l1_ok N, trivial⟩ (fun z E Xc hE hX hret => trivial) (fun p => ixfm_eq N p.1.1 p.2.1.1.1.1.1 p.2.1.1.1.1.2.1)

def cofm_S (N : Nat) (s : List Int) (f : Int) (f2 : List (Int × Qa)) : Option (Bool × Int × Qn) :=
  (ixfm_S N s f f2).bind fun (x_1, y_2, y_3) =>
  some ((decide (0 ≤ x_1)), y_2, y_3)
noncomputable def cofm_sp (N : Nat) : List Spec := [sp_ixfm N]
theorem cofm_all (N : Nat) : AllP (SpecOK Try.prog) (cofm_sp N) := ⟨sp_ixfm_ok N, trivial⟩
noncomputable def cofm_c : Code := (Try.f93.body).getD .skip
noncomputable abbrev cofm_B : Body := { c := cofm_c, n := 9, res := [.tmp 4], outs := [⟨[.b], [.segs [.fn 135 [.agg [.i .i64, .sl Ql]] []]]⟩], m0 := 1 }
abbrev cofm_rt : altD cofm_B.outs → Option (Bool × Int × Qn) := fun r => some (r.1.1, r.2.1.1.1.1.1, r.2.1.1.1.1.2.1)
abbrev cofm_st : Sta := ⟨[0, 1], ⟨[.sl (.int .i64), .fn 136 [] [.own 0 0]], [.segs [.fn 135 [.agg [.i .i64, .sl Ql]] []]]⟩⟩
theorem cofm_eq (N : Nat) (s : List Int) (f : Int) (f2 : List (Int × Qa)) : ev (Z := Bool × Int × Qn) Try.prog (cofm_sp N) cofm_B [] [] (some cofm_rt) 400 false [.c [0], .c [1]] (stL cofm_st ((s, ((), ((), ())), ()), (((((f, f2, ()), ()), ()), ()), ()))) (stH cofm_st ((s, ((), ((), ())), ()), (((((f, f2, ()), ()), ()), ()), ()))) = cofm_S N s f f2 := by kernel_rfl
noncomputable def sp_cofm (N : Nat) : Spec := { f := 93, ins := ⟨[.sl (.int .i64), .fn 136 [] [.own 0 0]], [.segs [.fn 135 [.agg [.i .i64, .sl Ql]] []]]⟩, outs := [⟨[.b], [.segs [.fn 135 [.agg [.i .i64, .sl Ql]] []]]⟩], run := fun p k => (cofm_S N p.1.1 p.2.1.1.1.1.1 p.2.1.1.1.1.2.1).bind fun r => k ((r.1, ()), (((((r.2.1, r.2.2, ()), ()), ()), ()), ())) }
theorem sp_cofm_ok (N : Nat) : SpecOK Try.prog (sp_cofm N) := fn_sound (B := cofm_B) (loops := []) (leaves := []) (fun p => cofm_S N p.1.1 p.2.1.1.1.1.1 p.2.1.1.1.1.2.1) (fun r => ((r.1, ()), (((((r.2.1, r.2.2, ()), ()), ()), ()), ()))) cofm_rt (fun _ _ _ => rfl) (fun r z h => by cases h; rfl) Try.func93 (by kernel_rfl) (by kernel_rfl) (by kernel_rfl) rfl rfl (by kernel_rfl) (fun args w => Sem.pv_run _ _ _ (by kernel_rfl) w) (cofm_all N) mixed trivial (fun z E Xc hE hX hret => trivial) (fun p => cofm_eq N p.1.1 p.2.1.1.1.1.1 p.2.1.1.1.1.2.1)

def everym_S (N : Nat) (l : List Int) (so : Int) (so2 : List (Int × Qa)) : Option Bool :=
  (cofm_S N l so so2).bind fun (x_1, y_2, y_3) =>
  some (!x_1)
noncomputable def everym_sp (N : Nat) : List Spec := [sp_cofm N]
theorem everym_all (N : Nat) : AllP (SpecOK Try.prog) (everym_sp N) := ⟨sp_cofm_ok N, trivial⟩
noncomputable def everym_c : Code := (Try.f114.body).getD .skip
noncomputable abbrev everym_B : Body := { c := everym_c, n := 9, res := [.tmp 4], outs := [⟨[.b], []⟩], m0 := 0 }
abbrev everym_rt : altD everym_B.outs → Option Bool := fun r => some r.1.1
abbrev everym_st : Sta := ⟨[0, 1], ⟨[.sl (.int .i64), .fn 135 [.agg [.i .i64, .sl Ql]] []], []⟩⟩
theorem everym_eq (N : Nat) (l : List Int) (so : Int) (so2 : List (Int × Qa)) : ev (Z := Bool) Try.prog (everym_sp N) everym_B [] [] (some everym_rt) 400 false [.c [0], .c [1]] (stL everym_st ((l, (((so, so2, ()), ()), ()), ()), ())) (stH everym_st ((l, (((so, so2, ()), ()), ()), ()), ())) = everym_S N l so so2 := by kernel_rfl
noncomputable def sp_everym (N : Nat) : Spec := { f := 114, ins := ⟨[.sl (.int .i64), .fn 135 [.agg [.i .i64, .sl Ql]] []], []⟩, outs := [⟨[.b], []⟩], run := fun p k => (everym_S N p.1.1 p.1.2.1.1.1.1 p.1.2.1.1.1.2.1).bind fun r => k ((r, ()), ()) }
theorem sp_everym_ok (N : Nat) : SpecOK Try.prog (sp_everym N) := fn_sound (B := everym_B) (loops := []) (leaves := []) (fun p => everym_S N p.1.1 p.1.2.1.1.1.1 p.1.2.1.1.1.2.1) (fun r => ((r, ()), ())) everym_rt (fun _ _ _ => rfl) (fun r z h => by cases h; rfl) Try.func114 (by kernel_rfl) (by kernel_rfl) (by kernel_rfl) rfl rfl (by kernel_rfl) (fun args w => Sem.pv_run _ _ _ (by kernel_rfl) w) (everym_all N) mixed trivial (fun z E Xc hE hX hret => trivial) (fun p => everym_eq N p.1.1 p.1.2.1.1.1.1 p.1.2.1.1.1.2.1)

def check_l1 (N : Nat) : Nat → Qn → Int → Int → Int → Qn → Option ((Unit) ⊕ ((Unit) ⊕ ((Unit) ⊕ ((Unit) ⊕ (Unit)))))
  | 0, _, _, _, _, _ => none
  | n_ + 1, u, u2, u3, r, r2 =>
    br (decide (u3 < u2))
      (idx u u3 fun x_2 =>
      (in__S N x_2.1 1 3).bind fun x_3 =>
      br (!x_3)
        (some (.inl ()))
        ((everym_S N x_2.2 r r2).bind fun x_4 =>
        br (!x_4)
          (some (.inr (.inl ())))
          ((rising_S N x_2.2).bind fun x_5 =>
          br (!x_5)
            (some (.inr (.inr (.inl ()))))
            (br (decide ((x_2.2.length : Int) < x_2.1))
              (some (.inr (.inr (.inr (.inl ())))))
              (chk (u3 + 1) <|
              check_l1 N n_ u u2 (u3 + 1) r r2)))))
      (some (.inr (.inr (.inr (.inr ())))))
def check_S (N : Nat) (r : Int) (r2 : List (Int × Qa)) : Option Int :=
  (in__S N r 1 5).bind fun x_1 =>
  br (!x_1)
    (some 2)
    (br (decide (6 < (r2.length : Int)))
      (some 2)
      ((check_l1 N N r2 (r2.length : Int) 0 r r2).bind fun e => match e with
      | .inl _ =>
        some 3
      | .inr (.inl _) =>
        some 1
      | .inr (.inr (.inl _)) =>
        some 4
      | .inr (.inr (.inr (.inl _))) =>
        some 6
      | .inr (.inr (.inr (.inr _))) =>
        some 0))
noncomputable def check_sp (N : Nat) : List Spec := [sp_in_ N, sp_rising N, sp_everym N]
theorem check_all (N : Nat) : AllP (SpecOK Try.prog) (check_sp N) := ⟨sp_in__ok N, sp_rising_ok N, sp_everym_ok N, trivial⟩
noncomputable def check_c : Code := (Try.f112.body).getD .skip
noncomputable abbrev check_B : Body := { c := check_c, n := 47, res := [.tmp 2], outs := [⟨[.i .i64], []⟩], m0 := 0 }
abbrev check_rt : altD check_B.outs → Option Int := fun r => some r.1.1
abbrev check_l1_at : List PI := [.c [1, 1, 0, 1, 0, 0, 0], .c [1, 1, 0, 1, 0, 0, 1], .l [1, 1, 0, 1, 0, 0], .b 0, .c [1, 1, 1]]
abbrev check_l1_st : Sta := ⟨[1, 16, 17, 18], ⟨[.own 0 0, .sl Ql, .i .i64, .i .i64], [.segs [.i .i64, .sl Ql]]⟩⟩
abbrev check_l1_h (rec : Qn → Int → Int → Int → Qn → Option ((Unit) ⊕ ((Unit) ⊕ ((Unit) ⊕ ((Unit) ⊕ (Unit)))))) : Leaf ((Unit) ⊕ ((Unit) ⊕ ((Unit) ⊕ ((Unit) ⊕ (Unit))))) := ⟨check_l1_at, check_l1_st, fun p => rec p.1.2.1 p.1.2.2.1 p.1.2.2.2.1 p.2.1.1 p.2.1.2.1⟩
abbrev check_l1_e0 : Leaf ((Unit) ⊕ ((Unit) ⊕ ((Unit) ⊕ ((Unit) ⊕ (Unit))))) := ⟨[.c [1, 1, 0, 1, 0, 0, 1, 1, 0, 0, 1, 0, 1, 0, 0], .c [1, 1, 0, 1, 0, 0, 1, 1, 0, 0, 1, 0, 1, 0, 1], .b 2, .b 1, .c [1, 1, 0, 1, 0, 0, 1, 1, 1], .l [1, 1, 0, 1, 0, 0], .b 0, .c [1, 1, 1]], ⟨[], ⟨[], []⟩⟩, fun p => some (.inl ())⟩
abbrev check_l1_e1 : Leaf ((Unit) ⊕ ((Unit) ⊕ ((Unit) ⊕ ((Unit) ⊕ (Unit))))) := ⟨[.c [1, 1, 0, 1, 0, 0, 1, 1, 0, 0, 1, 0, 1, 1, 1, 0, 0], .c [1, 1, 0, 1, 0, 0, 1, 1, 0, 0, 1, 0, 1, 1, 1, 0, 1], .b 2, .b 1, .c [1, 1, 0, 1, 0, 0, 1, 1, 1], .l [1, 1, 0, 1, 0, 0], .b 0, .c [1, 1, 1]], ⟨[], ⟨[], []⟩⟩, fun p => some (.inr (.inl ()))⟩
abbrev check_l1_e2 : Leaf ((Unit) ⊕ ((Unit) ⊕ ((Unit) ⊕ ((Unit) ⊕ (Unit))))) := ⟨[.c [1, 1, 0, 1, 0, 0, 1, 1, 0, 0, 1, 0, 1, 1, 1, 1, 1, 0, 0], .c [1, 1, 0, 1, 0, 0, 1, 1, 0, 0, 1, 0, 1, 1, 1, 1, 1, 0, 1], .b 2, .b 1, .c [1, 1, 0, 1, 0, 0, 1, 1, 1], .l [1, 1, 0, 1, 0, 0], .b 0, .c [1, 1, 1]], ⟨[], ⟨[], []⟩⟩, fun p => some (.inr (.inr (.inl ())))⟩
abbrev check_l1_e3 : Leaf ((Unit) ⊕ ((Unit) ⊕ ((Unit) ⊕ ((Unit) ⊕ (Unit))))) := ⟨[.c [1, 1, 0, 1, 0, 0, 1, 1, 0, 0, 1, 0, 1, 1, 1, 1, 1, 1, 1, 0, 0], .c [1, 1, 0, 1, 0, 0, 1, 1, 0, 0, 1, 0, 1, 1, 1, 1, 1, 1, 1, 0, 1], .b 2, .b 1, .c [1, 1, 0, 1, 0, 0, 1, 1, 1], .l [1, 1, 0, 1, 0, 0], .b 0, .c [1, 1, 1]], ⟨[], ⟨[], []⟩⟩, fun p => some (.inr (.inr (.inr (.inl ()))))⟩
abbrev check_l1_e4 : Leaf ((Unit) ⊕ ((Unit) ⊕ ((Unit) ⊕ ((Unit) ⊕ (Unit))))) := ⟨[.c [1, 1, 1, 0], .c [1, 1, 1, 1]], ⟨[], ⟨[], []⟩⟩, fun p => some (.inr (.inr (.inr (.inr ()))))⟩
noncomputable def check_l1_L (N : Nat) : LoopS := { at_ := check_l1_at, sta := check_l1_st, exits := [([.c [1, 1, 0, 1, 0, 0, 1, 1, 0, 0, 1, 0, 1, 0, 0], .c [1, 1, 0, 1, 0, 0, 1, 1, 0, 0, 1, 0, 1, 0, 1], .b 2, .b 1, .c [1, 1, 0, 1, 0, 0, 1, 1, 1], .l [1, 1, 0, 1, 0, 0], .b 0, .c [1, 1, 1]], ⟨[], ⟨[], []⟩⟩), ([.c [1, 1, 0, 1, 0, 0, 1, 1, 0, 0, 1, 0, 1, 1, 1, 0, 0], .c [1, 1, 0, 1, 0, 0, 1, 1, 0, 0, 1, 0, 1, 1, 1, 0, 1], .b 2, .b 1, .c [1, 1, 0, 1, 0, 0, 1, 1, 1], .l [1, 1, 0, 1, 0, 0], .b 0, .c [1, 1, 1]], ⟨[], ⟨[], []⟩⟩), ([.c [1, 1, 0, 1, 0, 0, 1, 1, 0, 0, 1, 0, 1, 1, 1, 1, 1, 0, 0], .c [1, 1, 0, 1, 0, 0, 1, 1, 0, 0, 1, 0, 1, 1, 1, 1, 1, 0, 1], .b 2, .b 1, .c [1, 1, 0, 1, 0, 0, 1, 1, 1], .l [1, 1, 0, 1, 0, 0], .b 0, .c [1, 1, 1]], ⟨[], ⟨[], []⟩⟩), ([.c [1, 1, 0, 1, 0, 0, 1, 1, 0, 0, 1, 0, 1, 1, 1, 1, 1, 1, 1, 0, 0], .c [1, 1, 0, 1, 0, 0, 1, 1, 0, 0, 1, 0, 1, 1, 1, 1, 1, 1, 1, 0, 1], .b 2, .b 1, .c [1, 1, 0, 1, 0, 0, 1, 1, 1], .l [1, 1, 0, 1, 0, 0], .b 0, .c [1, 1, 1]], ⟨[], ⟨[], []⟩⟩), ([.c [1, 1, 1, 0], .c [1, 1, 1, 1]], ⟨[], ⟨[], []⟩⟩)], run := fun p k => (check_l1 N N p.1.2.1 p.1.2.2.1 p.1.2.2.2.1 p.2.1.1 p.2.1.2.1).bind fun e => match e with | .inl x => k (.inl ((), ())) | .inr (.inl x) => k (.inr (.inl ((), ()))) | .inr (.inr (.inl x)) => k (.inr (.inr (.inl ((), ())))) | .inr (.inr (.inr (.inl x))) => k (.inr (.inr (.inr (.inl ((), ()))))) | .inr (.inr (.inr (.inr x))) => k (.inr (.inr (.inr (.inr (.inl ((), ())))))) }
theorem check_l1_eq (N n_ : Nat) (u : List (Int × Qa)) (u2 : Int) (u3 : Int) (r : Int) (r2 : List (Int × Qa)) : ev (Z := (Unit) ⊕ ((Unit) ⊕ ((Unit) ⊕ ((Unit) ⊕ (Unit))))) Try.prog (check_sp N) check_B [] [check_l1_h (check_l1 N n_), check_l1_e0, check_l1_e1, check_l1_e2, check_l1_e3, check_l1_e4] none 400 true check_l1_at (stL check_l1_st (((), u, u2, u3, ()), ((r, r2, ()), ()))) (stH check_l1_st (((), u, u2, u3, ()), ((r, r2, ()), ()))) = check_l1 N (n_ + 1) u u2 u3 r r2 := by kernel_rfl
theorem check_l1_ok (N : Nat) {top : Bool} : LoopOK Try.prog check_B.c check_B.n check_B.m0 top (check_l1_L N) := loop_of_ev (Z := (Unit) ⊕ ((Unit) ⊕ ((Unit) ⊕ ((Unit) ⊕ (Unit))))) (N := N) (fun m p => check_l1 N m p.1.2.1 p.1.2.2.1 p.1.2.2.2.1 p.2.1.1 p.2.1.2.1) (fun e => match e with | .inl x => .inl ((), ()) | .inr (.inl x) => .inr (.inl ((), ())) | .inr (.inr (.inl x)) => .inr (.inr (.inl ((), ()))) | .inr (.inr (.inr (.inl x))) => .inr (.inr (.inr (.inl ((), ())))) | .inr (.inr (.inr (.inr x))) => .inr (.inr (.inr (.inr (.inl ((), ())))))) (fun _ p k => bind_congr_ (check_l1 N N p.1.2.1 p.1.2.2.1 p.1.2.2.2.1 p.2.1.1 p.2.1.2.1) _ _ (fun e => by rcases e with x | x | x | x | x <;> rfl)) (fun _ => rfl) (fun m z E Xc hE hX hrec hx => leaf_of_ev (B := check_B) (loops := []) (leaves := [check_l1_h (check_l1 N m), check_l1_e0, check_l1_e1, check_l1_e2, check_l1_e3, check_l1_e4]) (check_all N) mixed trivial hE hX ⟨hrec, (fun p hp => by obtain rfl := Option.some.inj hp; exact hx), (fun p hp => by obtain rfl := Option.some.inj hp; exact hx), (fun p hp => by obtain rfl := Option.some.inj hp; exact hx), (fun p hp => by obtain rfl := Option.some.inj hp; exact hx), (fun p hp => by obtain rfl := Option.some.inj hp; exact hx), trivial⟩ RetOK.no (fun p => check_l1_eq N m p.1.2.1 p.1.2.2.1 p.1.2.2.2.1 p.2.1.1 p.2.1.2.1))
abbrev check_st : Sta := ⟨[0], ⟨[.agg [.i .i64, .sl Ql]], []⟩⟩
theorem check_eq (N : Nat) (r : Int) (r2 : List (Int × Qa)) : ev (Z := Int) Try.prog (check_sp N) check_B [check_l1_L N] [] (some check_rt) 400 false [.c [0], .c [1]] (stL check_st (((r, r2, ()), ()), ())) (stH check_st (((r, r2, ()), ()), ())) = check_S N r r2 := by kernel_rfl
noncomputable def sp_check (N : Nat) : Spec := { f := 112, ins := ⟨[.agg [.i .i64, .sl Ql]], []⟩, outs := [⟨[.i .i64], []⟩], run := fun p k => (check_S N p.1.1.1 p.1.1.2.1).bind fun r => k ((r, ()), ()) }
theorem sp_check_ok (N : Nat) : SpecOK Try.prog (sp_check N) := fn_sound (B := check_B) (loops := [check_l1_L N]) (leaves := []) (fun p => check_S N p.1.1.1 p.1.1.2.1) (fun r => ((r, ()), ())) check_rt (fun _ _ _ => rfl) (fun r z h => by cases h; rfl) Try.func112 (by kernel_rfl) (by kernel_rfl) (by kernel_rfl) rfl rfl (by kernel_rfl) (fun args w => Sem.pv_run _ _ _ (by kernel_rfl) w) (check_all N) mixed ⟨check_l1_ok N, trivial⟩ (fun z E Xc hE hX hret => trivial) (fun p => check_eq N p.1.1.1 p.1.1.2.1)

def nmay_S (N : Nat) (n : Int) (n2 : List Int) (m : Int) : Option Bool :=
  (containsi_S N n2 m).bind fun x_1 =>
  some x_1
noncomputable def nmay_sp (N : Nat) : List Spec := [sp_containsi N]
theorem nmay_all (N : Nat) : AllP (SpecOK Try.prog) (nmay_sp N) := ⟨sp_containsi_ok N, trivial⟩
noncomputable def nmay_c : Code := (Try.f113.body).getD .skip
noncomputable abbrev nmay_B : Body := { c := nmay_c, n := 9, res := [.tmp 4], outs := [⟨[.b], []⟩], m0 := 0 }
abbrev nmay_rt : altD nmay_B.outs → Option Bool := fun r => some r.1.1
abbrev nmay_st : Sta := ⟨[0, 1], ⟨[.agg [.i .i64, .sl (.int .i64)], .i .i64], []⟩⟩
theorem nmay_eq (N : Nat) (n : Int) (n2 : List Int) (m : Int) : ev (Z := Bool) Try.prog (nmay_sp N) nmay_B [] [] (some nmay_rt) 400 false [.c [0], .c [1]] (stL nmay_st (((n, n2, ()), m, ()), ())) (stH nmay_st (((n, n2, ()), m, ()), ())) = nmay_S N n n2 m := by kernel_rfl
noncomputable def sp_nmay (N : Nat) : Spec := { f := 113, ins := ⟨[.agg [.i .i64, .sl (.int .i64)], .i .i64], []⟩, outs := [⟨[.b], []⟩], run := fun p k => (nmay_S N p.1.1.1 p.1.1.2.1 p.1.2.1).bind fun r => k ((r, ()), ()) }
theorem sp_nmay_ok (N : Nat) : SpecOK Try.prog (sp_nmay N) := fn_sound (B := nmay_B) (loops := []) (leaves := []) (fun p => nmay_S N p.1.1.1 p.1.1.2.1 p.1.2.1) (fun r => ((r, ()), ())) nmay_rt (fun _ _ _ => rfl) (fun r z h => by cases h; rfl) Try.func113 (by kernel_rfl) (by kernel_rfl) (by kernel_rfl) rfl rfl (by kernel_rfl) (fun args w => Sem.pv_run _ _ _ (by kernel_rfl) w) (nmay_all N) mixed trivial (fun z E Xc hE hX hret => trivial) (fun p => nmay_eq N p.1.1.1 p.1.1.2.1 p.1.2.1)

def every1y_S (N : Nat) (x : Int) (g : Int) (g2 : List Int) : Option (Bool × Int × List Int) :=
  (nmay_S N g g2 x).bind fun x_1 =>
  some ((!x_1), g, g2)
noncomputable def every1y_sp (N : Nat) : List Spec := [sp_nmay N]
theorem every1y_all (N : Nat) : AllP (SpecOK Try.prog) (every1y_sp N) := ⟨sp_nmay_ok N, trivial⟩
noncomputable def every1y_c : Code := (Try.f136.body).getD .skip
noncomputable abbrev every1y_B : Body := { c := every1y_c, n := 8, res := [.tmp 3], outs := [⟨[.b], [.segs [.fn 113 [.agg [.i .i64, .sl (.int .i64)]] []]]⟩], m0 := 1 }
abbrev every1y_rt : altD every1y_B.outs → Option (Bool × Int × List Int) := fun r => some (r.1.1, r.2.1.1.1.1.1, r.2.1.1.1.1.2.1)
abbrev every1y_st : Sta := ⟨[0, 1], ⟨[.i .i64, .own 0 0], [.segs [.fn 113 [.agg [.i .i64, .sl (.int .i64)]] []]]⟩⟩
theorem every1y_eq (N : Nat) (x : Int) (g : Int) (g2 : List Int) : ev (Z := Bool × Int × List Int) Try.prog (every1y_sp N) every1y_B [] [] (some every1y_rt) 400 false [.c [0], .c [1]] (stL every1y_st ((x, (), ()), (((((g, g2, ()), ()), ()), ()), ()))) (stH every1y_st ((x, (), ()), (((((g, g2, ()), ()), ()), ()), ()))) = every1y_S N x g g2 := by kernel_rfl
noncomputable def sp_every1y (N : Nat) : Spec := { f := 136, ins := ⟨[.i .i64, .own 0 0], [.segs [.fn 113 [.agg [.i .i64, .sl (.int .i64)]] []]]⟩, outs := [⟨[.b], [.segs [.fn 113 [.agg [.i .i64, .sl (.int .i64)]] []]]⟩], run := fun p k => (every1y_S N p.1.1 p.2.1.1.1.1.1 p.2.1.1.1.1.2.1).bind fun r => k ((r.1, ()), (((((r.2.1, r.2.2, ()), ()), ()), ()), ())) }
theorem sp_every1y_ok (N : Nat) : SpecOK Try.prog (sp_every1y N) := fn_sound (B := every1y_B) (loops := []) (leaves := []) (fun p => every1y_S N p.1.1 p.2.1.1.1.1.1 p.2.1.1.1.1.2.1) (fun r => ((r.1, ()), (((((r.2.1, r.2.2, ()), ()), ()), ()), ()))) every1y_rt (fun _ _ _ => rfl) (fun r z h => by cases h; rfl) Try.func136 (by kernel_rfl) (by kernel_rfl) (by kernel_rfl) rfl rfl (by kernel_rfl) (fun args w => Sem.pv_run _ _ _ (by kernel_rfl) w) (every1y_all N) mixed trivial (fun z E Xc hE hX hret => trivial) (fun p => every1y_eq N p.1.1 p.2.1.1.1.1.1 p.2.1.1.1.1.2.1)

def ixfy_l1 (N : Nat) : Nat → Qa → Int → Int → Int → Qa → Option ((Int × Int × List Int) ⊕ (Int × List Int))
  | 0, _, _, _, _, _ => none
  | n_ + 1, s, u, u2, f, f2 =>
    br (decide (u2 < u))
      (idx s u2 fun x_1 =>
      (every1y_S N x_1 f f2).bind fun (x_2, y_3, y_4) =>
      br x_2
        (some (.inl (u2, y_3, y_4)))
        (chk (u2 + 1) <|
        ixfy_l1 N n_ s u (u2 + 1) y_3 y_4))
      (some (.inr (f, f2)))
def ixfy_S (N : Nat) (s : List Int) (f : Int) (f2 : List Int) : Option (Int × Int × List Int) :=
  (ixfy_l1 N N s (s.length : Int) 0 f f2).bind fun e => match e with
  | .inl (i_5, g_6, g2_7) =>
    some (i_5, g_6, g2_7)
  | .inr (g_8, g2_9) =>
    some (-1, g_8, g2_9)
noncomputable def ixfy_sp (N : Nat) : List Spec := [sp_every1y N]
theorem ixfy_all (N : Nat) : AllP (SpecOK Try.prog) (ixfy_sp N) := ⟨sp_every1y_ok N, trivial⟩
noncomputable def ixfy_c : Code := (Try.f80.body).getD .skip
noncomputable abbrev ixfy_B : Body := { c := ixfy_c, n := 19, res := [.tmp 4], outs := [⟨[.i .i64], [.segs [.fn 113 [.agg [.i .i64, .sl (.int .i64)]] []]]⟩], m0 := 1 }
abbrev ixfy_rt : altD ixfy_B.outs → Option (Int × Int × List Int) := fun r => some (r.1.1, r.2.1.1.1.1.1, r.2.1.1.1.1.2.1)
abbrev ixfy_l1_at : List PI := [.c [1, 0, 1, 0, 0, 0], .c [1, 0, 1, 0, 0, 1], .l [1, 0, 1, 0, 0], .b 0, .c [1, 1]]
abbrev ixfy_l1_st : Sta := ⟨[0, 1, 7, 8], ⟨[.sl (.int .i64), .fn 136 [] [.own 0 0], .i .i64, .i .i64], [.segs [.fn 113 [.agg [.i .i64, .sl (.int .i64)]] []]]⟩⟩
abbrev ixfy_l1_h (rec : Qa → Int → Int → Int → Qa → Option ((Int × Int × List Int) ⊕ (Int × List Int))) : Leaf ((Int × Int × List Int) ⊕ (Int × List Int)) := ⟨ixfy_l1_at, ixfy_l1_st, fun p => rec p.1.1 p.1.2.2.1 p.1.2.2.2.1 p.2.1.1.1.1.1 p.2.1.1.1.1.2.1⟩
abbrev ixfy_l1_e0 : Leaf ((Int × Int × List Int) ⊕ (Int × List Int)) := ⟨[.c [1, 0, 1, 0, 0, 1, 1, 0, 0, 1, 1, 0, 0], .c [1, 0, 1, 0, 0, 1, 1, 0, 0, 1, 1, 0, 1], .b 1, .c [1, 0, 1, 0, 0, 1, 1, 1], .l [1, 0, 1, 0, 0], .b 0, .c [1, 1]], ⟨[5], ⟨[.i .i64], [.segs [.fn 113 [.agg [.i .i64, .sl (.int .i64)]] []]]⟩⟩, fun p => some (.inl (p.1.1, p.2.1.1.1.1.1, p.2.1.1.1.1.2.1))⟩
abbrev ixfy_l1_e1 : Leaf ((Int × Int × List Int) ⊕ (Int × List Int)) := ⟨[.c [1, 1, 0], .c [1, 1, 1]], ⟨[], ⟨[], [.segs [.fn 113 [.agg [.i .i64, .sl (.int .i64)]] []]]⟩⟩, fun p => some (.inr (p.2.1.1.1.1.1, p.2.1.1.1.1.2.1))⟩
noncomputable def ixfy_l1_L (N : Nat) : LoopS := { at_ := ixfy_l1_at, sta := ixfy_l1_st, exits := [([.c [1, 0, 1, 0, 0, 1, 1, 0, 0, 1, 1, 0, 0], .c [1, 0, 1, 0, 0, 1, 1, 0, 0, 1, 1, 0, 1], .b 1, .c [1, 0, 1, 0, 0, 1, 1, 1], .l [1, 0, 1, 0, 0], .b 0, .c [1, 1]], ⟨[5], ⟨[.i .i64], [.segs [.fn 113 [.agg [.i .i64, .sl (.int .i64)]] []]]⟩⟩), ([.c [1, 1, 0], .c [1, 1, 1]], ⟨[], ⟨[], [.segs [.fn 113 [.agg [.i .i64, .sl (.int .i64)]] []]]⟩⟩)], run := fun p k => (ixfy_l1 N N p.1.1 p.1.2.2.1 p.1.2.2.2.1 p.2.1.1.1.1.1 p.2.1.1.1.1.2.1).bind fun e => match e with | .inl x => k (.inl ((x.1, ()), (((((x.2.1, x.2.2, ()), ()), ()), ()), ()))) | .inr x => k (.inr (.inl ((), (((((x.1, x.2, ()), ()), ()), ()), ())))) }
theorem ixfy_l1_eq (N n_ : Nat) (s : List Int) (u : Int) (u2 : Int) (f : Int) (f2 : List Int) : ev (Z := (Int × Int × List Int) ⊕ (Int × List Int)) Try.prog (ixfy_sp N) ixfy_B [] [ixfy_l1_h (ixfy_l1 N n_), ixfy_l1_e0, ixfy_l1_e1] none 400 true ixfy_l1_at (stL ixfy_l1_st ((s, ((), ((), ())), u, u2, ()), (((((f, f2, ()), ()), ()), ()), ()))) (stH ixfy_l1_st ((s, ((), ((), ())), u, u2, ()), (((((f, f2, ()), ()), ()), ()), ()))) = ixfy_l1 N (n_ + 1) s u u2 f f2 := by kernel_rfl
theorem ixfy_l1_ok (N : Nat) {top : Bool} : LoopOK Try.prog ixfy_B.c ixfy_B.n ixfy_B.m0 top (ixfy_l1_L N) := loop_of_ev (Z := (Int × Int × List Int) ⊕ (Int × List Int)) (N := N) (fun m p => ixfy_l1 N m p.1.1 p.1.2.2.1 p.1.2.2.2.1 p.2.1.1.1.1.1 p.2.1.1.1.1.2.1) (fun e => match e with | .inl x => .inl ((x.1, ()), (((((x.2.1, x.2.2, ()), ()), ()), ()), ())) | .inr x => .inr (.inl ((), (((((x.1, x.2, ()), ()), ()), ()), ())))) (fun _ p k => bind_congr_ (ixfy_l1 N N p.1.1 p.1.2.2.1 p.1.2.2.2.1 p.2.1.1.1.1.1 p.2.1.1.1.1.2.1) _ _ (fun e => by rcases e with x | x <;> rfl)) (fun _ => rfl) (fun m z E Xc hE hX hrec hx => leaf_of_ev (B := ixfy_B) (loops := []) (leaves := [ixfy_l1_h (ixfy_l1 N m), ixfy_l1_e0, ixfy_l1_e1]) (ixfy_all N) mixed trivial hE hX ⟨hrec, (fun p hp => by obtain rfl := Option.some.inj hp; exact hx), (fun p hp => by obtain rfl := Option.some.inj hp; exact hx), trivial⟩ RetOK.no (fun p => ixfy_l1_eq N m p.1.1 p.1.2.2.1 p.1.2.2.2.1 p.2.1.1.1.1.1 p.2.1.1.1.1.2.1))
abbrev ixfy_st : Sta := ⟨[0, 1], ⟨[.sl (.int .i64), .fn 136 [] [.own 0 0]], [.segs [.fn 113 [.agg [.i .i64, .sl (.int .i64)]] []]]⟩⟩
theorem ixfy_eq (N : Nat) (s : List Int) (f : Int) (f2 : List Int) : ev (Z := Int × Int × List Int) Try.prog (ixfy_sp N) ixfy_B [ixfy_l1_L N] [] (some ixfy_rt) 400 false [.c [0], .c [1]] (stL ixfy_st ((s, ((), ((), ())), ()), (((((f, f2, ()), ()), ()), ()), ()))) (stH ixfy_st ((s, ((), ((), ())), ()), (((((f, f2, ()), ()), ()), ()), ()))) = ixfy_S N s f f2 := by kernel_rfl
noncomputable def sp_ixfy (N : Nat) : Spec := { f := 80, ins := ⟨[.sl (.int .i64), .fn 136 [] [.own 0 0]], [.segs [.fn 113 [.agg [.i .i64, .sl (.int .i64)]] []]]⟩, outs := [⟨[.i .i64], [.segs [.fn 113 [.agg [.i .i64, .sl (.int .i64)]] []]]⟩], run := fun p k => (ixfy_S N p.1.1 p.2.1.1.1.1.1 p.2.1.1.1.1.2.1).bind fun r => k ((r.1, ()), (((((r.2.1, r.2.2, ()), ()), ()), ()), ())) }
theorem sp_ixfy_ok (N : Nat) : SpecOK Try.prog (sp_ixfy N) := fn_sound (B := ixfy_B) (loops := [ixfy_l1_L N]) (leaves := []) (fun p => ixfy_S N p.1.1 p.2.1.1.1.1.1 p.2.1.1.1.1.2.1) (fun r => ((r.1, ()), (((((r.2.1, r.2.2, ()), ()), ()), ()), ()))) ixfy_rt (fun _ _ _ => rfl) (fun r z h => by cases h; rfl) Try.func80 (by kernel_rfl) (by kernel_rfl) (by kernel_rfl) rfl rfl (by kernel_rfl) (fun args w => Sem.pv_run _ _ _ (by kernel_rfl) w) (ixfy_all N) mixed ⟨ixfy_l1_ok N, trivial⟩ (fun z E Xc hE hX hret => trivial) (fun p => ixfy_eq N p.1.1 p.2.1.1.1.1.1 p.2.1.1.1.1.2.1)

def cofy_S (N : Nat) (s : List Int) (f : Int) (f2 : List Int) : Option (Bool × Int × List Int) :=
  (ixfy_S N s f f2).bind fun (x_1, y_2, y_3) =>
  some ((decide (0 ≤ x_1)), y_2, y_3)
noncomputable def cofy_sp (N : Nat) : List Spec := [sp_ixfy N]
theorem cofy_all (N : Nat) : AllP (SpecOK Try.prog) (cofy_sp N) := ⟨sp_ixfy_ok N, trivial⟩
noncomputable def cofy_c : Code := (Try.f93.body).getD .skip
noncomputable abbrev cofy_B : Body := { c := cofy_c, n := 9, res := [.tmp 4], outs := [⟨[.b], [.segs [.fn 113 [.agg [.i .i64, .sl (.int .i64)]] []]]⟩], m0 := 1 }
abbrev cofy_rt : altD cofy_B.outs → Option (Bool × Int × List Int) := fun r => some (r.1.1, r.2.1.1.1.1.1, r.2.1.1.1.1.2.1)
abbrev cofy_st : Sta := ⟨[0, 1], ⟨[.sl (.int .i64), .fn 136 [] [.own 0 0]], [.segs [.fn 113 [.agg [.i .i64, .sl (.int .i64)]] []]]⟩⟩
theorem cofy_eq (N : Nat) (s : List Int) (f : Int) (f2 : List Int) : ev (Z := Bool × Int × List Int) Try.prog (cofy_sp N) cofy_B [] [] (some cofy_rt) 400 false [.c [0], .c [1]] (stL cofy_st ((s, ((), ((), ())), ()), (((((f, f2, ()), ()), ()), ()), ()))) (stH cofy_st ((s, ((), ((), ())), ()), (((((f, f2, ()), ()), ()), ()), ()))) = cofy_S N s f f2 := by kernel_rfl
noncomputable def sp_cofy (N : Nat) : Spec := { f := 93, ins := ⟨[.sl (.int .i64), .fn 136 [] [.own 0 0]], [.segs [.fn 113 [.agg [.i .i64, .sl (.int .i64)]] []]]⟩, outs := [⟨[.b], [.segs [.fn 113 [.agg [.i .i64, .sl (.int .i64)]] []]]⟩], run := fun p k => (cofy_S N p.1.1 p.2.1.1.1.1.1 p.2.1.1.1.1.2.1).bind fun r => k ((r.1, ()), (((((r.2.1, r.2.2, ()), ()), ()), ()), ())) }
theorem sp_cofy_ok (N : Nat) : SpecOK Try.prog (sp_cofy N) := fn_sound (B := cofy_B) (loops := []) (leaves := []) (fun p => cofy_S N p.1.1 p.2.1.1.1.1.1 p.2.1.1.1.1.2.1) (fun r => ((r.1, ()), (((((r.2.1, r.2.2, ()), ()), ()), ()), ()))) cofy_rt (fun _ _ _ => rfl) (fun r z h => by cases h; rfl) Try.func93 (by kernel_rfl) (by kernel_rfl) (by kernel_rfl) rfl rfl (by kernel_rfl) (fun args w => Sem.pv_run _ _ _ (by kernel_rfl) w) (cofy_all N) mixed trivial (fun z E Xc hE hX hret => trivial) (fun p => cofy_eq N p.1.1 p.2.1.1.1.1.1 p.2.1.1.1.1.2.1)

def everyy_S (N : Nat) (l : List Int) (so : Int) (so2 : List Int) : Option Bool :=
  (cofy_S N l so so2).bind fun (x_1, y_2, y_3) =>
  some (!x_1)
noncomputable def everyy_sp (N : Nat) : List Spec := [sp_cofy N]
theorem everyy_all (N : Nat) : AllP (SpecOK Try.prog) (everyy_sp N) := ⟨sp_cofy_ok N, trivial⟩
noncomputable def everyy_c : Code := (Try.f114.body).getD .skip
noncomputable abbrev everyy_B : Body := { c := everyy_c, n := 9, res := [.tmp 4], outs := [⟨[.b], []⟩], m0 := 0 }
abbrev everyy_rt : altD everyy_B.outs → Option Bool := fun r => some r.1.1
abbrev everyy_st : Sta := ⟨[0, 1], ⟨[.sl (.int .i64), .fn 113 [.agg [.i .i64, .sl (.int .i64)]] []], []⟩⟩
theorem everyy_eq (N : Nat) (l : List Int) (so : Int) (so2 : List Int) : ev (Z := Bool) Try.prog (everyy_sp N) everyy_B [] [] (some everyy_rt) 400 false [.c [0], .c [1]] (stL everyy_st ((l, (((so, so2, ()), ()), ()), ()), ())) (stH everyy_st ((l, (((so, so2, ()), ()), ()), ()), ())) = everyy_S N l so so2 := by kernel_rfl
noncomputable def sp_everyy (N : Nat) : Spec := { f := 114, ins := ⟨[.sl (.int .i64), .fn 113 [.agg [.i .i64, .sl (.int .i64)]] []], []⟩, outs := [⟨[.b], []⟩], run := fun p k => (everyy_S N p.1.1 p.1.2.1.1.1.1 p.1.2.1.1.1.2.1).bind fun r => k ((r, ()), ()) }
theorem sp_everyy_ok (N : Nat) : SpecOK Try.prog (sp_everyy N) := fn_sound (B := everyy_B) (loops := []) (leaves := []) (fun p => everyy_S N p.1.1 p.1.2.1.1.1.1 p.1.2.1.1.1.2.1) (fun r => ((r, ()), ())) everyy_rt (fun _ _ _ => rfl) (fun r z h => by cases h; rfl) Try.func114 (by kernel_rfl) (by kernel_rfl) (by kernel_rfl) rfl rfl (by kernel_rfl) (fun args w => Sem.pv_run _ _ _ (by kernel_rfl) w) (everyy_all N) mixed trivial (fun z E Xc hE hX hret => trivial) (fun p => everyy_eq N p.1.1 p.1.2.1.1.1.1 p.1.2.1.1.1.2.1)

def checkshare_l1 (N : Nat) : Nat → Qk → Int → Int → Int → Qn → Option ((Unit) ⊕ ((Unit) ⊕ ((Unit) ⊕ (Unit))))
  | 0, _, _, _, _, _ => none
  | n_ + 1, u, u2, u3, r, r2 =>
    br (decide (u3 < u2))
      (idx u u3 fun x_2 =>
      idx r2 u3 fun x_3 =>
      idx r2 u3 fun x_4 =>
      br (!decide ((x_2.length : Int) = x_4.1))
        (some (.inl ()))
        ((everyy_S N x_2 x_3.1 x_3.2).bind fun x_5 =>
        br (!x_5)
          (some (.inr (.inl ())))
          ((rising_S N x_2).bind fun x_6 =>
          br (!x_6)
            (some (.inr (.inr (.inl ()))))
            (chk (u3 + 1) <|
            checkshare_l1 N n_ u u2 (u3 + 1) r r2))))
      (some (.inr (.inr (.inr ()))))
def checkshare_S (N : Nat) (r : Int) (r2 : List (Int × Qa)) (share : List Qa) : Option Int :=
  (check_S N r r2).bind fun x_1 =>
  br (!decide (x_1 = 0))
    (some x_1)
    (br (!decide ((share.length : Int) = (r2.length : Int)))
      (some 2)
      ((checkshare_l1 N N share (share.length : Int) 0 r r2).bind fun e => match e with
      | .inl _ =>
        some 2
      | .inr (.inl _) =>
        some 1
      | .inr (.inr (.inl _)) =>
        some 4
      | .inr (.inr (.inr _)) =>
        some 0))
noncomputable def checkshare_sp (N : Nat) : List Spec := [sp_rising N, sp_check N, sp_everyy N]
theorem checkshare_all (N : Nat) : AllP (SpecOK Try.prog) (checkshare_sp N) := ⟨sp_rising_ok N, sp_check_ok N, sp_everyy_ok N, trivial⟩
noncomputable def checkshare_c : Code := (Try.f75.body).getD .skip
noncomputable abbrev checkshare_B : Body := { c := checkshare_c, n := 53, res := [.tmp 4], outs := [⟨[.i .i64], []⟩], m0 := 0 }
abbrev checkshare_rt : altD checkshare_B.outs → Option Int := fun r => some r.1.1
abbrev checkshare_l1_at : List PI := [.c [1, 1, 1, 0, 1, 0, 0, 0], .c [1, 1, 1, 0, 1, 0, 0, 1], .l [1, 1, 1, 0, 1, 0, 0], .b 0, .c [1, 1, 1, 1]]
abbrev checkshare_l1_st : Sta := ⟨[2, 20, 21, 22], ⟨[.own 0 0, .sl Qb, .i .i64, .i .i64], [.segs [.i .i64, .sl Ql]]⟩⟩
abbrev checkshare_l1_h (rec : Qk → Int → Int → Int → Qn → Option ((Unit) ⊕ ((Unit) ⊕ ((Unit) ⊕ (Unit))))) : Leaf ((Unit) ⊕ ((Unit) ⊕ ((Unit) ⊕ (Unit)))) := ⟨checkshare_l1_at, checkshare_l1_st, fun p => rec p.1.2.1 p.1.2.2.1 p.1.2.2.2.1 p.2.1.1 p.2.1.2.1⟩
abbrev checkshare_l1_e0 : Leaf ((Unit) ⊕ ((Unit) ⊕ ((Unit) ⊕ (Unit)))) := ⟨[.c [1, 1, 1, 0, 1, 0, 0, 1, 1, 0, 0, 1, 1, 0, 1, 0, 0], .c [1, 1, 1, 0, 1, 0, 0, 1, 1, 0, 0, 1, 1, 0, 1, 0, 1], .b 2, .b 1, .c [1, 1, 1, 0, 1, 0, 0, 1, 1, 1], .l [1, 1, 1, 0, 1, 0, 0], .b 0, .c [1, 1, 1, 1]], ⟨[], ⟨[], []⟩⟩, fun p => some (.inl ())⟩
abbrev checkshare_l1_e1 : Leaf ((Unit) ⊕ ((Unit) ⊕ ((Unit) ⊕ (Unit)))) := ⟨[.c [1, 1, 1, 0, 1, 0, 0, 1, 1, 0, 0, 1, 1, 0, 1, 1, 1, 0, 0], .c [1, 1, 1, 0, 1, 0, 0, 1, 1, 0, 0, 1, 1, 0, 1, 1, 1, 0, 1], .b 2, .b 1, .c [1, 1, 1, 0, 1, 0, 0, 1, 1, 1], .l [1, 1, 1, 0, 1, 0, 0], .b 0, .c [1, 1, 1, 1]], ⟨[], ⟨[], []⟩⟩, fun p => some (.inr (.inl ()))⟩
abbrev checkshare_l1_e2 : Leaf ((Unit) ⊕ ((Unit) ⊕ ((Unit) ⊕ (Unit)))) := ⟨[.c [1, 1, 1, 0, 1, 0, 0, 1, 1, 0, 0, 1, 1, 0, 1, 1, 1, 1, 1, 0, 0], .c [1, 1, 1, 0, 1, 0, 0, 1, 1, 0, 0, 1, 1, 0, 1, 1, 1, 1, 1, 0, 1], .b 2, .b 1, .c [1, 1, 1, 0, 1, 0, 0, 1, 1, 1], .l [1, 1, 1, 0, 1, 0, 0], .b 0, .c [1, 1, 1, 1]], ⟨[], ⟨[], []⟩⟩, fun p => some (.inr (.inr (.inl ())))⟩
abbrev checkshare_l1_e3 : Leaf ((Unit) ⊕ ((Unit) ⊕ ((Unit) ⊕ (Unit)))) := ⟨[.c [1, 1, 1, 1, 0], .c [1, 1, 1, 1, 1]], ⟨[], ⟨[], []⟩⟩, fun p => some (.inr (.inr (.inr ())))⟩
noncomputable def checkshare_l1_L (N : Nat) : LoopS := { at_ := checkshare_l1_at, sta := checkshare_l1_st, exits := [([.c [1, 1, 1, 0, 1, 0, 0, 1, 1, 0, 0, 1, 1, 0, 1, 0, 0], .c [1, 1, 1, 0, 1, 0, 0, 1, 1, 0, 0, 1, 1, 0, 1, 0, 1], .b 2, .b 1, .c [1, 1, 1, 0, 1, 0, 0, 1, 1, 1], .l [1, 1, 1, 0, 1, 0, 0], .b 0, .c [1, 1, 1, 1]], ⟨[], ⟨[], []⟩⟩), ([.c [1, 1, 1, 0, 1, 0, 0, 1, 1, 0, 0, 1, 1, 0, 1, 1, 1, 0, 0], .c [1, 1, 1, 0, 1, 0, 0, 1, 1, 0, 0, 1, 1, 0, 1, 1, 1, 0, 1], .b 2, .b 1, .c [1, 1, 1, 0, 1, 0, 0, 1, 1, 1], .l [1, 1, 1, 0, 1, 0, 0], .b 0, .c [1, 1, 1, 1]], ⟨[], ⟨[], []⟩⟩), ([.c [1, 1, 1, 0, 1, 0, 0, 1, 1, 0, 0, 1, 1, 0, 1, 1, 1, 1, 1, 0, 0], .c [1, 1, 1, 0, 1, 0, 0, 1, 1, 0, 0, 1, 1, 0, 1, 1, 1, 1, 1, 0, 1], .b 2, .b 1, .c [1, 1, 1, 0, 1, 0, 0, 1, 1, 1], .l [1, 1, 1, 0, 1, 0, 0], .b 0, .c [1, 1, 1, 1]], ⟨[], ⟨[], []⟩⟩), ([.c [1, 1, 1, 1, 0], .c [1, 1, 1, 1, 1]], ⟨[], ⟨[], []⟩⟩)], run := fun p k => (checkshare_l1 N N p.1.2.1 p.1.2.2.1 p.1.2.2.2.1 p.2.1.1 p.2.1.2.1).bind fun e => match e with | .inl x => k (.inl ((), ())) | .inr (.inl x) => k (.inr (.inl ((), ()))) | .inr (.inr (.inl x)) => k (.inr (.inr (.inl ((), ())))) | .inr (.inr (.inr x)) => k (.inr (.inr (.inr (.inl ((), ()))))) }
theorem checkshare_l1_eq (N n_ : Nat) (u : List Qa) (u2 : Int) (u3 : Int) (r : Int) (r2 : List (Int × Qa)) : ev (Z := (Unit) ⊕ ((Unit) ⊕ ((Unit) ⊕ (Unit)))) Try.prog (checkshare_sp N) checkshare_B [] [checkshare_l1_h (checkshare_l1 N n_), checkshare_l1_e0, checkshare_l1_e1, checkshare_l1_e2, checkshare_l1_e3] none 400 true checkshare_l1_at (stL checkshare_l1_st (((), u, u2, u3, ()), ((r, r2, ()), ()))) (stH checkshare_l1_st (((), u, u2, u3, ()), ((r, r2, ()), ()))) = checkshare_l1 N (n_ + 1) u u2 u3 r r2 := by kernel_rfl
theorem checkshare_l1_ok (N : Nat) {top : Bool} : LoopOK Try.prog checkshare_B.c checkshare_B.n checkshare_B.m0 top (checkshare_l1_L N) := loop_of_ev (Z := (Unit) ⊕ ((Unit) ⊕ ((Unit) ⊕ (Unit)))) (N := N) (fun m p => checkshare_l1 N m p.1.2.1 p.1.2.2.1 p.1.2.2.2.1 p.2.1.1 p.2.1.2.1) (fun e => match e with | .inl x => .inl ((), ()) | .inr (.inl x) => .inr (.inl ((), ())) | .inr (.inr (.inl x)) => .inr (.inr (.inl ((), ()))) | .inr (.inr (.inr x)) => .inr (.inr (.inr (.inl ((), ()))))) (fun _ p k => bind_congr_ (checkshare_l1 N N p.1.2.1 p.1.2.2.1 p.1.2.2.2.1 p.2.1.1 p.2.1.2.1) _ _ (fun e => by rcases e with x | x | x | x <;> rfl)) (fun _ => rfl) (fun m z E Xc hE hX hrec hx => leaf_of_ev (B := checkshare_B) (loops := []) (leaves := [checkshare_l1_h (checkshare_l1 N m), checkshare_l1_e0, checkshare_l1_e1, checkshare_l1_e2, checkshare_l1_e3]) (checkshare_all N) mixed trivial hE hX ⟨hrec, (fun p hp => by obtain rfl := Option.some.inj hp; exact hx), (fun p hp => by obtain rfl := Option.some.inj hp; exact hx), (fun p hp => by obtain rfl := Option.some.inj hp; exact hx), (fun p hp => by obtain rfl := Option.some.inj hp; exact hx), trivial⟩ RetOK.no (fun p => checkshare_l1_eq N m p.1.2.1 p.1.2.2.1 p.1.2.2.2.1 p.2.1.1 p.2.1.2.1))
abbrev checkshare_st : Sta := ⟨[0, 1], ⟨[.agg [.i .i64, .sl Ql], .sl Qb], []⟩⟩
theorem checkshare_eq (N : Nat) (r : Int) (r2 : List (Int × Qa)) (share : List Qa) : ev (Z := Int) Try.prog (checkshare_sp N) checkshare_B [checkshare_l1_L N] [] (some checkshare_rt) 400 false [.c [0], .c [1]] (stL checkshare_st (((r, r2, ()), share, ()), ())) (stH checkshare_st (((r, r2, ()), share, ()), ())) = checkshare_S N r r2 share := by kernel_rfl
noncomputable def sp_checkshare (N : Nat) : Spec := { f := 75, ins := ⟨[.agg [.i .i64, .sl Ql], .sl Qb], []⟩, outs := [⟨[.i .i64], []⟩], run := fun p k => (checkshare_S N p.1.1.1 p.1.1.2.1 p.1.2.1).bind fun r => k ((r, ()), ()) }
theorem sp_checkshare_ok (N : Nat) : SpecOK Try.prog (sp_checkshare N) := fn_sound (B := checkshare_B) (loops := [checkshare_l1_L N]) (leaves := []) (fun p => checkshare_S N p.1.1.1 p.1.1.2.1 p.1.2.1) (fun r => ((r, ()), ())) checkshare_rt (fun _ _ _ => rfl) (fun r z h => by cases h; rfl) Try.func75 (by kernel_rfl) (by kernel_rfl) (by kernel_rfl) rfl rfl (by kernel_rfl) (fun args w => Sem.pv_run _ _ _ (by kernel_rfl) w) (checkshare_all N) mixed ⟨checkshare_l1_ok N, trivial⟩ (fun z E Xc hE hX hret => trivial) (fun p => checkshare_eq N p.1.1.1 p.1.1.2.1 p.1.2.1)

def greatest_l1 (N : Nat) : Nat → Int → Qa → Int → Int → Option Int
  | 0, _, _, _, _ => none
  | n_ + 1, n, u, u2, u3 =>
    br (decide (u3 < u2))
      (idx u u3 fun x_1 =>
      chk (u3 + 1) <|
      greatest_l1 N n_ (max n x_1) u u2 (u3 + 1))
      (some (n))
def greatest_S (N : Nat) (l : List Int) : Option Int :=
  (greatest_l1 N N 0 l (l.length : Int) 0).bind fun n_2 =>
  some n_2
noncomputable def greatest_sp (N : Nat) : List Spec := []
theorem greatest_all (N : Nat) : AllP (SpecOK Try.prog) (greatest_sp N) := trivial
noncomputable def greatest_c : Code := (Try.f116.body).getD .skip
noncomputable abbrev greatest_B : Body := { c := greatest_c, n := 17, res := [.tmp 2], outs := [⟨[.i .i64], []⟩], m0 := 0 }
abbrev greatest_rt : altD greatest_B.outs → Option Int := fun r => some r.1.1
abbrev greatest_l1_at : List PI := [.c [1, 1, 0, 1, 0, 0, 0], .c [1, 1, 0, 1, 0, 0, 1], .l [1, 1, 0, 1, 0, 0], .b 0, .c [1, 1, 1]]
abbrev greatest_l1_st : Sta := ⟨[3, 6, 7, 8], ⟨[.i .i64, .sl (.int .i64), .i .i64, .i .i64], []⟩⟩
abbrev greatest_l1_h (rec : Int → Qa → Int → Int → Option Int) : Leaf Int := ⟨greatest_l1_at, greatest_l1_st, fun p => rec p.1.1 p.1.2.1 p.1.2.2.1 p.1.2.2.2.1⟩
abbrev greatest_l1_e0 : Leaf Int := ⟨[.c [1, 1, 1, 0], .c [1, 1, 1, 1]], ⟨[3], ⟨[.i .i64], []⟩⟩, fun p => some (p.1.1)⟩
noncomputable def greatest_l1_L (N : Nat) : LoopS := { at_ := greatest_l1_at, sta := greatest_l1_st, exits := [([.c [1, 1, 1, 0], .c [1, 1, 1, 1]], ⟨[3], ⟨[.i .i64], []⟩⟩)], run := fun p k => (greatest_l1 N N p.1.1 p.1.2.1 p.1.2.2.1 p.1.2.2.2.1).bind fun e => k (.inl ((e, ()), ())) }
theorem greatest_l1_eq (N n_ : Nat) (n : Int) (u : List Int) (u2 : Int) (u3 : Int) : ev (Z := Int) Try.prog (greatest_sp N) greatest_B [] [greatest_l1_h (greatest_l1 N n_), greatest_l1_e0] none 400 true greatest_l1_at (stL greatest_l1_st ((n, u, u2, u3, ()), ())) (stH greatest_l1_st ((n, u, u2, u3, ()), ())) = greatest_l1 N (n_ + 1) n u u2 u3 := by kernel_rfl
theorem greatest_l1_ok (N : Nat) {top : Bool} : LoopOK Try.prog greatest_B.c greatest_B.n greatest_B.m0 top (greatest_l1_L N) := loop_of_ev (Z := Int) (N := N) (fun m p => greatest_l1 N m p.1.1 p.1.2.1 p.1.2.2.1 p.1.2.2.2.1) (fun e => .inl ((e, ()), ())) (fun _ _ _ => rfl) (fun _ => rfl) (fun m z E Xc hE hX hrec hx => leaf_of_ev (B := greatest_B) (loops := []) (leaves := [greatest_l1_h (greatest_l1 N m), greatest_l1_e0]) (greatest_all N) mixed trivial hE hX ⟨hrec, (fun p hp => by obtain rfl := Option.some.inj hp; exact hx), trivial⟩ RetOK.no (fun p => greatest_l1_eq N m p.1.1 p.1.2.1 p.1.2.2.1 p.1.2.2.2.1))
abbrev greatest_st : Sta := ⟨[0], ⟨[.sl (.int .i64)], []⟩⟩
theorem greatest_eq (N : Nat) (l : List Int) : ev (Z := Int) Try.prog (greatest_sp N) greatest_B [greatest_l1_L N] [] (some greatest_rt) 400 false [.c [0], .c [1]] (stL greatest_st ((l, ()), ())) (stH greatest_st ((l, ()), ())) = greatest_S N l := by kernel_rfl
noncomputable def sp_greatest (N : Nat) : Spec := { f := 116, ins := ⟨[.sl (.int .i64)], []⟩, outs := [⟨[.i .i64], []⟩], run := fun p k => (greatest_S N p.1.1).bind fun r => k ((r, ()), ()) }
theorem sp_greatest_ok (N : Nat) : SpecOK Try.prog (sp_greatest N) := fn_sound (B := greatest_B) (loops := [greatest_l1_L N]) (leaves := []) (fun p => greatest_S N p.1.1) (fun r => ((r, ()), ())) greatest_rt (fun _ _ _ => rfl) (fun r z h => by cases h; rfl) Try.func116 (by kernel_rfl) (by kernel_rfl) (by kernel_rfl) rfl rfl (by kernel_rfl) (fun args w => Sem.pv_run _ _ _ (by kernel_rfl) w) (greatest_all N) mixed ⟨greatest_l1_ok N, trivial⟩ (fun z E Xc hE hX hret => trivial) (fun p => greatest_eq N p.1.1)

def loads_l2 (N : Nat) : Nat → Qk → Int → Int → Qa → Int → Int → Qa → Option (List Qa × Int × Int × List Int)
  | 0, _, _, _, _, _, _, _ => none
  | n_ + 1, u, u2, u3, u4, u5, u6, out =>
    br (decide (u6 < u5))
      (idx u4 u6 fun x_2 =>
      rng x_2 out.length <|
      get out x_2.toNat fun x_3 =>
      chk (x_3 + 1) <|
      rng x_2 out.length <|
      get out x_2.toNat fun _ =>
      chk (u6 + 1) <|
      loads_l2 N n_ u u2 u3 u4 u5 (u6 + 1) (out.set x_2.toNat (x_3 + 1)))
      (some ((u, u2, u3, out)))
def loads_l1 (N : Nat) : Nat → Qk → Int → Int → Qa → Option Qa
  | 0, _, _, _, _ => none
  | n_ + 1, u, u2, u3, out =>
    br (decide (u3 < u2))
      (idx u u3 fun x_1 =>
      (loads_l2 N N u u2 u3 x_1 (x_1.length : Int) 0 out).bind fun (u_5, u2_6, u3_7, out_8) =>
      chk (u3_7 + 1) <|
      loads_l1 N n_ u_5 u2_6 (u3_7 + 1) out_8)
      (some (out))
def loads_S (N : Nat) (r : Int) (r2 : List (Int × Qa)) (share : List Qa) : Option Qa :=
  grd (lmI r) <|
  (loads_l1 N N share (share.length : Int) 0 (List.replicate r.toNat (0 : Int))).bind fun out_9 =>
  some out_9
noncomputable def loads_sp (N : Nat) : List Spec := []
theorem loads_all (N : Nat) : AllP (SpecOK Try.prog) (loads_sp N) := trivial
noncomputable def loads_c : Code := (Try.f117.body).getD .skip
noncomputable abbrev loads_B : Body := { c := loads_c, n := 34, res := [.tmp 4], outs := [⟨[.sl (.int .i64)], []⟩], m0 := 0 }
abbrev loads_rt : altD loads_B.outs → Option Qa := fun r => some r.1.1
abbrev loads_l2_at : List PI := [.c [1, 1, 0, 1, 0, 0, 1, 1, 0, 0, 1, 1, 0, 0, 0], .c [1, 1, 0, 1, 0, 0, 1, 1, 0, 0, 1, 1, 0, 0, 1], .l [1, 1, 0, 1, 0, 0, 1, 1, 0, 0, 1, 1, 0, 0], .b 2, .b 1, .c [1, 1, 0, 1, 0, 0, 1, 1, 1], .l [1, 1, 0, 1, 0, 0], .b 0, .c [1, 1, 1]]
abbrev loads_l2_st : Sta := ⟨[5, 13, 14, 15, 19, 20, 21], ⟨[.ols 0, .sl Qb, .i .i64, .i .i64, .sl (.int .i64), .i .i64, .i .i64], [.lst (.int .i64)]⟩⟩
abbrev loads_l2_h (rec : Qk → Int → Int → Qa → Int → Int → Qa → Option (List Qa × Int × Int × List Int)) : Leaf (List Qa × Int × Int × List Int) := ⟨loads_l2_at, loads_l2_st, fun p => rec p.1.2.1 p.1.2.2.1 p.1.2.2.2.1 p.1.2.2.2.2.1 p.1.2.2.2.2.2.1 p.1.2.2.2.2.2.2.1 p.2.1⟩
abbrev loads_l2_e0 : Leaf (List Qa × Int × Int × List Int) := ⟨[.c [1, 1, 0, 1, 0, 0, 1, 1, 1], .l [1, 1, 0, 1, 0, 0], .b 0, .c [1, 1, 1]], ⟨[5, 13, 14, 15], ⟨[.ols 0, .sl Qb, .i .i64, .i .i64], [.lst (.int .i64)]⟩⟩, fun p => some ((p.1.2.1, p.1.2.2.1, p.1.2.2.2.1, p.2.1))⟩
noncomputable def loads_l2_L (N : Nat) : LoopS := { at_ := loads_l2_at, sta := loads_l2_st, exits := [([.c [1, 1, 0, 1, 0, 0, 1, 1, 1], .l [1, 1, 0, 1, 0, 0], .b 0, .c [1, 1, 1]], ⟨[5, 13, 14, 15], ⟨[.ols 0, .sl Qb, .i .i64, .i .i64], [.lst (.int .i64)]⟩⟩)], run := fun p k => (loads_l2 N N p.1.2.1 p.1.2.2.1 p.1.2.2.2.1 p.1.2.2.2.2.1 p.1.2.2.2.2.2.1 p.1.2.2.2.2.2.2.1 p.2.1).bind fun e => k (.inl (((), e.1, e.2.1, e.2.2.1, ()), (e.2.2.2, ()))) }
theorem loads_l2_eq (N n_ : Nat) (u : List Qa) (u2 : Int) (u3 : Int) (u4 : List Int) (u5 : Int) (u6 : Int) (out : List Int) : ev (Z := List Qa × Int × Int × List Int) Try.prog (loads_sp N) loads_B [] [loads_l2_h (loads_l2 N n_), loads_l2_e0] none 400 true loads_l2_at (stL loads_l2_st (((), u, u2, u3, u4, u5, u6, ()), (out, ()))) (stH loads_l2_st (((), u, u2, u3, u4, u5, u6, ()), (out, ()))) = loads_l2 N (n_ + 1) u u2 u3 u4 u5 u6 out := by kernel_rfl
theorem loads_l2_ok (N : Nat) {top : Bool} : LoopOK Try.prog loads_B.c loads_B.n loads_B.m0 top (loads_l2_L N) := loop_of_ev (Z := List Qa × Int × Int × List Int) (N := N) (fun m p => loads_l2 N m p.1.2.1 p.1.2.2.1 p.1.2.2.2.1 p.1.2.2.2.2.1 p.1.2.2.2.2.2.1 p.1.2.2.2.2.2.2.1 p.2.1) (fun e => .inl (((), e.1, e.2.1, e.2.2.1, ()), (e.2.2.2, ()))) (fun _ _ _ => rfl) (fun _ => rfl) (fun m z E Xc hE hX hrec hx => leaf_of_ev (B := loads_B) (loops := []) (leaves := [loads_l2_h (loads_l2 N m), loads_l2_e0]) (loads_all N) mixed trivial hE hX ⟨hrec, (fun p hp => by obtain rfl := Option.some.inj hp; exact hx), trivial⟩ RetOK.no (fun p => loads_l2_eq N m p.1.2.1 p.1.2.2.1 p.1.2.2.2.1 p.1.2.2.2.2.1 p.1.2.2.2.2.2.1 p.1.2.2.2.2.2.2.1 p.2.1))
abbrev loads_l1_at : List PI := [.c [1, 1, 0, 1, 0, 0, 0], .c [1, 1, 0, 1, 0, 0, 1], .l [1, 1, 0, 1, 0, 0], .b 0, .c [1, 1, 1]]
abbrev loads_l1_st : Sta := ⟨[5, 13, 14, 15], ⟨[.ols 0, .sl Qb, .i .i64, .i .i64], [.lst (.int .i64)]⟩⟩
abbrev loads_l1_h (rec : Qk → Int → Int → Qa → Option Qa) : Leaf Qa := ⟨loads_l1_at, loads_l1_st, fun p => rec p.1.2.1 p.1.2.2.1 p.1.2.2.2.1 p.2.1⟩
abbrev loads_l1_e0 : Leaf Qa := ⟨[.c [1, 1, 1, 0], .c [1, 1, 1, 1]], ⟨[5], ⟨[.ols 0], [.lst (.int .i64)]⟩⟩, fun p => some (p.2.1)⟩
noncomputable def loads_l1_L (N : Nat) : LoopS := { at_ := loads_l1_at, sta := loads_l1_st, exits := [([.c [1, 1, 1, 0], .c [1, 1, 1, 1]], ⟨[5], ⟨[.ols 0], [.lst (.int .i64)]⟩⟩)], run := fun p k => (loads_l1 N N p.1.2.1 p.1.2.2.1 p.1.2.2.2.1 p.2.1).bind fun e => k (.inl (((), ()), (e, ()))) }
theorem loads_l1_eq (N n_ : Nat) (u : List Qa) (u2 : Int) (u3 : Int) (out : List Int) : ev (Z := List Int) Try.prog (loads_sp N) loads_B [loads_l2_L N] [loads_l1_h (loads_l1 N n_), loads_l1_e0] none 400 true loads_l1_at (stL loads_l1_st (((), u, u2, u3, ()), (out, ()))) (stH loads_l1_st (((), u, u2, u3, ()), (out, ()))) = loads_l1 N (n_ + 1) u u2 u3 out := by kernel_rfl
theorem loads_l1_ok (N : Nat) {top : Bool} : LoopOK Try.prog loads_B.c loads_B.n loads_B.m0 top (loads_l1_L N) := loop_of_ev (Z := List Int) (N := N) (fun m p => loads_l1 N m p.1.2.1 p.1.2.2.1 p.1.2.2.2.1 p.2.1) (fun e => .inl (((), ()), (e, ()))) (fun _ _ _ => rfl) (fun _ => rfl) (fun m z E Xc hE hX hrec hx => leaf_of_ev (B := loads_B) (loops := [loads_l2_L N]) (leaves := [loads_l1_h (loads_l1 N m), loads_l1_e0]) (loads_all N) mixed ⟨loads_l2_ok N, trivial⟩ hE hX ⟨hrec, (fun p hp => by obtain rfl := Option.some.inj hp; exact hx), trivial⟩ RetOK.no (fun p => loads_l1_eq N m p.1.2.1 p.1.2.2.1 p.1.2.2.2.1 p.2.1))
abbrev loads_st : Sta := ⟨[0, 1], ⟨[.agg [.i .i64, .sl Ql], .sl Qb], []⟩⟩
theorem loads_eq (N : Nat) (r : Int) (r2 : List (Int × Qa)) (share : List Qa) : ev (Z := List Int) Try.prog (loads_sp N) loads_B [loads_l2_L N, loads_l1_L N] [] (some loads_rt) 400 false [.c [0], .c [1]] (stL loads_st (((r, r2, ()), share, ()), ())) (stH loads_st (((r, r2, ()), share, ()), ())) = loads_S N r r2 share := by kernel_rfl
noncomputable def sp_loads (N : Nat) : Spec := { f := 117, ins := ⟨[.agg [.i .i64, .sl Ql], .sl Qb], []⟩, outs := [⟨[.sl (.int .i64)], []⟩], run := fun p k => (loads_S N p.1.1.1 p.1.1.2.1 p.1.2.1).bind fun r => k ((r, ()), ()) }
theorem sp_loads_ok (N : Nat) : SpecOK Try.prog (sp_loads N) := fn_sound (B := loads_B) (loops := [loads_l2_L N, loads_l1_L N]) (leaves := []) (fun p => loads_S N p.1.1.1 p.1.1.2.1 p.1.2.1) (fun r => ((r, ()), ())) loads_rt (fun _ _ _ => rfl) (fun r z h => by cases h; rfl) Try.func117 (by kernel_rfl) (by kernel_rfl) (by kernel_rfl) rfl rfl (by kernel_rfl) (fun args w => Sem.pv_run _ _ _ (by kernel_rfl) w) (loads_all N) mixed ⟨loads_l2_ok N, loads_l1_ok N, trivial⟩ (fun z E Xc hE hX hret => trivial) (fun p => loads_eq N p.1.1.1 p.1.1.2.1 p.1.2.1)

def times_l1 (N : Nat) : Nat → Qn → Int → Int → Qa → Option Qa
  | 0, _, _, _, _ => none
  | n_ + 1, u, u2, u3, l =>
    br (decide (u3 < u2))
      (idx u u3 fun x_1 =>
      lim (l.length + [x_1.1].length) <|
      chk (u3 + 1) <|
      times_l1 N n_ u u2 (u3 + 1) (l ++ [x_1.1]))
      (some (l))
def times_S (N : Nat) (r : Int) (r2 : List (Int × Qa)) : Option Int :=
  (times_l1 N N r2 (r2.length : Int) 0 []).bind fun l_2 =>
  (greatest_S N l_2).bind fun x_3 =>
  some x_3
noncomputable def times_sp (N : Nat) : List Spec := [sp_greatest N]
theorem times_all (N : Nat) : AllP (SpecOK Try.prog) (times_sp N) := ⟨sp_greatest_ok N, trivial⟩
noncomputable def times_c : Code := (Try.f118.body).getD .skip
noncomputable abbrev times_B : Body := { c := times_c, n := 21, res := [.tmp 2], outs := [⟨[.i .i64], []⟩], m0 := 0 }
abbrev times_rt : altD times_B.outs → Option Int := fun r => some r.1.1
abbrev times_l1_at : List PI := [.c [1, 1, 0, 1, 0, 0, 0], .c [1, 1, 0, 1, 0, 0, 1], .l [1, 1, 0, 1, 0, 0], .b 0, .c [1, 1, 1]]
abbrev times_l1_st : Sta := ⟨[3, 7, 8, 9], ⟨[.ols 0, .sl Ql, .i .i64, .i .i64], [.lst (.int .i64)]⟩⟩
abbrev times_l1_h (rec : Qn → Int → Int → Qa → Option Qa) : Leaf Qa := ⟨times_l1_at, times_l1_st, fun p => rec p.1.2.1 p.1.2.2.1 p.1.2.2.2.1 p.2.1⟩
abbrev times_l1_e0 : Leaf Qa := ⟨[.c [1, 1, 1, 0], .c [1, 1, 1, 1]], ⟨[3], ⟨[.ols 0], [.lst (.int .i64)]⟩⟩, fun p => some (p.2.1)⟩
noncomputable def times_l1_L (N : Nat) : LoopS := { at_ := times_l1_at, sta := times_l1_st, exits := [([.c [1, 1, 1, 0], .c [1, 1, 1, 1]], ⟨[3], ⟨[.ols 0], [.lst (.int .i64)]⟩⟩)], run := fun p k => (times_l1 N N p.1.2.1 p.1.2.2.1 p.1.2.2.2.1 p.2.1).bind fun e => k (.inl (((), ()), (e, ()))) }
theorem times_l1_eq (N n_ : Nat) (u : List (Int × Qa)) (u2 : Int) (u3 : Int) (l : List Int) : ev (Z := List Int) Try.prog (times_sp N) times_B [] [times_l1_h (times_l1 N n_), times_l1_e0] none 400 true times_l1_at (stL times_l1_st (((), u, u2, u3, ()), (l, ()))) (stH times_l1_st (((), u, u2, u3, ()), (l, ()))) = times_l1 N (n_ + 1) u u2 u3 l := by kernel_rfl
theorem times_l1_ok (N : Nat) {top : Bool} : LoopOK Try.prog times_B.c times_B.n times_B.m0 top (times_l1_L N) := loop_of_ev (Z := List Int) (N := N) (fun m p => times_l1 N m p.1.2.1 p.1.2.2.1 p.1.2.2.2.1 p.2.1) (fun e => .inl (((), ()), (e, ()))) (fun _ _ _ => rfl) (fun _ => rfl) (fun m z E Xc hE hX hrec hx => leaf_of_ev (B := times_B) (loops := []) (leaves := [times_l1_h (times_l1 N m), times_l1_e0]) (times_all N) mixed trivial hE hX ⟨hrec, (fun p hp => by obtain rfl := Option.some.inj hp; exact hx), trivial⟩ RetOK.no (fun p => times_l1_eq N m p.1.2.1 p.1.2.2.1 p.1.2.2.2.1 p.2.1))
abbrev times_st : Sta := ⟨[0], ⟨[.agg [.i .i64, .sl Ql]], []⟩⟩
theorem times_eq (N : Nat) (r : Int) (r2 : List (Int × Qa)) : ev (Z := Int) Try.prog (times_sp N) times_B [times_l1_L N] [] (some times_rt) 400 false [.c [0], .c [1]] (stL times_st (((r, r2, ()), ()), ())) (stH times_st (((r, r2, ()), ()), ())) = times_S N r r2 := by kernel_rfl
noncomputable def sp_times (N : Nat) : Spec := { f := 118, ins := ⟨[.agg [.i .i64, .sl Ql]], []⟩, outs := [⟨[.i .i64], []⟩], run := fun p k => (times_S N p.1.1.1 p.1.1.2.1).bind fun r => k ((r, ()), ()) }
theorem sp_times_ok (N : Nat) : SpecOK Try.prog (sp_times N) := fn_sound (B := times_B) (loops := [times_l1_L N]) (leaves := []) (fun p => times_S N p.1.1.1 p.1.1.2.1) (fun r => ((r, ()), ())) times_rt (fun _ _ _ => rfl) (fun r z h => by cases h; rfl) Try.func118 (by kernel_rfl) (by kernel_rfl) (by kernel_rfl) rfl rfl (by kernel_rfl) (fun args w => Sem.pv_run _ _ _ (by kernel_rfl) w) (times_all N) mixed ⟨times_l1_ok N, trivial⟩ (fun z E Xc hE hX hret => trivial) (fun p => times_eq N p.1.1.1 p.1.1.2.1)

def slots__S (N : Nat) (r : Int) (r2 : List (Int × Qa)) (share : List Qa) : Option Int :=
  (loads_S N r r2 share).bind fun x_1 =>
  (greatest_S N x_1).bind fun x_2 =>
  (times_S N r r2).bind fun x_3 =>
  some (max x_2 x_3)
noncomputable def slots__sp (N : Nat) : List Spec := [sp_greatest N, sp_loads N, sp_times N]
theorem slots__all (N : Nat) : AllP (SpecOK Try.prog) (slots__sp N) := ⟨sp_greatest_ok N, sp_loads_ok N, sp_times_ok N, trivial⟩
noncomputable def slots__c : Code := (Try.f76.body).getD .skip
noncomputable abbrev slots__B : Body := { c := slots__c, n := 12, res := [.tmp 4], outs := [⟨[.i .i64], []⟩], m0 := 0 }
abbrev slots__rt : altD slots__B.outs → Option Int := fun r => some r.1.1
abbrev slots__st : Sta := ⟨[0, 1], ⟨[.agg [.i .i64, .sl Ql], .sl Qb], []⟩⟩
theorem slots__eq (N : Nat) (r : Int) (r2 : List (Int × Qa)) (share : List Qa) : ev (Z := Int) Try.prog (slots__sp N) slots__B [] [] (some slots__rt) 400 false [.c [0], .c [1]] (stL slots__st (((r, r2, ()), share, ()), ())) (stH slots__st (((r, r2, ()), share, ()), ())) = slots__S N r r2 share := by kernel_rfl
noncomputable def sp_slots_ (N : Nat) : Spec := { f := 76, ins := ⟨[.agg [.i .i64, .sl Ql], .sl Qb], []⟩, outs := [⟨[.i .i64], []⟩], run := fun p k => (slots__S N p.1.1.1 p.1.1.2.1 p.1.2.1).bind fun r => k ((r, ()), ()) }
theorem sp_slots__ok (N : Nat) : SpecOK Try.prog (sp_slots_ N) := fn_sound (B := slots__B) (loops := []) (leaves := []) (fun p => slots__S N p.1.1.1 p.1.1.2.1 p.1.2.1) (fun r => ((r, ()), ())) slots__rt (fun _ _ _ => rfl) (fun r z h => by cases h; rfl) Try.func76 (by kernel_rfl) (by kernel_rfl) (by kernel_rfl) rfl rfl (by kernel_rfl) (fun args w => Sem.pv_run _ _ _ (by kernel_rfl) w) (slots__all N) mixed trivial (fun z E Xc hE hX hret => trivial) (fun p => slots__eq N p.1.1.1 p.1.1.2.1 p.1.2.1)

def slots_S (N : Nat) (r : Int) (r2 : List (Int × Qa)) (share : List Qa) : Option Qq :=
  (checkshare_S N r r2 share).bind fun x_1 =>
  br (!decide (x_1 = 0))
    (some (0, x_1))
    ((slots__S N r r2 share).bind fun x_2 =>
    some (x_2, 0))
noncomputable def slots_sp (N : Nat) : List Spec := [sp_checkshare N, sp_slots_ N]
theorem slots_all (N : Nat) : AllP (SpecOK Try.prog) (slots_sp N) := ⟨sp_checkshare_ok N, sp_slots__ok N, trivial⟩
noncomputable def slots_c : Code := (Try.f43.body).getD .skip
noncomputable abbrev slots_B : Body := { c := slots_c, n := 16, res := [.tmp 4, .tmp 5], outs := [⟨[.i .i64, .i .i64], []⟩], m0 := 0 }
abbrev slots_rt : altD slots_B.outs → Option Qq := fun r => some (r.1.1, r.1.2.1)
abbrev slots_st : Sta := ⟨[0, 1], ⟨[.agg [.i .i64, .sl Ql], .sl Qb], []⟩⟩
theorem slots_eq (N : Nat) (r : Int) (r2 : List (Int × Qa)) (share : List Qa) : ev (Z := Int × Int) Try.prog (slots_sp N) slots_B [] [] (some slots_rt) 400 false [.c [0], .c [1]] (stL slots_st (((r, r2, ()), share, ()), ())) (stH slots_st (((r, r2, ()), share, ()), ())) = slots_S N r r2 share := by kernel_rfl
noncomputable def sp_slots (N : Nat) : Spec := { f := 43, ins := ⟨[.agg [.i .i64, .sl Ql], .sl Qb], []⟩, outs := [⟨[.i .i64, .i .i64], []⟩], run := fun p k => (slots_S N p.1.1.1 p.1.1.2.1 p.1.2.1).bind fun r => k ((r.1, r.2, ()), ()) }
theorem sp_slots_ok (N : Nat) : SpecOK Try.prog (sp_slots N) := fn_sound (B := slots_B) (loops := []) (leaves := []) (fun p => slots_S N p.1.1.1 p.1.1.2.1 p.1.2.1) (fun r => ((r.1, r.2, ()), ())) slots_rt (fun _ _ _ => rfl) (fun r z h => by cases h; rfl) Try.func43 (by kernel_rfl) (by kernel_rfl) (by kernel_rfl) rfl rfl (by kernel_rfl) (fun args w => Sem.pv_run _ _ _ (by kernel_rfl) w) (slots_all N) mixed trivial (fun z E Xc hE hX hret => trivial) (fun p => slots_eq N p.1.1.1 p.1.1.2.1 p.1.2.1)

def court_S (N : Nat)  : Option (Int × Qn) :=
  some (3, [(3, [0, 1, 2]), (1, [0, 1]), (1, [0]), (2, [0, 1, 2])])
noncomputable def court_sp (N : Nat) : List Spec := []
theorem court_all (N : Nat) : AllP (SpecOK Try.prog) (court_sp N) := trivial
noncomputable def court_c : Code := (Try.f44.body).getD .skip
noncomputable abbrev court_B : Body := { c := court_c, n := 11, res := [.cell 0 103], outs := [⟨[.agg [.i .i64, .sl Ql]], []⟩], m0 := 0 }
abbrev court_rt : altD court_B.outs → Option (Int × Qn) := fun r => some (r.1.1.1, r.1.1.2.1)
abbrev court_st : Sta := ⟨[], ⟨[], []⟩⟩
theorem court_eq (N : Nat)  : ev (Z := Int × Qn) Try.prog (court_sp N) court_B [] [] (some court_rt) 400 false [.c [0], .c [1]] (stL court_st ((), ())) (stH court_st ((), ())) = court_S N := by kernel_rfl
noncomputable def sp_court (N : Nat) : Spec := { f := 44, ins := ⟨[], []⟩, outs := [⟨[.agg [.i .i64, .sl Ql]], []⟩], run := fun p k => (court_S N).bind fun r => k (((r.1, r.2, ()), ()), ()) }
theorem sp_court_ok (N : Nat) : SpecOK Try.prog (sp_court N) := fn_sound (B := court_B) (loops := []) (leaves := []) (fun p => court_S N ) (fun r => (((r.1, r.2, ()), ()), ())) court_rt (fun _ _ _ => rfl) (fun r z h => by cases h; rfl) Try.func44 (by kernel_rfl) (by kernel_rfl) (by kernel_rfl) rfl rfl (by kernel_rfl) (fun args w => Sem.pv_run _ _ _ (by kernel_rfl) w) (court_all N) mixed trivial (fun z E Xc hE hX hret => trivial) (fun p => court_eq N )

def shared_S (N : Nat)  : Option Qk :=
  some ([[0, 1, 2], [1], [0], [1, 2]])
noncomputable def shared_sp (N : Nat) : List Spec := []
theorem shared_all (N : Nat) : AllP (SpecOK Try.prog) (shared_sp N) := trivial
noncomputable def shared_c : Code := (Try.f45.body).getD .skip
noncomputable abbrev shared_B : Body := { c := shared_c, n := 6, res := [.tmp 0], outs := [⟨[.sl Qb], []⟩], m0 := 0 }
abbrev shared_rt : altD shared_B.outs → Option Qk := fun r => some r.1.1
abbrev shared_st : Sta := ⟨[], ⟨[], []⟩⟩
theorem shared_eq (N : Nat)  : ev (Z := List Qa) Try.prog (shared_sp N) shared_B [] [] (some shared_rt) 400 false [.c [0], .c [1]] (stL shared_st ((), ())) (stH shared_st ((), ())) = shared_S N := by kernel_rfl
noncomputable def sp_shared (N : Nat) : Spec := { f := 45, ins := ⟨[], []⟩, outs := [⟨[.sl Qb], []⟩], run := fun p k => (shared_S N).bind fun r => k ((r, ()), ()) }
theorem sp_shared_ok (N : Nat) : SpecOK Try.prog (sp_shared N) := fn_sound (B := shared_B) (loops := []) (leaves := []) (fun p => shared_S N ) (fun r => ((r, ()), ())) shared_rt (fun _ _ _ => rfl) (fun r z h => by cases h; rfl) Try.func45 (by kernel_rfl) (by kernel_rfl) (by kernel_rfl) rfl rfl (by kernel_rfl) (fun args w => Sem.pv_run _ _ _ (by kernel_rfl) w) (shared_all N) mixed trivial (fun z E Xc hE hX hret => trivial) (fun p => shared_eq N )

end Go.Proofs.Ytgeijboidfadaaa.Sl

namespace Go.Proofs.Ytgeijboidfadaaa
set_option linter.all false
open Go

noncomputable abbrev sp_sl_slots := Sl.sp_slots
theorem sp_sl_slots_ok (N : Nat) : SpecOK Try.prog (sp_sl_slots N) := Sl.sp_slots_ok N
abbrev sl_slots_S := Sl.slots_S
noncomputable abbrev sp_sl_court := Sl.sp_court
theorem sp_sl_court_ok (N : Nat) : SpecOK Try.prog (sp_sl_court N) := Sl.sp_court_ok N
abbrev sl_court_S := Sl.court_S
noncomputable abbrev sp_sl_shared := Sl.sp_shared
theorem sp_sl_shared_ok (N : Nat) : SpecOK Try.prog (sp_sl_shared N) := Sl.sp_shared_ok N
abbrev sl_shared_S := Sl.shared_S
def awake10_S (N : Nat)  : Option Bool :=
  (two_S N 5 0).bind fun (x_1, y_2, y_3) =>
  (count_S N x_1 y_2 y_3 0 1).bind fun (x_4, y_5) =>
  (sl_court_S N).bind fun (x_6, y_7) =>
  (sl_shared_S N).bind fun x_8 =>
  (sl_slots_S N x_6 y_7 x_8).bind fun (x_9, y_10) =>
  br (decide (y_5 = 0))
    (br (decide (y_10 = 0))
      (br (decide (x_4 = 2))
        (some (decide (x_9 = 3)))
        (some false))
      (some false))
    (some false)
noncomputable def awake10_sp (N : Nat) : List Spec := [sp_count N, sp_two N, sp_sl_slots N, sp_sl_court N, sp_sl_shared N]
theorem awake10_all (N : Nat) : AllP (SpecOK Try.prog) (awake10_sp N) := ⟨sp_count_ok N, sp_two_ok N, sp_sl_slots_ok N, sp_sl_court_ok N, sp_sl_shared_ok N, trivial⟩
noncomputable def awake10_c : Code := (Try.f15.body).getD .skip
noncomputable abbrev awake10_B : Body := { c := awake10_c, n := 31, res := [.tmp 0], outs := [⟨[.b], []⟩], m0 := 0 }
abbrev awake10_rt : altD awake10_B.outs → Option Bool := fun r => some r.1.1
abbrev awake10_st : Sta := ⟨[], ⟨[], []⟩⟩
theorem awake10_eq (N : Nat)  : ev (Z := Bool) Try.prog (awake10_sp N) awake10_B [] [] (some awake10_rt) 400 false [.c [0], .c [1]] (stL awake10_st ((), ())) (stH awake10_st ((), ())) = awake10_S N := by kernel_rfl
noncomputable def sp_awake10 (N : Nat) : Spec := { f := 15, ins := ⟨[], []⟩, outs := [⟨[.b], []⟩], run := fun p k => (awake10_S N).bind fun r => k ((r, ()), ()) }
theorem sp_awake10_ok (N : Nat) : SpecOK Try.prog (sp_awake10 N) := fn_sound (B := awake10_B) (loops := []) (leaves := []) (fun p => awake10_S N ) (fun r => ((r, ()), ())) awake10_rt (fun _ _ _ => rfl) (fun r z h => by cases h; rfl) Try.func15 (by kernel_rfl) (by kernel_rfl) (by kernel_rfl) rfl rfl (by kernel_rfl) (fun args w => Sem.pv_run _ _ _ (by kernel_rfl) w) (awake10_all N) mixed trivial (fun z E Xc hE hX hret => trivial) (fun p => awake10_eq N )

end Go.Proofs.Ytgeijboidfadaaa

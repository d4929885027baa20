/-
  Parts of a proof, put together: F2, F3, F4, FCo.
  Conditions: none.
-/
import Derived.Test.YthncjilcflilcaaZe
namespace Go.Proofs.Ythncjilcflilcaa
set_option linter.all false
open Go

def may_S (N : Nat) (d : Dk) (lost : Int) : Option (Dk × Dk × Int) :=
  some (d, d, lost)
noncomputable def may_sp (N : Nat) : List Spec := []
theorem may_all (N : Nat) : AllP (SpecOK Try.prog) (may_sp N) := trivial
noncomputable def may_c : Code := (Try.f95.body).getD .skip
noncomputable abbrev may_B : Body := { c := may_c, n := 9, res := [.tmp 4], outs := [⟨[.fn 123 [] [.fz [shD], .fz [.fn 111 [shD] []], .fe (.int .i64)]], []⟩], m0 := 0 }
abbrev may_rt : altD may_B.outs → Option (Dk × Dk × Int) := fun r => some (r.1.1.2.1.1, r.1.1.2.2.1.1.1.1, r.1.1.2.2.2.1)
abbrev may_st : Sta := ⟨[0, 1], ⟨[shD, shI], []⟩⟩
theorem may_eq (N : Nat) (d : Dk) (lost : Int) : ev (Z := Dk × Dk × Int) Try.prog (may_sp N) may_B [] [] (some may_rt) 400 false [.c [0], .c [1]] (stL may_st ((d, lost, ()), ())) (stH may_st ((d, lost, ()), ())) = may_S N d lost := by kernel_rfl
noncomputable def sp_may (N : Nat) : Spec := { f := 95, ins := ⟨[shD, shI], []⟩, outs := [⟨[.fn 123 [] [.fz [shD], .fz [.fn 111 [shD] []], .fe (.int .i64)]], []⟩], run := fun p k => (may_S N p.1.1 p.1.2.1).bind fun r => k ((((), ((r.1, ()), (((r.2.1, ()), ()), ()), r.2.2, ())), ()), ()) }
theorem sp_may_ok (N : Nat) : SpecOK Try.prog (sp_may N) := fn_sound (B := may_B) (loops := []) (leaves := []) (fun p => may_S N p.1.1 p.1.2.1) (fun r => ((((), ((r.1, ()), (((r.2.1, ()), ()), ()), r.2.2, ())), ()), ())) may_rt (fun _ _ _ => rfl) (fun r z h => by cases h; rfl) Try.func95 (by kernel_rfl) (by kernel_rfl) (by kernel_rfl) rfl rfl (by kernel_rfl) (fun args w => Sem.pv_run _ _ _ (by kernel_rfl) w) (may_all N) mixed trivial (fun z E Xc hE hX hret => trivial) (fun p => may_eq N p.1.1 p.1.2.1)

def shows1_S (N : Nat) (n : Int) : Option Bool :=
  (in__S N n 0 999).bind fun x_1 =>
  some x_1
noncomputable def shows1_sp (N : Nat) : List Spec := [sp_in_ N]
theorem shows1_all (N : Nat) : AllP (SpecOK Try.prog) (shows1_sp N) := ⟨sp_in__ok N, trivial⟩
noncomputable def shows1_c : Code := (Try.f93.body).getD .skip
noncomputable abbrev shows1_B : Body := { c := shows1_c, n := 5, res := [.tmp 2], outs := [⟨[.b], []⟩], m0 := 0 }
abbrev shows1_rt : altD shows1_B.outs → Option Bool := fun r => some r.1.1
abbrev shows1_st : Sta := ⟨[0], ⟨[shI], []⟩⟩
theorem shows1_eq (N : Nat) (n : Int) : ev (Z := Bool) Try.prog (shows1_sp N) shows1_B [] [] (some shows1_rt) 400 false [.c [0], .c [1]] (stL shows1_st ((n, ()), ())) (stH shows1_st ((n, ()), ())) = shows1_S N n := by kernel_rfl
noncomputable def sp_shows1 (N : Nat) : Spec := { f := 93, ins := ⟨[shI], []⟩, outs := [⟨[.b], []⟩], run := fun p k => (shows1_S N p.1.1).bind fun r => k ((r, ()), ()) }
theorem sp_shows1_ok (N : Nat) : SpecOK Try.prog (sp_shows1 N) := fn_sound (B := shows1_B) (loops := []) (leaves := []) (fun p => shows1_S N p.1.1) (fun r => ((r, ()), ())) shows1_rt (fun _ _ _ => rfl) (fun r z h => by cases h; rfl) Try.func93 (by kernel_rfl) (by kernel_rfl) (by kernel_rfl) rfl rfl (by kernel_rfl) (fun args w => Sem.pv_run _ _ _ (by kernel_rfl) w) (shows1_all N) mixed trivial (fun z E Xc hE hX hret => trivial) (fun p => shows1_eq N p.1.1)

def every1s_S (N : Nat) (x : Int) : Option Bool :=
  (shows1_S N x).bind fun x_1 =>
  some (!x_1)
noncomputable def every1s_sp (N : Nat) : List Spec := [sp_shows1 N]
theorem every1s_all (N : Nat) : AllP (SpecOK Try.prog) (every1s_sp N) := ⟨sp_shows1_ok N, trivial⟩
noncomputable def every1s_c : Code := (Try.f122.body).getD .skip
noncomputable abbrev every1s_B : Body := { c := every1s_c, n := 8, res := [.tmp 3], outs := [⟨[.b], [.segs [.fn 93 [] []]]⟩], m0 := 1 }
abbrev every1s_rt : altD every1s_B.outs → Option Bool := fun r => some r.1.1
abbrev every1s_st : Sta := ⟨[0, 1], ⟨[shI, .own 0 0], [.segs [.fn 93 [] []]]⟩⟩
theorem every1s_eq (N : Nat) (x : Int) : ev (Z := Bool) Try.prog (every1s_sp N) every1s_B [] [] (some every1s_rt) 400 false [.c [0], .c [1]] (stL every1s_st ((x, (), ()), ((((), ()), ()), ()))) (stH every1s_st ((x, (), ()), ((((), ()), ()), ()))) = every1s_S N x := by kernel_rfl
noncomputable def sp_every1s (N : Nat) : Spec := { f := 122, ins := ⟨[shI, .own 0 0], [.segs [.fn 93 [] []]]⟩, outs := [⟨[.b], [.segs [.fn 93 [] []]]⟩], run := fun p k => (every1s_S N p.1.1).bind fun r => k ((r, ()), ((((), ()), ()), ())) }
theorem sp_every1s_ok (N : Nat) : SpecOK Try.prog (sp_every1s N) := fn_sound (B := every1s_B) (loops := []) (leaves := []) (fun p => every1s_S N p.1.1) (fun r => ((r, ()), ((((), ()), ()), ()))) every1s_rt (fun _ _ _ => rfl) (fun r z h => by cases h; rfl) Try.func122 (by kernel_rfl) (by kernel_rfl) (by kernel_rfl) rfl rfl (by kernel_rfl) (fun args w => Sem.pv_run _ _ _ (by kernel_rfl) w) (every1s_all N) mixed trivial (fun z E Xc hE hX hret => trivial) (fun p => every1s_eq N p.1.1)

def ixfs_l1 (N : Nat) : Nat → Li → Int → Int → Option ((Int) ⊕ (Unit))
  | 0, _, _, _ => none
  | n_ + 1, s, u, u2 =>
    br (decide (u2 < u))
      (idx s u2 fun x_1 =>
      (every1s_S N x_1).bind fun x_2 =>
      br x_2
        (some (.inl u2))
        (chk (u2 + 1) <|
        ixfs_l1 N n_ s u (u2 + 1)))
      (some (.inr ()))
def ixfs_S (N : Nat) (s : Li) : Option Int :=
  (ixfs_l1 N N s (s.length : Int) 0).bind fun e => match e with
  | .inl i_3 =>
    some i_3
  | .inr _ =>
    some (-1)
noncomputable def ixfs_sp (N : Nat) : List Spec := [sp_every1s N]
theorem ixfs_all (N : Nat) : AllP (SpecOK Try.prog) (ixfs_sp N) := ⟨sp_every1s_ok N, trivial⟩
noncomputable def ixfs_c : Code := (Try.f130.body).getD .skip
noncomputable abbrev ixfs_B : Body := { c := ixfs_c, n := 19, res := [.tmp 4], outs := [⟨[shI], [.segs [.fn 93 [] []]]⟩], m0 := 1 }
abbrev ixfs_rt : altD ixfs_B.outs → Option Int := fun r => some r.1.1
abbrev ixfs_l1_at : List PI := [.c [1, 0, 1, 0, 0, 0], .c [1, 0, 1, 0, 0, 1], .l [1, 0, 1, 0, 0], .b 0, .c [1, 1]]
abbrev ixfs_l1_st : Sta := ⟨[0, 1, 7, 8], ⟨[shL, .fn 122 [] [.own 0 0], shI, shI], [.segs [.fn 93 [] []]]⟩⟩
abbrev ixfs_l1_h (rec : Li → Int → Int → Option ((Int) ⊕ (Unit))) : Leaf ((Int) ⊕ (Unit)) := ⟨ixfs_l1_at, ixfs_l1_st, fun p => rec p.1.1 p.1.2.2.1 p.1.2.2.2.1⟩
abbrev ixfs_l1_e0 : Leaf ((Int) ⊕ (Unit)) := ⟨[.c [1, 0, 1, 0, 0, 1, 1, 0, 0, 1, 1, 0, 0], .c [1, 0, 1, 0, 0, 1, 1, 0, 0, 1, 1, 0, 1], .b 1, .c [1, 0, 1, 0, 0, 1, 1, 1], .l [1, 0, 1, 0, 0], .b 0, .c [1, 1]], ⟨[5], ⟨[shI], [.segs [.fn 93 [] []]]⟩⟩, fun p => some (.inl p.1.1)⟩
abbrev ixfs_l1_e1 : Leaf ((Int) ⊕ (Unit)) := ⟨[.c [1, 1, 0], .c [1, 1, 1]], ⟨[], ⟨[], [.segs [.fn 93 [] []]]⟩⟩, fun p => some (.inr ())⟩
noncomputable def ixfs_l1_L (N : Nat) : LoopS := { at_ := ixfs_l1_at, sta := ixfs_l1_st, exits := [([.c [1, 0, 1, 0, 0, 1, 1, 0, 0, 1, 1, 0, 0], .c [1, 0, 1, 0, 0, 1, 1, 0, 0, 1, 1, 0, 1], .b 1, .c [1, 0, 1, 0, 0, 1, 1, 1], .l [1, 0, 1, 0, 0], .b 0, .c [1, 1]], ⟨[5], ⟨[shI], [.segs [.fn 93 [] []]]⟩⟩), ([.c [1, 1, 0], .c [1, 1, 1]], ⟨[], ⟨[], [.segs [.fn 93 [] []]]⟩⟩)], run := fun p k => (ixfs_l1 N N p.1.1 p.1.2.2.1 p.1.2.2.2.1).bind fun e => match e with | .inl x => k (.inl ((x, ()), ((((), ()), ()), ()))) | .inr x => k (.inr (.inl ((), ((((), ()), ()), ())))) }
theorem ixfs_l1_eq (N n_ : Nat) (s : Li) (u : Int) (u2 : Int) : ev (Z := (Int) ⊕ (Unit)) Try.prog (ixfs_sp N) ixfs_B [] [ixfs_l1_h (ixfs_l1 N n_), ixfs_l1_e0, ixfs_l1_e1] none 400 true ixfs_l1_at (stL ixfs_l1_st ((s, ((), ((), ())), u, u2, ()), ((((), ()), ()), ()))) (stH ixfs_l1_st ((s, ((), ((), ())), u, u2, ()), ((((), ()), ()), ()))) = ixfs_l1 N (n_ + 1) s u u2 := by kernel_rfl
theorem ixfs_l1_ok (N : Nat) {top : Bool} : LoopOK Try.prog ixfs_B.c ixfs_B.n ixfs_B.m0 top (ixfs_l1_L N) := loop_of_ev (Z := (Int) ⊕ (Unit)) (N := N) (fun m p => ixfs_l1 N m p.1.1 p.1.2.2.1 p.1.2.2.2.1) (fun e => match e with | .inl x => .inl ((x, ()), ((((), ()), ()), ())) | .inr x => .inr (.inl ((), ((((), ()), ()), ())))) (fun _ p k => bind_congr_ (ixfs_l1 N N p.1.1 p.1.2.2.1 p.1.2.2.2.1) _ _ (fun e => by rcases e with x | x <;> rfl)) (fun _ => rfl) (fun m z E Xc hE hX hrec hx => leaf_of_ev (B := ixfs_B) (loops := []) (leaves := [ixfs_l1_h (ixfs_l1 N m), ixfs_l1_e0, ixfs_l1_e1]) (ixfs_all N) mixed trivial hE hX ⟨hrec, (fun p hp => by obtain rfl := Option.some.inj hp; exact hx), (fun p hp => by obtain rfl := Option.some.inj hp; exact hx), trivial⟩ RetOK.no (fun p => ixfs_l1_eq N m p.1.1 p.1.2.2.1 p.1.2.2.2.1))
abbrev ixfs_st : Sta := ⟨[0, 1], ⟨[shL, .fn 122 [] [.own 0 0]], [.segs [.fn 93 [] []]]⟩⟩
theorem ixfs_eq (N : Nat) (s : Li) : ev (Z := Int) Try.prog (ixfs_sp N) ixfs_B [ixfs_l1_L N] [] (some ixfs_rt) 400 false [.c [0], .c [1]] (stL ixfs_st ((s, ((), ((), ())), ()), ((((), ()), ()), ()))) (stH ixfs_st ((s, ((), ((), ())), ()), ((((), ()), ()), ()))) = ixfs_S N s := by kernel_rfl
noncomputable def sp_ixfs (N : Nat) : Spec := { f := 130, ins := ⟨[shL, .fn 122 [] [.own 0 0]], [.segs [.fn 93 [] []]]⟩, outs := [⟨[shI], [.segs [.fn 93 [] []]]⟩], run := fun p k => (ixfs_S N p.1.1).bind fun r => k ((r, ()), ((((), ()), ()), ())) }
theorem sp_ixfs_ok (N : Nat) : SpecOK Try.prog (sp_ixfs N) := fn_sound (B := ixfs_B) (loops := [ixfs_l1_L N]) (leaves := []) (fun p => ixfs_S N p.1.1) (fun r => ((r, ()), ((((), ()), ()), ()))) ixfs_rt (fun _ _ _ => rfl) (fun r z h => by cases h; rfl) Try.func130 (by kernel_rfl) (by kernel_rfl) (by kernel_rfl) rfl rfl (by kernel_rfl) (fun args w => Sem.pv_run _ _ _ (by kernel_rfl) w) (ixfs_all N) mixed ⟨ixfs_l1_ok N, trivial⟩ (fun z E Xc hE hX hret => trivial) (fun p => ixfs_eq N p.1.1)

def cofs_S (N : Nat) (s : Li) : Option Bool :=
  (ixfs_S N s).bind fun x_1 =>
  some (decide (0 ≤ x_1))
noncomputable def cofs_sp (N : Nat) : List Spec := [sp_ixfs N]
theorem cofs_all (N : Nat) : AllP (SpecOK Try.prog) (cofs_sp N) := ⟨sp_ixfs_ok N, trivial⟩
noncomputable def cofs_c : Code := (Try.f121.body).getD .skip
noncomputable abbrev cofs_B : Body := { c := cofs_c, n := 9, res := [.tmp 4], outs := [⟨[.b], [.segs [.fn 93 [] []]]⟩], m0 := 1 }
abbrev cofs_rt : altD cofs_B.outs → Option Bool := fun r => some r.1.1
abbrev cofs_st : Sta := ⟨[0, 1], ⟨[shL, .fn 122 [] [.own 0 0]], [.segs [.fn 93 [] []]]⟩⟩
theorem cofs_eq (N : Nat) (s : Li) : ev (Z := Bool) Try.prog (cofs_sp N) cofs_B [] [] (some cofs_rt) 400 false [.c [0], .c [1]] (stL cofs_st ((s, ((), ((), ())), ()), ((((), ()), ()), ()))) (stH cofs_st ((s, ((), ((), ())), ()), ((((), ()), ()), ()))) = cofs_S N s := by kernel_rfl
noncomputable def sp_cofs (N : Nat) : Spec := { f := 121, ins := ⟨[shL, .fn 122 [] [.own 0 0]], [.segs [.fn 93 [] []]]⟩, outs := [⟨[.b], [.segs [.fn 93 [] []]]⟩], run := fun p k => (cofs_S N p.1.1).bind fun r => k ((r, ()), ((((), ()), ()), ())) }
theorem sp_cofs_ok (N : Nat) : SpecOK Try.prog (sp_cofs N) := fn_sound (B := cofs_B) (loops := []) (leaves := []) (fun p => cofs_S N p.1.1) (fun r => ((r, ()), ((((), ()), ()), ()))) cofs_rt (fun _ _ _ => rfl) (fun r z h => by cases h; rfl) Try.func121 (by kernel_rfl) (by kernel_rfl) (by kernel_rfl) rfl rfl (by kernel_rfl) (fun args w => Sem.pv_run _ _ _ (by kernel_rfl) w) (cofs_all N) mixed trivial (fun z E Xc hE hX hret => trivial) (fun p => cofs_eq N p.1.1)

def everys_S (N : Nat) (l : Li) : Option Bool :=
  (cofs_S N l).bind fun x_1 =>
  some (!x_1)
noncomputable def everys_sp (N : Nat) : List Spec := [sp_cofs N]
theorem everys_all (N : Nat) : AllP (SpecOK Try.prog) (everys_sp N) := ⟨sp_cofs_ok N, trivial⟩
noncomputable def everys_c : Code := (Try.f94.body).getD .skip
noncomputable abbrev everys_B : Body := { c := everys_c, n := 9, res := [.tmp 4], outs := [⟨[.b], []⟩], m0 := 0 }
abbrev everys_rt : altD everys_B.outs → Option Bool := fun r => some r.1.1
abbrev everys_st : Sta := ⟨[0, 1], ⟨[shL, .fn 93 [] []], []⟩⟩
theorem everys_eq (N : Nat) (l : Li) : ev (Z := Bool) Try.prog (everys_sp N) everys_B [] [] (some everys_rt) 400 false [.c [0], .c [1]] (stL everys_st ((l, ((), ()), ()), ())) (stH everys_st ((l, ((), ()), ()), ())) = everys_S N l := by kernel_rfl
noncomputable def sp_everys (N : Nat) : Spec := { f := 94, ins := ⟨[shL, .fn 93 [] []], []⟩, outs := [⟨[.b], []⟩], run := fun p k => (everys_S N p.1.1).bind fun r => k ((r, ()), ()) }
theorem sp_everys_ok (N : Nat) : SpecOK Try.prog (sp_everys N) := fn_sound (B := everys_B) (loops := []) (leaves := []) (fun p => everys_S N p.1.1) (fun r => ((r, ()), ())) everys_rt (fun _ _ _ => rfl) (fun r z h => by cases h; rfl) Try.func94 (by kernel_rfl) (by kernel_rfl) (by kernel_rfl) rfl rfl (by kernel_rfl) (fun args w => Sem.pv_run _ _ _ (by kernel_rfl) w) (everys_all N) mixed trivial (fun z E Xc hE hX hret => trivial) (fun p => everys_eq N p.1.1)

def shows_l2_x0 (N : Nat) (lost : Li) (u : Li) (u2 : Int) (u3 : Int) (u4 : Dk) (u5 : Dk) (u6 : Int) (g_ : Li) (g2_ : Int) (g3_ : Int) (g4_ : Dk) (g5_ : Int) (g6_ : Int) : Option ((Li × Li × Int × Int × Li × Int × Int × Dk) ⊕ (Int × Int)) :=
  some (.inr (g2_, g3_))
def shows_l2_b (N : Nat) (rec : Li → Int → Int → Dk → Int → Int → Option ((Li × Li × Int × Int × Li × Int × Int × Dk) ⊕ (Int × Int))) (lost : Li) (u : Li) (u2 : Int) (u3 : Int) (u4 : Dk) (u5 : Dk) (u6 : Int) (k' : Int) (found' : Li) (g' : Int) (g2' : Int) (x' : Dk) (i' : Int) (n' : Int) : Option ((Li × Li × Int × Int × Li × Int × Int × Dk) ⊕ (Int × Int)) :=
  idx found' k' fun x_9 =>
  chk (n' + x_9) <|
  rng i' 6 <|
  rng k' 6 <|
  get x'.2.2.2.2.2.1 ((i'.toNat * 6) + k'.toNat) fun x_10 =>
  br (decide ((n' + x_9) < x_10))
    (some (.inr (0, 8)))
    (rec found' g' g2' x' i' n')
def shows_l2 (N : Nat) : List (Int × Unit) → Li → Li → Int → Int → Dk → Dk → Int → Li → Int → Int → Dk → Int → Int → Option ((Li × Li × Int × Int × Li × Int × Int × Dk) ⊕ (Int × Int))
  | [], lost, u, u2, u3, u4, u5, u6, found, g, g2, x, i, n =>
    some (.inl (lost, u, u2, u3, found, g, g2, x))
  | e :: es, lost, u, u2, u3, u4, u5, u6, found, g, g2, x, i, n =>
    shows_l2_b N (fun found_ g_ g2_ x_ i_ n_ => shows_l2 N es lost u u2 u3 u4 u5 u6 found_ g_ g2_ x_ i_ n_) lost u u2 u3 u4 u5 u6 e.1 found g g2 x i n
def shows_l1 (N : Nat) : Nat → Li → Li → Int → Int → Li → Int → Int → Dk → Option ((Int × Int) ⊕ (Li × Li × Int × Int))
  | 0, _, _, _, _, _, _, _, _ => none
  | n_ + 1, lost, u, u2, u3, found, g, g2, x =>
    br (decide (u3 < u2))
      (idx u u3 fun x_5 =>
      (may_S N x u3).bind fun (x_6, y_7, y_8) =>
      ((mayR x_6 y_7 y_8).bind fun es => shows_l2 N es lost u u2 u3 x_6 y_7 y_8 found g g2 x u3 x_5).bind fun e => match e with
      | .inl (lost_11, u_12, u2_13, u3_14, found_15, g_16, g2_17, x_18) =>
        chk (u3_14 + 1) <|
        shows_l1 N n_ lost_11 u_12 u2_13 (u3_14 + 1) found_15 g_16 g2_17 x_18
      | .inr (g_19, g2_20) =>
        some (.inl (g_19, g2_20)))
      (some (.inr (lost, found, g, g2)))
def shows_S (N : Nat) (d : Li) (d2 : Int) (d3 : Ll) (d4 : Ll) (d5 : Li) (lost : Li) (found : Li) : Option (Int × Int) :=
  ((opened_S N d d2 d3 d4 d5).bind fun e => match e with
  | .inl (x_1, y_2) =>
    (br (!decide (y_2 = 0))
      (some (0, y_2))
      (br (!decide ((lost.length : Int) = (d3.length : Int)))
        (some (0, 2))
        (br (!decide ((found.length : Int) = (d4.length : Int)))
          (some (0, 2))
          ((everys_S N lost).bind fun x_3 =>
          br (!x_3)
            (some (0, 3))
            ((everys_S N found).bind fun x_4 =>
            br (!x_4)
              (some (0, 3))
              ((shows_l1 N N lost lost (lost.length : Int) 0 found 0 0 x_1).bind fun e => match e with
              | .inl (g_21, g2_22) =>
                some (g_21, g2_22)
              | .inr (lost_23, found_24, g_25, g2_26) =>
                (sum_S N lost_23).bind fun x_27 =>
                (sum_S N found_24).bind fun x_28 =>
                chk (x_27 + x_28) <|
                some ((x_27 + x_28), 0)))))))
  | .inr x_29 =>
    (br (!decide (x_29 = 0))
      (some (0, x_29))
      (br (!decide ((lost.length : Int) = (d3.length : Int)))
        (some (0, 2))
        (br (!decide ((found.length : Int) = (d4.length : Int)))
          (some (0, 2))
          ((everys_S N lost).bind fun x_30 =>
          br (!x_30)
            (some (0, 3))
            ((everys_S N found).bind fun x_31 =>
            br (!x_31)
              (some (0, 3))
              (none)))))))
noncomputable def shows_sp (N : Nat) : List Spec := [sp_sum N, sp_opened N, sp_may N, sp_everys N]
theorem shows_all (N : Nat) : AllP (SpecOK Try.prog) (shows_sp N) := ⟨sp_sum_ok N, sp_opened_ok N, sp_may_ok N, sp_everys_ok N, trivial⟩
noncomputable def shows_c : Code := (Try.f46.body).getD .skip
noncomputable abbrev shows_B : Body := { c := shows_c, n := 81, res := [.cell 6 3, .cell 7 30], outs := [⟨[shI, shI], []⟩], m0 := 0 }
abbrev shows_rt : altD shows_B.outs → Option (Int × Int) := fun r => some (r.1.1, r.1.2.1)
abbrev shows_l2_st : Sta := ⟨[1, 5, 6, 7, 8, 11, 12, 49, 50, 51, 58], ⟨[shL, .own 0 0, .own 1 0, .own 2 0, .own 3 0, .own 4 0, .own 5 0, shL, shI, shI, .fn 123 [] [.fz [shD], .fz [.fn 111 [shD] []], .fe (.int .i64)]], [.segs [shL], .segs [shI], .segs [shI], .segs [shD], .segs [shI], .segs [shI]]⟩⟩
abbrev shows_l2_stA : Sta := ⟨[5, 6, 7, 8, 11, 12, 13], ⟨[.own 0 0, .own 1 0, .own 2 0, .own 3 0, .own 4 0, .own 5 0, shI], [.segs [shL], .segs [shI], .segs [shI], .segs [shD], .segs [shI], .segs [shI]]⟩⟩
abbrev shows_l2_e0 : Leaf ((Li × Li × Int × Int × Li × Int × Int × Dk) ⊕ (Int × Int)) := ⟨[.c [1, 1, 1, 1, 0, 1, 0, 0, 1, 1, 1], .l [1, 1, 1, 1, 0, 1, 0, 0], .b 1, .c [1, 1, 1, 1, 1]], ⟨[1, 5, 6, 7, 8, 49, 50, 51], ⟨[shL, .own 0 0, .own 1 0, .own 2 0, .own 3 0, shL, shI, shI], [.segs [shL], .segs [shI], .segs [shI], .segs [shD]]⟩⟩, fun p => some (.inl (p.1.1, p.1.2.2.2.2.2.1, p.1.2.2.2.2.2.2.1, p.1.2.2.2.2.2.2.2.1, p.2.1.1, p.2.2.1.1, p.2.2.2.1.1, p.2.2.2.2.1.1))⟩
abbrev shows_l2_e1 : Leaf ((Li × Li × Int × Int × Li × Int × Int × Dk) ⊕ (Int × Int)) := ⟨[.c [1, 1, 1, 1, 0, 1, 0, 0, 1, 1, 0, 0, 1, 1, 0, 1, 0, 1, 0, 1], .b 3, .b 2, .c [1, 1, 1, 1, 0, 1, 0, 0, 1, 1, 1], .l [1, 1, 1, 1, 0, 1, 0, 0], .b 1, .c [1, 1, 1, 1, 1]], ⟨[6, 7], ⟨[.own 0 0, .own 1 0], [.segs [shI], .segs [shI]]⟩⟩, fun p => some (.inr (p.2.1.1, p.2.2.1.1))⟩
noncomputable def shows_l2_L (N : Nat) : LoopS := { at_ := [.c [1, 1, 1, 1, 0, 1, 0, 0, 1, 1, 0, 0, 1, 1, 0], .b 3, .b 2, .c [1, 1, 1, 1, 0, 1, 0, 0, 1, 1, 1], .l [1, 1, 1, 1, 0, 1, 0, 0], .b 1, .c [1, 1, 1, 1, 1]], sta := shows_l2_st, exits := [([.c [1, 1, 1, 1, 0, 1, 0, 0, 1, 1, 1], .l [1, 1, 1, 1, 0, 1, 0, 0], .b 1, .c [1, 1, 1, 1, 1]], ⟨[1, 5, 6, 7, 8, 49, 50, 51], ⟨[shL, .own 0 0, .own 1 0, .own 2 0, .own 3 0, shL, shI, shI], [.segs [shL], .segs [shI], .segs [shI], .segs [shD]]⟩⟩), ([.c [1, 1, 1, 1, 0, 1, 0, 0, 1, 1, 0, 0, 1, 1, 0, 1, 0, 1, 0, 1], .b 3, .b 2, .c [1, 1, 1, 1, 0, 1, 0, 0, 1, 1, 1], .l [1, 1, 1, 1, 0, 1, 0, 0], .b 1, .c [1, 1, 1, 1, 1]], ⟨[6, 7], ⟨[.own 0 0, .own 1 0], [.segs [shI], .segs [shI]]⟩⟩)], run := fun p k => ((mayR p.1.2.2.2.2.2.2.2.2.2.2.1.2.1.1 p.1.2.2.2.2.2.2.2.2.2.2.1.2.2.1.1.1.1 p.1.2.2.2.2.2.2.2.2.2.2.1.2.2.2.1).bind fun es => shows_l2 N es p.1.1 p.1.2.2.2.2.2.2.2.1 p.1.2.2.2.2.2.2.2.2.1 p.1.2.2.2.2.2.2.2.2.2.1 p.1.2.2.2.2.2.2.2.2.2.2.1.2.1.1 p.1.2.2.2.2.2.2.2.2.2.2.1.2.2.1.1.1.1 p.1.2.2.2.2.2.2.2.2.2.2.1.2.2.2.1 p.2.1.1 p.2.2.1.1 p.2.2.2.1.1 p.2.2.2.2.1.1 p.2.2.2.2.2.1.1 p.2.2.2.2.2.2.1.1).bind fun e => match e with | .inl x => k (.inl ((x.1, (), (), (), (), x.2.1, x.2.2.1, x.2.2.2.1, ()), ((x.2.2.2.2.1, ()), (x.2.2.2.2.2.1, ()), (x.2.2.2.2.2.2.1, ()), (x.2.2.2.2.2.2.2, ()), ()))) | .inr x => k (.inr (.inl (((), (), ()), ((x.1, ()), (x.2, ()), ())))) }
noncomputable abbrev shows_l2_Bk : Body := { c := shows_c, n := shows_B.n, res := shows_B.res, outs := shows_B.outs, m0 := 6 }
theorem shows_l2_end (N : Nat) (lost : Li) (u : Li) (u2 : Int) (u3 : Int) (u4 : Dk) (u5 : Dk) (u6 : Int) (found : Li) (g : Int) (g2 : Int) (x : Dk) (i : Int) (n : Int) : ev (Z := (Li × Li × Int × Int × Li × Int × Int × Dk) ⊕ (Int × Int)) Try.prog (shows_sp N) shows_B [] [shows_l2_e0, shows_l2_e1] none 400 false (nrm shows_B.c 99 [.b 3, .b 2, .c [1, 1, 1, 1, 0, 1, 0, 0, 1, 1, 1], .l [1, 1, 1, 1, 0, 1, 0, 0], .b 1, .c [1, 1, 1, 1, 1]]) (stL shows_l2_st ((lost, (), (), (), (), (), (), u, u2, u3, ((), ((u4, ()), (((u5, ()), ()), ()), u6, ())), ()), ((found, ()), (g, ()), (g2, ()), (x, ()), (i, ()), (n, ()), ()))) (stH shows_l2_st ((lost, (), (), (), (), (), (), u, u2, u3, ((), ((u4, ()), (((u5, ()), ()), ()), u6, ())), ()), ((found, ()), (g, ()), (g2, ()), (x, ()), (i, ()), (n, ()), ()))) = shows_l2 N [] lost u u2 u3 u4 u5 u6 found g g2 x i n := by kernel_rfl
theorem shows_l2_asg (N : Nat) (e : Int × Unit) (es : List (Int × Unit)) (lost : Li) (u : Li) (u2 : Int) (u3 : Int) (u4 : Dk) (u5 : Dk) (u6 : Int) (found : Li) (g : Int) (g2 : Int) (x : Dk) (i : Int) (n : Int) : ev (Z := (Li × Li × Int × Int × Li × Int × Int × Dk) ⊕ (Int × Int)) Try.prog (shows_sp N) shows_l2_Bk [] [⟨[.r, .c [1, 1, 1, 1, 0, 1, 0, 0, 1, 1, 0, 0, 1, 1, 0, 1]], shows_l2_stA, fun p => shows_l2_b N (fun found_ g_ g2_ x_ i_ n_ => shows_l2 N es lost u u2 u3 u4 u5 u6 found_ g_ g2_ x_ i_ n_) lost u u2 u3 u4 u5 u6 p.1.2.2.2.2.2.2.1 p.2.1.1 p.2.2.1.1 p.2.2.2.1.1 p.2.2.2.2.1.1 p.2.2.2.2.2.1.1 p.2.2.2.2.2.2.1.1⟩] none 400 false (nrm shows_B.c 99 [.c [1, 1, 1, 1, 0, 1, 0, 0, 1, 1, 0, 0, 1, 1, 0, 0], .r, .c [1, 1, 1, 1, 0, 1, 0, 0, 1, 1, 0, 0, 1, 1, 0, 1]]) (pars [59] (encs id is_may.elem e) (stL shows_l2_st ((lost, (), (), (), (), (), (), u, u2, u3, ((), ((u4, ()), (((u5, ()), ()), ()), u6, ())), ()), ((found, ()), (g, ()), (g2, ()), (x, ()), (i, ()), (n, ()), ())))) (stH shows_l2_st ((lost, (), (), (), (), (), (), u, u2, u3, ((), ((u4, ()), (((u5, ()), ()), ()), u6, ())), ()), ((found, ()), (g, ()), (g2, ()), (x, ()), (i, ()), (n, ()), ()))) = shows_l2 N (e :: es) lost u u2 u3 u4 u5 u6 found g g2 x i n := by kernel_rfl
theorem shows_l2_bod (N : Nat) (rec : Li → Int → Int → Dk → Int → Int → Option ((Li × Li × Int × Int × Li × Int × Int × Dk) ⊕ (Int × Int))) (lost : Li) (u : Li) (u2 : Int) (u3 : Int) (u4 : Dk) (u5 : Dk) (u6 : Int) (k' : Int) (found' : Li) (g' : Int) (g2' : Int) (x' : Dk) (i' : Int) (n' : Int) : ev (Z := (Li × Li × Int × Int × Li × Int × Int × Dk) ⊕ (Int × Int)) Try.prog (shows_sp N) shows_l2_Bk [] [⟨[], ⟨[], ⟨[], [.segs [shL], .segs [shI], .segs [shI], .segs [shD], .segs [shI], .segs [shI]]⟩⟩, fun p => rec p.2.1.1 p.2.2.1.1 p.2.2.2.1.1 p.2.2.2.2.1.1 p.2.2.2.2.2.1.1 p.2.2.2.2.2.2.1.1⟩, ⟨[.c [1, 1, 1, 1, 0, 1, 0, 0, 1, 1, 0, 0, 1, 1, 0, 1, 0, 1, 0, 1], .b 4], ⟨[], ⟨[], [.segs [shL], .segs [shI], .segs [shI], .segs [shD], .segs [shI], .segs [shI]]⟩⟩, fun p => shows_l2_x0 N lost u u2 u3 u4 u5 u6 p.2.1.1 p.2.2.1.1 p.2.2.2.1.1 p.2.2.2.2.1.1 p.2.2.2.2.2.1.1 p.2.2.2.2.2.2.1.1⟩] none 400 false (nrm shows_B.c 99 [.c [1, 1, 1, 1, 0, 1, 0, 0, 1, 1, 0, 0, 1, 1, 0, 1]]) (stL shows_l2_stA (((), (), (), (), (), (), k', ()), ((found', ()), (g', ()), (g2', ()), (x', ()), (i', ()), (n', ()), ()))) (stH shows_l2_stA (((), (), (), (), (), (), k', ()), ((found', ()), (g', ()), (g2', ()), (x', ()), (i', ()), (n', ()), ()))) = shows_l2_b N rec lost u u2 u3 u4 u5 u6 k' found' g' g2' x' i' n' := by kernel_rfl
theorem shows_l2_esc0 (N : Nat) (lost : Li) (u : Li) (u2 : Int) (u3 : Int) (u4 : Dk) (u5 : Dk) (u6 : Int) (g_ : Li) (g2_ : Int) (g3_ : Int) (g4_ : Dk) (g5_ : Int) (g6_ : Int) : ev (Z := (Li × Li × Int × Int × Li × Int × Int × Dk) ⊕ (Int × Int)) Try.prog (shows_sp N) shows_B [] [shows_l2_e0, shows_l2_e1] none 400 false (nrm shows_B.c 99 (.c [1, 1, 1, 1, 0, 1, 0, 0, 1, 1, 0, 0, 1, 1, 0, 1, 0, 1, 0, 1] :: [.b 3, .b 2, .c [1, 1, 1, 1, 0, 1, 0, 0, 1, 1, 1], .l [1, 1, 1, 1, 0, 1, 0, 0], .b 1, .c [1, 1, 1, 1, 1]])) (shows_l2_st.tmps.zip (encs id shows_l2_st.sh.avs (lost, (), (), (), (), (), (), u, u2, u3, ((), ((u4, ()), (((u5, ()), ()), ()), u6, ())), ()))) (encBs id [.segs [shL], .segs [shI], .segs [shI], .segs [shD], .segs [shI], .segs [shI]] ((g_, ()), (g2_, ()), (g3_, ()), (g4_, ()), (g5_, ()), (g6_, ()), ())) = shows_l2_x0 N lost u u2 u3 u4 u5 u6 g_ g2_ g3_ g4_ g5_ g6_ := by kernel_rfl
theorem shows_l2_ok (N : Nat) : LoopOK Try.prog shows_B.c shows_B.n shows_B.m0 true (shows_l2_L N) := by
  refine range_ok (B := shows_B) (is := is_may) (g := .tmp 58) (ps := #[59]) (assign := sub shows_c [1, 1, 1, 1, 0, 1, 0, 0, 1, 1, 0, 0, 1, 1, 0, 0]) (body := sub shows_c [1, 1, 1, 1, 0, 1, 0, 0, 1, 1, 0, 0, 1, 1, 0, 1]) (Z := (Li × Li × Int × Int × Li × Int × Int × Dk) ⊕ (Int × Int)) (x := shows_l2_L N) (fun p => ((p.1.2.2.2.2.2.2.2.2.2.2.1.2.1.1, ()), (((p.1.2.2.2.2.2.2.2.2.2.2.1.2.2.1.1.1.1, ()), ()), ()), p.1.2.2.2.2.2.2.2.2.2.2.1.2.2.2.1, ())) (fun es p => shows_l2 N es p.1.1 p.1.2.2.2.2.2.2.2.1 p.1.2.2.2.2.2.2.2.2.1 p.1.2.2.2.2.2.2.2.2.2.1 p.1.2.2.2.2.2.2.2.2.2.2.1.2.1.1 p.1.2.2.2.2.2.2.2.2.2.2.1.2.2.1.1.1.1 p.1.2.2.2.2.2.2.2.2.2.2.1.2.2.2.1 p.2.1.1 p.2.2.1.1 p.2.2.2.1.1 p.2.2.2.2.1.1 p.2.2.2.2.2.1.1 p.2.2.2.2.2.2.1.1) (staA := shows_l2_stA) (fun es q p => shows_l2_b N (fun found_ g_ g2_ x_ i_ n_ => shows_l2 N es q.1 q.2.2.2.2.2.2.2.1 q.2.2.2.2.2.2.2.2.1 q.2.2.2.2.2.2.2.2.2.1 q.2.2.2.2.2.2.2.2.2.2.1.2.1.1 q.2.2.2.2.2.2.2.2.2.2.1.2.2.1.1.1.1 q.2.2.2.2.2.2.2.2.2.2.1.2.2.2.1 found_ g_ g2_ x_ i_ n_) q.1 q.2.2.2.2.2.2.2.1 q.2.2.2.2.2.2.2.2.1 q.2.2.2.2.2.2.2.2.2.1 q.2.2.2.2.2.2.2.2.2.2.1.2.1.1 q.2.2.2.2.2.2.2.2.2.2.1.2.2.1.1.1.1 q.2.2.2.2.2.2.2.2.2.2.1.2.2.2.1 p.1.2.2.2.2.2.2.1 p.2.1.1 p.2.2.1.1 p.2.2.2.1.1 p.2.2.2.2.1.1 p.2.2.2.2.2.1.1 p.2.2.2.2.2.2.1.1) [⟨[1, 1, 1, 1, 0, 1, 0, 0, 1, 1, 0, 0, 1, 1, 0, 1, 0, 1, 0, 1], [.b 4], [.segs [shL], .segs [shI], .segs [shI], .segs [shD], .segs [shI], .segs [shI]], fun q b => shows_l2_x0 N q.1 q.2.2.2.2.2.2.2.1 q.2.2.2.2.2.2.2.2.1 q.2.2.2.2.2.2.2.2.2.1 q.2.2.2.2.2.2.2.2.2.2.1.2.1.1 q.2.2.2.2.2.2.2.2.2.2.1.2.2.1.1.1.1 q.2.2.2.2.2.2.2.2.2.2.1.2.2.2.1 ((), b).2.1.1 ((), b).2.2.1.1 ((), b).2.2.2.1.1 ((), b).2.2.2.2.1.1 ((), b).2.2.2.2.2.1.1 ((), b).2.2.2.2.2.2.1.1⟩] (fun e => match e with | .inl x => .inl ((x.1, (), (), (), (), x.2.1, x.2.2.1, x.2.2.2.1, ()), ((x.2.2.2.2.1, ()), (x.2.2.2.2.2.1, ()), (x.2.2.2.2.2.2.1, ()), (x.2.2.2.2.2.2.2, ()), ())) | .inr x => .inr (.inl (((), (), ()), ((x.1, ()), (x.2, ()), ())))) (fun _ p k => bind_congr_ ((mayR p.1.2.2.2.2.2.2.2.2.2.2.1.2.1.1 p.1.2.2.2.2.2.2.2.2.2.2.1.2.2.1.1.1.1 p.1.2.2.2.2.2.2.2.2.2.2.1.2.2.2.1).bind fun es => shows_l2 N es p.1.1 p.1.2.2.2.2.2.2.2.1 p.1.2.2.2.2.2.2.2.2.1 p.1.2.2.2.2.2.2.2.2.2.1 p.1.2.2.2.2.2.2.2.2.2.2.1.2.1.1 p.1.2.2.2.2.2.2.2.2.2.2.1.2.2.1.1.1.1 p.1.2.2.2.2.2.2.2.2.2.2.1.2.2.2.1 p.2.1.1 p.2.2.1.1 p.2.2.2.1.1 p.2.2.2.2.1.1 p.2.2.2.2.2.1.1 p.2.2.2.2.2.2.1.1) _ _ (fun e => by rcases e with x | x <;> rfl)) rfl (by kernel_rfl) (fun _ => by kernel_rfl) (by kernel_rfl) is_may_ok (Nat.le_of_ble_eq_true (by kernel_rfl)) (by kernel_rfl) ?_ ?_ ?_ ?_
  · exact fun z E Xc hE hX hx p hp a w hS => ev_sound (z := z) (B := shows_B) (loops := []) (leaves := [shows_l2_e0, shows_l2_e1]) (top := true) (shows_all N) mixed trivial hE hX ⟨(fun p hp => by obtain rfl := Option.some.inj hp; exact hx), (fun p hp => by obtain rfl := Option.some.inj hp; exact hx), trivial⟩ RetOK.no 400 false _ _ _ ((shows_l2_end N p.1.1 p.1.2.2.2.2.2.2.2.1 p.1.2.2.2.2.2.2.2.2.1 p.1.2.2.2.2.2.2.2.2.2.1 p.1.2.2.2.2.2.2.2.2.2.2.1.2.1.1 p.1.2.2.2.2.2.2.2.2.2.2.1.2.2.1.1.1.1 p.1.2.2.2.2.2.2.2.2.2.2.1.2.2.2.1 p.2.1.1 p.2.2.1.1 p.2.2.2.1.1 p.2.2.2.2.1.1 p.2.2.2.2.2.1.1 p.2.2.2.2.2.2.1.1).trans hp) a w hS
  · intro z E Xc hE hX hx e he q b hb a w hS
    simp only [List.mem_cons, List.not_mem_nil, or_false] at he
    rcases he with rfl
    · exact ev_sound (z := z) (B := shows_B) (loops := []) (leaves := [shows_l2_e0, shows_l2_e1]) (top := true) (shows_all N) mixed trivial hE hX ⟨(fun p hp => by obtain rfl := Option.some.inj hp; exact hx), (fun p hp => by obtain rfl := Option.some.inj hp; exact hx), trivial⟩ RetOK.no 400 false _ _ _ ((shows_l2_esc0 N q.1 q.2.2.2.2.2.2.2.1 q.2.2.2.2.2.2.2.2.1 q.2.2.2.2.2.2.2.2.2.1 q.2.2.2.2.2.2.2.2.2.2.1.2.1.1 q.2.2.2.2.2.2.2.2.2.2.1.2.2.1.1.1.1 q.2.2.2.2.2.2.2.2.2.2.1.2.2.2.1 ((), b).2.1.1 ((), b).2.2.1.1 ((), b).2.2.2.1.1 ((), b).2.2.2.2.1.1 ((), b).2.2.2.2.2.1.1 ((), b).2.2.2.2.2.2.1.1).trans hb) a w hS
  · exact fun z E Xc hE hX e es p hl hp a w hS => ev_sound (z := z) (B := shows_l2_Bk) (loops := []) (leaves := [_]) (top := false) (shows_all N) mixed trivial hE hX ⟨hl, trivial⟩ RetOK.no 400 false _ _ _ ((shows_l2_asg N e es p.1.1 p.1.2.2.2.2.2.2.2.1 p.1.2.2.2.2.2.2.2.2.1 p.1.2.2.2.2.2.2.2.2.2.1 p.1.2.2.2.2.2.2.2.2.2.2.1.2.1.1 p.1.2.2.2.2.2.2.2.2.2.2.1.2.2.1.1.1.1 p.1.2.2.2.2.2.2.2.2.2.2.1.2.2.2.1 p.2.1.1 p.2.2.1.1 p.2.2.2.1.1 p.2.2.2.2.1.1 p.2.2.2.2.2.1.1 p.2.2.2.2.2.2.1.1).trans hp) a w hS
  · exact fun z E Xc hE hX es q he hs p hp a w hS => ev_sound (z := z) (B := shows_l2_Bk) (loops := []) (leaves := [_, _]) (top := false) (shows_all N) mixed trivial hE hX ⟨he, hs _ List.mem_cons_self, trivial⟩ RetOK.no 400 false _ _ _ ((shows_l2_bod N (fun found_ g_ g2_ x_ i_ n_ => shows_l2 N es q.1 q.2.2.2.2.2.2.2.1 q.2.2.2.2.2.2.2.2.1 q.2.2.2.2.2.2.2.2.2.1 q.2.2.2.2.2.2.2.2.2.2.1.2.1.1 q.2.2.2.2.2.2.2.2.2.2.1.2.2.1.1.1.1 q.2.2.2.2.2.2.2.2.2.2.1.2.2.2.1 found_ g_ g2_ x_ i_ n_) q.1 q.2.2.2.2.2.2.2.1 q.2.2.2.2.2.2.2.2.1 q.2.2.2.2.2.2.2.2.2.1 q.2.2.2.2.2.2.2.2.2.2.1.2.1.1 q.2.2.2.2.2.2.2.2.2.2.1.2.2.1.1.1.1 q.2.2.2.2.2.2.2.2.2.2.1.2.2.2.1 p.1.2.2.2.2.2.2.1 p.2.1.1 p.2.2.1.1 p.2.2.2.1.1 p.2.2.2.2.1.1 p.2.2.2.2.2.1.1 p.2.2.2.2.2.2.1.1).trans hp) a w hS
abbrev shows_l1_at : List PI := [.c [1, 1, 1, 1, 0, 1, 0, 0, 0], .c [1, 1, 1, 1, 0, 1, 0, 0, 1], .l [1, 1, 1, 1, 0, 1, 0, 0], .b 1, .c [1, 1, 1, 1, 1]]
abbrev shows_l1_st : Sta := ⟨[1, 5, 6, 7, 8, 49, 50, 51], ⟨[shL, .own 0 0, .own 1 0, .own 2 0, .own 3 0, shL, shI, shI], [.segs [shL], .segs [shI], .segs [shI], .segs [shD]]⟩⟩
abbrev shows_l1_h (rec : Li → Li → Int → Int → Li → Int → Int → Dk → Option ((Int × Int) ⊕ (Li × Li × Int × Int))) : Leaf ((Int × Int) ⊕ (Li × Li × Int × Int)) := ⟨shows_l1_at, shows_l1_st, fun p => rec p.1.1 p.1.2.2.2.2.2.1 p.1.2.2.2.2.2.2.1 p.1.2.2.2.2.2.2.2.1 p.2.1.1 p.2.2.1.1 p.2.2.2.1.1 p.2.2.2.2.1.1⟩
abbrev shows_l1_e0 : Leaf ((Int × Int) ⊕ (Li × Li × Int × Int)) := ⟨[.c [1, 1, 1, 1, 0, 1, 0, 0, 1, 1, 0, 0, 1, 1, 0, 1, 0, 1, 0, 1], .b 3, .b 2, .c [1, 1, 1, 1, 0, 1, 0, 0, 1, 1, 1], .l [1, 1, 1, 1, 0, 1, 0, 0], .b 1, .c [1, 1, 1, 1, 1]], ⟨[6, 7], ⟨[.own 0 0, .own 1 0], [.segs [shI], .segs [shI]]⟩⟩, fun p => some (.inl (p.2.1.1, p.2.2.1.1))⟩
abbrev shows_l1_e1 : Leaf ((Int × Int) ⊕ (Li × Li × Int × Int)) := ⟨[.c [1, 1, 1, 1, 1, 0], .c [1, 1, 1, 1, 1, 1]], ⟨[1, 5, 6, 7], ⟨[shL, .own 0 0, .own 1 0, .own 2 0], [.segs [shL], .segs [shI], .segs [shI]]⟩⟩, fun p => some (.inr (p.1.1, p.2.1.1, p.2.2.1.1, p.2.2.2.1.1))⟩
noncomputable def shows_l1_L (N : Nat) : LoopS := { at_ := shows_l1_at, sta := shows_l1_st, exits := [([.c [1, 1, 1, 1, 0, 1, 0, 0, 1, 1, 0, 0, 1, 1, 0, 1, 0, 1, 0, 1], .b 3, .b 2, .c [1, 1, 1, 1, 0, 1, 0, 0, 1, 1, 1], .l [1, 1, 1, 1, 0, 1, 0, 0], .b 1, .c [1, 1, 1, 1, 1]], ⟨[6, 7], ⟨[.own 0 0, .own 1 0], [.segs [shI], .segs [shI]]⟩⟩), ([.c [1, 1, 1, 1, 1, 0], .c [1, 1, 1, 1, 1, 1]], ⟨[1, 5, 6, 7], ⟨[shL, .own 0 0, .own 1 0, .own 2 0], [.segs [shL], .segs [shI], .segs [shI]]⟩⟩)], run := fun p k => (shows_l1 N N p.1.1 p.1.2.2.2.2.2.1 p.1.2.2.2.2.2.2.1 p.1.2.2.2.2.2.2.2.1 p.2.1.1 p.2.2.1.1 p.2.2.2.1.1 p.2.2.2.2.1.1).bind fun e => match e with | .inl x => k (.inl (((), (), ()), ((x.1, ()), (x.2, ()), ()))) | .inr x => k (.inr (.inl ((x.1, (), (), (), ()), ((x.2.1, ()), (x.2.2.1, ()), (x.2.2.2, ()), ())))) }
theorem shows_l1_eq (N n_ : Nat) (lost : Li) (u : Li) (u2 : Int) (u3 : Int) (found : Li) (g : Int) (g2 : Int) (x : Dk) : ev (Z := (Int × Int) ⊕ (Li × Li × Int × Int)) Try.prog (shows_sp N) shows_B [shows_l2_L N] [shows_l1_h (shows_l1 N n_), shows_l1_e0, shows_l1_e1] none 400 true shows_l1_at (stL shows_l1_st ((lost, (), (), (), (), u, u2, u3, ()), ((found, ()), (g, ()), (g2, ()), (x, ()), ()))) (stH shows_l1_st ((lost, (), (), (), (), u, u2, u3, ()), ((found, ()), (g, ()), (g2, ()), (x, ()), ()))) = shows_l1 N (n_ + 1) lost u u2 u3 found g g2 x := by kernel_rfl
theorem shows_l1_ok (N : Nat) : LoopOK Try.prog shows_B.c shows_B.n shows_B.m0 true (shows_l1_L N) := loop_of_ev (Z := (Int × Int) ⊕ (Li × Li × Int × Int)) (N := N) (fun m p => shows_l1 N m p.1.1 p.1.2.2.2.2.2.1 p.1.2.2.2.2.2.2.1 p.1.2.2.2.2.2.2.2.1 p.2.1.1 p.2.2.1.1 p.2.2.2.1.1 p.2.2.2.2.1.1) (fun e => match e with | .inl x => .inl (((), (), ()), ((x.1, ()), (x.2, ()), ())) | .inr x => .inr (.inl ((x.1, (), (), (), ()), ((x.2.1, ()), (x.2.2.1, ()), (x.2.2.2, ()), ())))) (fun _ p k => bind_congr_ (shows_l1 N N p.1.1 p.1.2.2.2.2.2.1 p.1.2.2.2.2.2.2.1 p.1.2.2.2.2.2.2.2.1 p.2.1.1 p.2.2.1.1 p.2.2.2.1.1 p.2.2.2.2.1.1) _ _ (fun e => by rcases e with x | x <;> rfl)) (fun _ => rfl) (fun m z E Xc hE hX hrec hx => leaf_of_ev (B := shows_B) (loops := [shows_l2_L N]) (leaves := [shows_l1_h (shows_l1 N m), shows_l1_e0, shows_l1_e1]) (shows_all N) mixed ⟨shows_l2_ok N, trivial⟩ hE hX ⟨hrec, (fun p hp => by obtain rfl := Option.some.inj hp; exact hx), (fun p hp => by obtain rfl := Option.some.inj hp; exact hx), trivial⟩ RetOK.no (fun p => shows_l1_eq N m p.1.1 p.1.2.2.2.2.2.1 p.1.2.2.2.2.2.2.1 p.1.2.2.2.2.2.2.2.1 p.2.1.1 p.2.2.1.1 p.2.2.2.1.1 p.2.2.2.2.1.1))
abbrev shows_st : Sta := ⟨[0, 1, 2], ⟨[shG, shL, shL], []⟩⟩
theorem shows_eq (N : Nat) (d : Li) (d2 : Int) (d3 : Ll) (d4 : Ll) (d5 : Li) (lost : Li) (found : Li) : ev (Z := Int × Int) Try.prog (shows_sp N) shows_B [shows_l2_L N, shows_l1_L N] [] (some shows_rt) 400 false [.c [0], .c [1]] (stL shows_st (((d, d2, d3, d4, d5, ()), lost, found, ()), ())) (stH shows_st (((d, d2, d3, d4, d5, ()), lost, found, ()), ())) = shows_S N d d2 d3 d4 d5 lost found := by kernel_rfl
noncomputable def sp_shows (N : Nat) : Spec := { f := 46, ins := ⟨[shG, shL, shL], []⟩, outs := [⟨[shI, shI], []⟩], run := fun p k => (shows_S N p.1.1.1 p.1.1.2.1 p.1.1.2.2.1 p.1.1.2.2.2.1 p.1.1.2.2.2.2.1 p.1.2.1 p.1.2.2.1).bind fun r => k ((r.1, r.2, ()), ()) }
theorem sp_shows_ok (N : Nat) : SpecOK Try.prog (sp_shows N) := fn_sound (B := shows_B) (loops := [shows_l2_L N, shows_l1_L N]) (leaves := []) (fun p => shows_S N p.1.1.1 p.1.1.2.1 p.1.1.2.2.1 p.1.1.2.2.2.1 p.1.1.2.2.2.2.1 p.1.2.1 p.1.2.2.1) (fun r => ((r.1, r.2, ()), ())) shows_rt (fun _ _ _ => rfl) (fun r z h => by cases h; rfl) Try.func46 (by kernel_rfl) (by kernel_rfl) (by kernel_rfl) rfl rfl (by kernel_rfl) (fun args w => Sem.pv_run _ _ _ (by kernel_rfl) w) (shows_all N) mixed ⟨shows_l2_ok N, shows_l1_ok N, trivial⟩ (fun z E Xc hE hX hret => trivial) (fun p => shows_eq N p.1.1.1 p.1.1.2.1 p.1.1.2.2.1 p.1.1.2.2.2.1 p.1.1.2.2.2.2.1 p.1.2.1 p.1.2.2.1)

def tastep_S (N : Nat) (i : Int) (k : Int) (u : Dk) : Option Int :=
  rng i 6 <|
  rng k 6 <|
  get u.2.2.2.2.2.1 ((i.toNat * 6) + k.toNat) fun x_1 =>
  some x_1
noncomputable def tastep_sp (N : Nat) : List Spec := []
theorem tastep_all (N : Nat) : AllP (SpecOK Try.prog) (tastep_sp N) := trivial
noncomputable def tastep_c : Code := (Try.f115.body).getD .skip
noncomputable abbrev tastep_B : Body := { c := tastep_c, n := 14, res := [.tmp 5], outs := [⟨[shI], []⟩], m0 := 0 }
abbrev tastep_rt : altD tastep_B.outs → Option Int := fun r => some r.1.1
abbrev tastep_st : Sta := ⟨[0, 1, 2], ⟨[shI, shI, .fz [shD]], []⟩⟩
theorem tastep_eq (N : Nat) (i : Int) (k : Int) (u : Dk) : ev (Z := Int) Try.prog (tastep_sp N) tastep_B [] [] (some tastep_rt) 400 false [.c [0], .c [1]] (stL tastep_st ((i, k, (u, ()), ()), ())) (stH tastep_st ((i, k, (u, ()), ()), ())) = tastep_S N i k u := by kernel_rfl
noncomputable def sp_tastep (N : Nat) : Spec := { f := 115, ins := ⟨[shI, shI, .fz [shD]], []⟩, outs := [⟨[shI], []⟩], run := fun p k => (tastep_S N p.1.1 p.1.2.1 p.1.2.2.1.1).bind fun r => k ((r, ()), ()) }
theorem sp_tastep_ok (N : Nat) : SpecOK Try.prog (sp_tastep N) := fn_sound (B := tastep_B) (loops := []) (leaves := []) (fun p => tastep_S N p.1.1 p.1.2.1 p.1.2.2.1.1) (fun r => ((r, ()), ())) tastep_rt (fun _ _ _ => rfl) (fun r z h => by cases h; rfl) Try.func115 (by kernel_rfl) (by kernel_rfl) (by kernel_rfl) rfl rfl (by kernel_rfl) (fun args w => Sem.pv_run _ _ _ (by kernel_rfl) w) (tastep_all N) mixed trivial (fun z E Xc hE hX hret => trivial) (fun p => tastep_eq N p.1.1 p.1.2.1 p.1.2.2.1.1)

def plain_S (N : Nat) (d : Dk) : Option Dk :=
  some d
noncomputable def plain_sp (N : Nat) : List Spec := []
theorem plain_all (N : Nat) : AllP (SpecOK Try.prog) (plain_sp N) := trivial
noncomputable def plain_c : Code := (Try.f74.body).getD .skip
noncomputable abbrev plain_B : Body := { c := plain_c, n := 5, res := [.cell 2 104], outs := [⟨[.agg [.fn 115 [] [.fz [shD]]]], []⟩], m0 := 0 }
abbrev plain_rt : altD plain_B.outs → Option Dk := fun r => some r.1.1.1.2.1.1
abbrev plain_st : Sta := ⟨[0], ⟨[shD], []⟩⟩
theorem plain_eq (N : Nat) (d : Dk) : ev (Z := Dk) Try.prog (plain_sp N) plain_B [] [] (some plain_rt) 400 false [.c [0], .c [1]] (stL plain_st ((d, ()), ())) (stH plain_st ((d, ()), ())) = plain_S N d := by kernel_rfl
noncomputable def sp_plain (N : Nat) : Spec := { f := 74, ins := ⟨[shD], []⟩, outs := [⟨[.agg [.fn 115 [] [.fz [shD]]]], []⟩], run := fun p k => (plain_S N p.1.1).bind fun r => k (((((), ((r, ()), ())), ()), ()), ()) }
theorem sp_plain_ok (N : Nat) : SpecOK Try.prog (sp_plain N) := fn_sound (B := plain_B) (loops := []) (leaves := []) (fun p => plain_S N p.1.1) (fun r => (((((), ((r, ()), ())), ()), ()), ())) plain_rt (fun _ _ _ => rfl) (fun r z h => by cases h; rfl) Try.func74 (by kernel_rfl) (by kernel_rfl) (by kernel_rfl) rfl rfl (by kernel_rfl) (fun args w => Sem.pv_run _ _ _ (by kernel_rfl) w) (plain_all N) mixed trivial (fun z E Xc hE hX hret => trivial) (fun p => plain_eq N p.1.1)

noncomputable abbrev restp_self (self : Int → Int → Dk → Dk → Dk → Dk → (List ((Int × Int) × (Int × (Int × Int)))) → Option (Int × Int × Int × Dk × Dk × (List ((Int × Int) × (Int × (Int × Int)))))) : Spec := { f := 129, ins := ⟨[.agg [shI, shI], .fz [shD], .fz [.mp 1], .own 0 0, .fz [.fn 115 [] [.fz [shD]]]], [.segs [.fn 129 [] [.fz [shD], .fz [.mp 1], .own 0 0, .fz [.fn 115 [] [.fz [shD]]]]], .map (.pair (.int .i64) (.int .i64)) (.pair (.int .i64) (.pair (.int .i64) (.int .i64)))]⟩, outs := [⟨[.agg [shI, shI, shI]], [.segs [.fn 129 [] [.fz [shD], .fz [.mp 1], .own 0 0, .fz [.fn 115 [] [.fz [shD]]]]], .map (.pair (.int .i64) (.int .i64)) (.pair (.int .i64) (.pair (.int .i64) (.int .i64)))]⟩], run := fun p k => (self p.1.1.1 p.1.1.2.1 p.1.2.1.1 p.1.2.2.2.2.1.1.2.1.1 p.2.1.1.2.1.1 p.2.1.1.2.2.2.2.1.1.2.1.1 p.2.2.1).bind fun r => k (((r.1, r.2.1, r.2.2.1, ()), ()), ((((), ((r.2.2.2.1, ()), ((), ()), (), (((), ((r.2.2.2.2.1, ()), ())), ()), ())), ()), r.2.2.2.2.2, ())) }
def restp_l1_b (N : Nat) (self : Int → Int → Dk → Dk → Dk → Dk → (List ((Int × Int) × (Int × (Int × Int)))) → Option (Int × Int × Int × Dk × Dk × (List ((Int × Int) × (Int × (Int × Int)))))) (rec : Dk → Dk → (List ((Int × Int) × (Int × (Int × Int)))) → Int → Int → Int → Int → Int → Int → Int → Int → Option (Dk × Dk × (List ((Int × Int) × (Int × (Int × Int)))) × Int × Int × Int × Int × Int × Int × Int × Int)) (u : Dk) (u2 : Dk) (u3 : Dk) (u4 : Int) (u' : Dk) (k' : Int) (g' : Dk) (g2' : Dk) (g3' : List ((Int × Int) × (Int × (Int × Int)))) (s' : Int) (s2' : Int) (g4' : Int) (g5' : Int) (g6' : Int) (best' : Int) (best2' : Int) (best3' : Int) : Option (Dk × Dk × (List ((Int × Int) × (Int × (Int × Int)))) × Int × Int × Int × Int × Int × Int × Int × Int) :=
  grd (decide (0 ≤ k' ∧ k' ≤ 31)) <|
  grd (decide (0 ≤ (Int.fdiv s2' (2 ^ k'.toNat)) ∧ (0 : Int) ≤ 1)) <|
  br (decide ((((Int.fdiv s2' (2 ^ k'.toNat)).toNat &&& 1 : Nat) : Int) = 1))
    (rec g' g2' g3' s' s2' g4' g5' g6' best' best2' best3')
    (chk (s' + 1) <|
    grd (decide (0 ≤ k' ∧ k' ≤ 62)) <|
    chk ((1 : Int) * 2 ^ k'.toNat) <|
    grd (decide (0 ≤ s2' ∧ 0 ≤ ((1 : Int) * 2 ^ k'.toNat))) <|
    (self (s' + 1) ((s2'.toNat ||| ((1 : Int) * 2 ^ k'.toNat).toNat : Nat) : Int) g' g2' g' g2' g3').bind fun (x_10, y_11, y_12, y_13, y_14, y_15) =>
    (tastep_S N s' k' u').bind fun x_16 =>
    chk (y_11 + x_16) <|
    br (decide (best2' < (y_11 + x_16)))
      (rec y_13 y_14 y_15 s' s2' g4' g5' g6' k' (y_11 + x_16) y_12)
      (br (decide ((y_11 + x_16) = best2'))
        (chk (best3' + y_12) <|
        rec y_13 y_14 y_15 s' s2' g4' g5' g6' best' best2' (best3' + y_12))
        (rec y_13 y_14 y_15 s' s2' g4' g5' g6' best' best2' best3')))
def restp_l1 (N : Nat) (self : Int → Int → Dk → Dk → Dk → Dk → (List ((Int × Int) × (Int × (Int × Int)))) → Option (Int × Int × Int × Dk × Dk × (List ((Int × Int) × (Int × (Int × Int)))))) : List (Int × Unit) → Dk → Dk → Dk → Int → Dk → Dk → (List ((Int × Int) × (Int × (Int × Int)))) → Int → Int → Int → Int → Int → Int → Int → Int → Option (Dk × Dk × (List ((Int × Int) × (Int × (Int × Int)))) × Int × Int × Int × Int × Int × Int × Int × Int)
  | [], u, u2, u3, u4, g, g2, g3, s, s2, g4, g5, g6, best, best2, best3 =>
    some ((g, g2, g3, s, s2, g4, g5, g6, best, best2, best3))
  | e :: es, u, u2, u3, u4, g, g2, g3, s, s2, g4, g5, g6, best, best2, best3 =>
    restp_l1_b N self (fun g_ g2_ g3_ s_ s2_ g4_ g5_ g6_ best_ best2_ best3_ => restp_l1 N self es u u2 u3 u4 g_ g2_ g3_ s_ s2_ g4_ g5_ g6_ best_ best2_ best3_) u u2 u3 u4 u e.1 g g2 g3 s s2 g4 g5 g6 best best2 best3
def restp_S (N : Nat) (self : Int → Int → Dk → Dk → Dk → Dk → (List ((Int × Int) × (Int × (Int × Int)))) → Option (Int × Int × Int × Dk × Dk × (List ((Int × Int) × (Int × (Int × Int)))))) (s : Int) (s2 : Int) (u : Dk) (u2 : Dk) (g : Dk) (g2 : Dk) (g3 : List ((Int × Int) × (Int × (Int × Int)))) : Option (Int × Int × Int × Dk × Dk × (List ((Int × Int) × (Int × (Int × Int))))) :=
  br (decide (s = (u.2.2.1.length : Int)))
    (some (-1, 0, 1, g, g2, g3))
    (br ((g3.find? fun (y : (Int × Int) × (Int × (Int × Int))) => Ty.beq (.pair (.int .i64) (.int .i64)) y.1 (s, s2)).isSome)
      (some ((((g3.find? fun (y : (Int × Int) × (Int × (Int × Int))) => Ty.beq (.pair (.int .i64) (.int .i64)) y.1 (s, s2)).map (·.2)).getD (Ty.dflt (.pair (.int .i64) (.pair (.int .i64) (.int .i64))))).1, ((((g3.find? fun (y : (Int × Int) × (Int × (Int × Int))) => Ty.beq (.pair (.int .i64) (.int .i64)) y.1 (s, s2)).map (·.2)).getD (Ty.dflt (.pair (.int .i64) (.pair (.int .i64) (.int .i64))))).2).1, ((((g3.find? fun (y : (Int × Int) × (Int × (Int × Int))) => Ty.beq (.pair (.int .i64) (.int .i64)) y.1 (s, s2)).map (·.2)).getD (Ty.dflt (.pair (.int .i64) (.pair (.int .i64) (.int .i64))))).2).2, g, g2, g3))
      (chk (s + 1) <|
      (self (s + 1) s2 g g2 g g2 g3).bind fun (x_1, y_2, y_3, y_4, y_5, y_6) =>
      (may_S N u s).bind fun (x_7, y_8, y_9) =>
      ((mayR x_7 y_8 y_9).bind fun es => restp_l1 N self es u2 x_7 y_8 y_9 y_4 y_5 y_6 s s2 0 0 0 (-1) y_2 y_3).bind fun (g_17, g2_18, g3_19, s_20, s2_21, g4_22, g5_23, g6_24, best_25, best2_26, best3_27) =>
      some (best_25, best2_26, best3_27, g_17, g2_18, (((s_20, s2_21), (best_25, best2_26, best3_27)) :: g3_19))))
noncomputable def restp_sp (N : Nat) (self : Int → Int → Dk → Dk → Dk → Dk → (List ((Int × Int) × (Int × (Int × Int)))) → Option (Int × Int × Int × Dk × Dk × (List ((Int × Int) × (Int × (Int × Int)))))) : List Spec := [sp_may N, sp_tastep N, restp_self self]
theorem restp_all (N : Nat) (self : Int → Int → Dk → Dk → Dk → Dk → (List ((Int × Int) × (Int × (Int × Int)))) → Option (Int × Int × Int × Dk × Dk × (List ((Int × Int) × (Int × (Int × Int)))))) (hself : SpecOK Try.prog (restp_self self)) : AllP (SpecOK Try.prog) (restp_sp N self) := ⟨sp_may_ok N, sp_tastep_ok N, hself, trivial⟩
noncomputable def restp_c : Code := (Try.f129.body).getD .skip
noncomputable abbrev restp_B : Body := { c := restp_c, n := 101, res := [.cell 6 109], outs := [⟨[.agg [shI, shI, shI]], [.segs [.fn 129 [] [.fz [shD], .fz [.mp 1], .own 0 0, .fz [.fn 115 [] [.fz [shD]]]]], .map (.pair (.int .i64) (.int .i64)) (.pair (.int .i64) (.pair (.int .i64) (.int .i64)))]⟩], m0 := 2 }
abbrev restp_rt : altD restp_B.outs → Option (Int × Int × Int × Dk × Dk × (List ((Int × Int) × (Int × (Int × Int))))) := fun r => some (r.1.1.1, r.1.1.2.1, r.1.1.2.2.1, r.2.1.1.2.1.1, r.2.1.1.2.2.2.2.1.1.2.1.1, r.2.2.1)
abbrev restp_l1_st : Sta := ⟨[2, 3, 4, 5, 6, 10, 48], ⟨[.fz [.mp 1], .own 0 0, .fz [.fn 115 [] [.fz [shD]]], .own 2 0, .own 3 0, .own 4 0, .fn 123 [] [.fz [shD], .fz [.fn 111 [shD] []], .fe (.int .i64)]], [.segs [.fn 129 [] [.fz [shD], .fz [.mp 1], .own 0 0, .fz [.fn 115 [] [.fz [shD]]]]], .map (.pair (.int .i64) (.int .i64)) (.pair (.int .i64) (.pair (.int .i64) (.int .i64))), .segs [shI, shI], .segs [shI, shI, shI], .segs [shI, shI, shI]]⟩⟩
abbrev restp_l1_stA : Sta := ⟨[3, 4, 5, 6, 10, 11], ⟨[.own 0 0, .fz [.fn 115 [] [.fz [shD]]], .own 2 0, .own 3 0, .own 4 0, shI], [.segs [.fn 129 [] [.fz [shD], .fz [.mp 1], .own 0 0, .fz [.fn 115 [] [.fz [shD]]]]], .map (.pair (.int .i64) (.int .i64)) (.pair (.int .i64) (.pair (.int .i64) (.int .i64))), .segs [shI, shI], .segs [shI, shI, shI], .segs [shI, shI, shI]]⟩⟩
abbrev restp_l1_e0 : Leaf (Dk × Dk × (List ((Int × Int) × (Int × (Int × Int)))) × Int × Int × Int × Int × Int × Int × Int × Int) := ⟨[.c [1, 1, 1, 1, 1, 1, 0], .c [1, 1, 1, 1, 1, 1, 1]], ⟨[2, 5, 6, 10], ⟨[.fz [.mp 1], .own 2 0, .own 3 0, .own 4 0], [.segs [.fn 129 [] [.fz [shD], .fz [.mp 1], .own 0 0, .fz [.fn 115 [] [.fz [shD]]]]], .map (.pair (.int .i64) (.int .i64)) (.pair (.int .i64) (.pair (.int .i64) (.int .i64))), .segs [shI, shI], .segs [shI, shI, shI], .segs [shI, shI, shI]]⟩⟩, fun p => some ((p.2.1.1.2.1.1, p.2.1.1.2.2.2.2.1.1.2.1.1, p.2.2.1, p.2.2.2.1.1, p.2.2.2.1.2.1, p.2.2.2.2.1.1, p.2.2.2.2.1.2.1, p.2.2.2.2.1.2.2.1, p.2.2.2.2.2.1.1, p.2.2.2.2.2.1.2.1, p.2.2.2.2.2.1.2.2.1))⟩
noncomputable def restp_l1_L (N : Nat) (self : Int → Int → Dk → Dk → Dk → Dk → (List ((Int × Int) × (Int × (Int × Int)))) → Option (Int × Int × Int × Dk × Dk × (List ((Int × Int) × (Int × (Int × Int)))))) : LoopS := { at_ := [.c [1, 1, 1, 1, 1, 0, 1, 0], .b 0, .c [1, 1, 1, 1, 1, 1]], sta := restp_l1_st, exits := [([.c [1, 1, 1, 1, 1, 1, 0], .c [1, 1, 1, 1, 1, 1, 1]], ⟨[2, 5, 6, 10], ⟨[.fz [.mp 1], .own 2 0, .own 3 0, .own 4 0], [.segs [.fn 129 [] [.fz [shD], .fz [.mp 1], .own 0 0, .fz [.fn 115 [] [.fz [shD]]]]], .map (.pair (.int .i64) (.int .i64)) (.pair (.int .i64) (.pair (.int .i64) (.int .i64))), .segs [shI, shI], .segs [shI, shI, shI], .segs [shI, shI, shI]]⟩⟩)], run := fun p k => ((mayR p.1.2.2.2.2.2.2.1.2.1.1 p.1.2.2.2.2.2.2.1.2.2.1.1.1.1 p.1.2.2.2.2.2.2.1.2.2.2.1).bind fun es => restp_l1 N self es p.1.2.2.1.1.2.1.1 p.1.2.2.2.2.2.2.1.2.1.1 p.1.2.2.2.2.2.2.1.2.2.1.1.1.1 p.1.2.2.2.2.2.2.1.2.2.2.1 p.2.1.1.2.1.1 p.2.1.1.2.2.2.2.1.1.2.1.1 p.2.2.1 p.2.2.2.1.1 p.2.2.2.1.2.1 p.2.2.2.2.1.1 p.2.2.2.2.1.2.1 p.2.2.2.2.1.2.2.1 p.2.2.2.2.2.1.1 p.2.2.2.2.2.1.2.1 p.2.2.2.2.2.1.2.2.1).bind fun e => k (.inl ((((), ()), (), (), (), ()), ((((), ((e.1, ()), ((), ()), (), (((), ((e.2.1, ()), ())), ()), ())), ()), e.2.2.1, (e.2.2.2.1, e.2.2.2.2.1, ()), (e.2.2.2.2.2.1, e.2.2.2.2.2.2.1, e.2.2.2.2.2.2.2.1, ()), (e.2.2.2.2.2.2.2.2.1, e.2.2.2.2.2.2.2.2.2.1, e.2.2.2.2.2.2.2.2.2.2, ()), ()))) }
noncomputable abbrev restp_l1_Bk : Body := { c := restp_c, n := restp_B.n, res := restp_B.res, outs := restp_B.outs, m0 := 5 }
theorem restp_l1_end (N : Nat) (self : Int → Int → Dk → Dk → Dk → Dk → (List ((Int × Int) × (Int × (Int × Int)))) → Option (Int × Int × Int × Dk × Dk × (List ((Int × Int) × (Int × (Int × Int)))))) (u : Dk) (u2 : Dk) (u3 : Dk) (u4 : Int) (g : Dk) (g2 : Dk) (g3 : List ((Int × Int) × (Int × (Int × Int)))) (s : Int) (s2 : Int) (g4 : Int) (g5 : Int) (g6 : Int) (best : Int) (best2 : Int) (best3 : Int) : ev (Z := Dk × Dk × (List ((Int × Int) × (Int × (Int × Int)))) × Int × Int × Int × Int × Int × Int × Int × Int) Try.prog (restp_sp N self) restp_B [] [restp_l1_e0] none 400 false (nrm restp_B.c 99 [.b 0, .c [1, 1, 1, 1, 1, 1]]) (stL restp_l1_st ((((), ()), (), (((), ((u, ()), ())), ()), (), (), (), ((), ((u2, ()), (((u3, ()), ()), ()), u4, ())), ()), ((((), ((g, ()), ((), ()), (), (((), ((g2, ()), ())), ()), ())), ()), g3, (s, s2, ()), (g4, g5, g6, ()), (best, best2, best3, ()), ()))) (stH restp_l1_st ((((), ()), (), (((), ((u, ()), ())), ()), (), (), (), ((), ((u2, ()), (((u3, ()), ()), ()), u4, ())), ()), ((((), ((g, ()), ((), ()), (), (((), ((g2, ()), ())), ()), ())), ()), g3, (s, s2, ()), (g4, g5, g6, ()), (best, best2, best3, ()), ()))) = restp_l1 N self [] u u2 u3 u4 g g2 g3 s s2 g4 g5 g6 best best2 best3 := by kernel_rfl
theorem restp_l1_asg (N : Nat) (self : Int → Int → Dk → Dk → Dk → Dk → (List ((Int × Int) × (Int × (Int × Int)))) → Option (Int × Int × Int × Dk × Dk × (List ((Int × Int) × (Int × (Int × Int)))))) (e : Int × Unit) (es : List (Int × Unit)) (u : Dk) (u2 : Dk) (u3 : Dk) (u4 : Int) (g : Dk) (g2 : Dk) (g3 : List ((Int × Int) × (Int × (Int × Int)))) (s : Int) (s2 : Int) (g4 : Int) (g5 : Int) (g6 : Int) (best : Int) (best2 : Int) (best3 : Int) : ev (Z := Dk × Dk × (List ((Int × Int) × (Int × (Int × Int)))) × Int × Int × Int × Int × Int × Int × Int × Int) Try.prog (restp_sp N self) restp_l1_Bk [] [⟨[.r, .c [1, 1, 1, 1, 1, 0, 1, 0, 1]], restp_l1_stA, fun p => restp_l1_b N self (fun g_ g2_ g3_ s_ s2_ g4_ g5_ g6_ best_ best2_ best3_ => restp_l1 N self es u u2 u3 u4 g_ g2_ g3_ s_ s2_ g4_ g5_ g6_ best_ best2_ best3_) u u2 u3 u4 p.1.2.1.1.2.1.1 p.1.2.2.2.2.2.1 p.2.1.1.2.1.1 p.2.1.1.2.2.2.2.1.1.2.1.1 p.2.2.1 p.2.2.2.1.1 p.2.2.2.1.2.1 p.2.2.2.2.1.1 p.2.2.2.2.1.2.1 p.2.2.2.2.1.2.2.1 p.2.2.2.2.2.1.1 p.2.2.2.2.2.1.2.1 p.2.2.2.2.2.1.2.2.1⟩] none 400 false (nrm restp_B.c 99 [.c [1, 1, 1, 1, 1, 0, 1, 0, 0], .r, .c [1, 1, 1, 1, 1, 0, 1, 0, 1]]) (pars [49] (encs id is_may.elem e) (stL restp_l1_st ((((), ()), (), (((), ((u, ()), ())), ()), (), (), (), ((), ((u2, ()), (((u3, ()), ()), ()), u4, ())), ()), ((((), ((g, ()), ((), ()), (), (((), ((g2, ()), ())), ()), ())), ()), g3, (s, s2, ()), (g4, g5, g6, ()), (best, best2, best3, ()), ())))) (stH restp_l1_st ((((), ()), (), (((), ((u, ()), ())), ()), (), (), (), ((), ((u2, ()), (((u3, ()), ()), ()), u4, ())), ()), ((((), ((g, ()), ((), ()), (), (((), ((g2, ()), ())), ()), ())), ()), g3, (s, s2, ()), (g4, g5, g6, ()), (best, best2, best3, ()), ()))) = restp_l1 N self (e :: es) u u2 u3 u4 g g2 g3 s s2 g4 g5 g6 best best2 best3 := by kernel_rfl
theorem restp_l1_bod (N : Nat) (self : Int → Int → Dk → Dk → Dk → Dk → (List ((Int × Int) × (Int × (Int × Int)))) → Option (Int × Int × Int × Dk × Dk × (List ((Int × Int) × (Int × (Int × Int)))))) (rec : Dk → Dk → (List ((Int × Int) × (Int × (Int × Int)))) → Int → Int → Int → Int → Int → Int → Int → Int → Option (Dk × Dk × (List ((Int × Int) × (Int × (Int × Int)))) × Int × Int × Int × Int × Int × Int × Int × Int)) (u : Dk) (u2 : Dk) (u3 : Dk) (u4 : Int) (u' : Dk) (k' : Int) (g' : Dk) (g2' : Dk) (g3' : List ((Int × Int) × (Int × (Int × Int)))) (s' : Int) (s2' : Int) (g4' : Int) (g5' : Int) (g6' : Int) (best' : Int) (best2' : Int) (best3' : Int) : ev (Z := Dk × Dk × (List ((Int × Int) × (Int × (Int × Int)))) × Int × Int × Int × Int × Int × Int × Int × Int) Try.prog (restp_sp N self) restp_l1_Bk [] [⟨[], ⟨[], ⟨[], [.segs [.fn 129 [] [.fz [shD], .fz [.mp 1], .own 0 0, .fz [.fn 115 [] [.fz [shD]]]]], .map (.pair (.int .i64) (.int .i64)) (.pair (.int .i64) (.pair (.int .i64) (.int .i64))), .segs [shI, shI], .segs [shI, shI, shI], .segs [shI, shI, shI]]⟩⟩, fun p => rec p.2.1.1.2.1.1 p.2.1.1.2.2.2.2.1.1.2.1.1 p.2.2.1 p.2.2.2.1.1 p.2.2.2.1.2.1 p.2.2.2.2.1.1 p.2.2.2.2.1.2.1 p.2.2.2.2.1.2.2.1 p.2.2.2.2.2.1.1 p.2.2.2.2.2.1.2.1 p.2.2.2.2.2.1.2.2.1⟩] none 400 false (nrm restp_B.c 99 [.c [1, 1, 1, 1, 1, 0, 1, 0, 1]]) (stL restp_l1_stA (((), (((), ((u', ()), ())), ()), (), (), (), k', ()), ((((), ((g', ()), ((), ()), (), (((), ((g2', ()), ())), ()), ())), ()), g3', (s', s2', ()), (g4', g5', g6', ()), (best', best2', best3', ()), ()))) (stH restp_l1_stA (((), (((), ((u', ()), ())), ()), (), (), (), k', ()), ((((), ((g', ()), ((), ()), (), (((), ((g2', ()), ())), ()), ())), ()), g3', (s', s2', ()), (g4', g5', g6', ()), (best', best2', best3', ()), ()))) = restp_l1_b N self rec u u2 u3 u4 u' k' g' g2' g3' s' s2' g4' g5' g6' best' best2' best3' := by kernel_rfl
theorem restp_l1_ok (N : Nat) (self : Int → Int → Dk → Dk → Dk → Dk → (List ((Int × Int) × (Int × (Int × Int)))) → Option (Int × Int × Int × Dk × Dk × (List ((Int × Int) × (Int × (Int × Int)))))) (hself : SpecOK Try.prog (restp_self self)) : LoopOK Try.prog restp_B.c restp_B.n restp_B.m0 true (restp_l1_L N self) := by
  refine range_ok (B := restp_B) (is := is_may) (g := .tmp 48) (ps := #[49]) (assign := sub restp_c [1, 1, 1, 1, 1, 0, 1, 0, 0]) (body := sub restp_c [1, 1, 1, 1, 1, 0, 1, 0, 1]) (Z := Dk × Dk × (List ((Int × Int) × (Int × (Int × Int)))) × Int × Int × Int × Int × Int × Int × Int × Int) (x := restp_l1_L N self) (fun p => ((p.1.2.2.2.2.2.2.1.2.1.1, ()), (((p.1.2.2.2.2.2.2.1.2.2.1.1.1.1, ()), ()), ()), p.1.2.2.2.2.2.2.1.2.2.2.1, ())) (fun es p => restp_l1 N self es p.1.2.2.1.1.2.1.1 p.1.2.2.2.2.2.2.1.2.1.1 p.1.2.2.2.2.2.2.1.2.2.1.1.1.1 p.1.2.2.2.2.2.2.1.2.2.2.1 p.2.1.1.2.1.1 p.2.1.1.2.2.2.2.1.1.2.1.1 p.2.2.1 p.2.2.2.1.1 p.2.2.2.1.2.1 p.2.2.2.2.1.1 p.2.2.2.2.1.2.1 p.2.2.2.2.1.2.2.1 p.2.2.2.2.2.1.1 p.2.2.2.2.2.1.2.1 p.2.2.2.2.2.1.2.2.1) (staA := restp_l1_stA) (fun es q p => restp_l1_b N self (fun g_ g2_ g3_ s_ s2_ g4_ g5_ g6_ best_ best2_ best3_ => restp_l1 N self es q.2.2.1.1.2.1.1 q.2.2.2.2.2.2.1.2.1.1 q.2.2.2.2.2.2.1.2.2.1.1.1.1 q.2.2.2.2.2.2.1.2.2.2.1 g_ g2_ g3_ s_ s2_ g4_ g5_ g6_ best_ best2_ best3_) q.2.2.1.1.2.1.1 q.2.2.2.2.2.2.1.2.1.1 q.2.2.2.2.2.2.1.2.2.1.1.1.1 q.2.2.2.2.2.2.1.2.2.2.1 p.1.2.1.1.2.1.1 p.1.2.2.2.2.2.1 p.2.1.1.2.1.1 p.2.1.1.2.2.2.2.1.1.2.1.1 p.2.2.1 p.2.2.2.1.1 p.2.2.2.1.2.1 p.2.2.2.2.1.1 p.2.2.2.2.1.2.1 p.2.2.2.2.1.2.2.1 p.2.2.2.2.2.1.1 p.2.2.2.2.2.1.2.1 p.2.2.2.2.2.1.2.2.1) [] (fun e => .inl ((((), ()), (), (), (), ()), ((((), ((e.1, ()), ((), ()), (), (((), ((e.2.1, ()), ())), ()), ())), ()), e.2.2.1, (e.2.2.2.1, e.2.2.2.2.1, ()), (e.2.2.2.2.2.1, e.2.2.2.2.2.2.1, e.2.2.2.2.2.2.2.1, ()), (e.2.2.2.2.2.2.2.2.1, e.2.2.2.2.2.2.2.2.2.1, e.2.2.2.2.2.2.2.2.2.2, ()), ()))) (fun _ _ _ => rfl) rfl (by kernel_rfl) (fun _ => by kernel_rfl) (by kernel_rfl) is_may_ok (Nat.le_of_ble_eq_true (by kernel_rfl)) (by kernel_rfl) ?_ ?_ ?_ ?_
  · exact fun z E Xc hE hX hx p hp a w hS => ev_sound (z := z) (B := restp_B) (loops := []) (leaves := [restp_l1_e0]) (top := true) (restp_all N self hself) mixed trivial hE hX ⟨(fun p hp => by obtain rfl := Option.some.inj hp; exact hx), trivial⟩ RetOK.no 400 false _ _ _ ((restp_l1_end N self p.1.2.2.1.1.2.1.1 p.1.2.2.2.2.2.2.1.2.1.1 p.1.2.2.2.2.2.2.1.2.2.1.1.1.1 p.1.2.2.2.2.2.2.1.2.2.2.1 p.2.1.1.2.1.1 p.2.1.1.2.2.2.2.1.1.2.1.1 p.2.2.1 p.2.2.2.1.1 p.2.2.2.1.2.1 p.2.2.2.2.1.1 p.2.2.2.2.1.2.1 p.2.2.2.2.1.2.2.1 p.2.2.2.2.2.1.1 p.2.2.2.2.2.1.2.1 p.2.2.2.2.2.1.2.2.1).trans hp) a w hS
  · intro z E Xc hE hX hx e he q b hb a w hS
    simp only [List.not_mem_nil] at he
  · exact fun z E Xc hE hX e es p hl hp a w hS => ev_sound (z := z) (B := restp_l1_Bk) (loops := []) (leaves := [_]) (top := false) (restp_all N self hself) mixed trivial hE hX ⟨hl, trivial⟩ RetOK.no 400 false _ _ _ ((restp_l1_asg N self e es p.1.2.2.1.1.2.1.1 p.1.2.2.2.2.2.2.1.2.1.1 p.1.2.2.2.2.2.2.1.2.2.1.1.1.1 p.1.2.2.2.2.2.2.1.2.2.2.1 p.2.1.1.2.1.1 p.2.1.1.2.2.2.2.1.1.2.1.1 p.2.2.1 p.2.2.2.1.1 p.2.2.2.1.2.1 p.2.2.2.2.1.1 p.2.2.2.2.1.2.1 p.2.2.2.2.1.2.2.1 p.2.2.2.2.2.1.1 p.2.2.2.2.2.1.2.1 p.2.2.2.2.2.1.2.2.1).trans hp) a w hS
  · exact fun z E Xc hE hX es q he hs p hp a w hS => ev_sound (z := z) (B := restp_l1_Bk) (loops := []) (leaves := [_]) (top := false) (restp_all N self hself) mixed trivial hE hX ⟨he, trivial⟩ RetOK.no 400 false _ _ _ ((restp_l1_bod N self (fun g_ g2_ g3_ s_ s2_ g4_ g5_ g6_ best_ best2_ best3_ => restp_l1 N self es q.2.2.1.1.2.1.1 q.2.2.2.2.2.2.1.2.1.1 q.2.2.2.2.2.2.1.2.2.1.1.1.1 q.2.2.2.2.2.2.1.2.2.2.1 g_ g2_ g3_ s_ s2_ g4_ g5_ g6_ best_ best2_ best3_) q.2.2.1.1.2.1.1 q.2.2.2.2.2.2.1.2.1.1 q.2.2.2.2.2.2.1.2.2.1.1.1.1 q.2.2.2.2.2.2.1.2.2.2.1 p.1.2.1.1.2.1.1 p.1.2.2.2.2.2.1 p.2.1.1.2.1.1 p.2.1.1.2.2.2.2.1.1.2.1.1 p.2.2.1 p.2.2.2.1.1 p.2.2.2.1.2.1 p.2.2.2.2.1.1 p.2.2.2.2.1.2.1 p.2.2.2.2.1.2.2.1 p.2.2.2.2.2.1.1 p.2.2.2.2.2.1.2.1 p.2.2.2.2.2.1.2.2.1).trans hp) a w hS
abbrev restp_st : Sta := ⟨[0, 1, 2, 3, 4], ⟨[.agg [shI, shI], .fz [shD], .fz [.mp 1], .own 0 0, .fz [.fn 115 [] [.fz [shD]]]], [.segs [.fn 129 [] [.fz [shD], .fz [.mp 1], .own 0 0, .fz [.fn 115 [] [.fz [shD]]]]], .map (.pair (.int .i64) (.int .i64)) (.pair (.int .i64) (.pair (.int .i64) (.int .i64)))]⟩⟩
theorem restp_eq (N : Nat) (self : Int → Int → Dk → Dk → Dk → Dk → (List ((Int × Int) × (Int × (Int × Int)))) → Option (Int × Int × Int × Dk × Dk × (List ((Int × Int) × (Int × (Int × Int)))))) (s : Int) (s2 : Int) (u : Dk) (u2 : Dk) (g : Dk) (g2 : Dk) (g3 : List ((Int × Int) × (Int × (Int × Int)))) : ev (Z := Int × Int × Int × Dk × Dk × (List ((Int × Int) × (Int × (Int × Int))))) Try.prog (restp_sp N self) restp_B [restp_l1_L N self] [] (some restp_rt) 400 false [.c [0], .c [1]] (stL restp_st (((s, s2, ()), (u, ()), ((), ()), (), (((), ((u2, ()), ())), ()), ()), ((((), ((g, ()), ((), ()), (), (((), ((g2, ()), ())), ()), ())), ()), g3, ()))) (stH restp_st (((s, s2, ()), (u, ()), ((), ()), (), (((), ((u2, ()), ())), ()), ()), ((((), ((g, ()), ((), ()), (), (((), ((g2, ()), ())), ()), ())), ()), g3, ()))) = restp_S N self s s2 u u2 g g2 g3 := by kernel_rfl
theorem restp_self_ok (N : Nat) (self : Int → Int → Dk → Dk → Dk → Dk → (List ((Int × Int) × (Int × (Int × Int)))) → Option (Int × Int × Int × Dk × Dk × (List ((Int × Int) × (Int × (Int × Int)))))) (hself : SpecOK Try.prog (restp_self self)) : SpecOK Try.prog (restp_self (restp_S N self)) := fn_sound (B := restp_B) (loops := [restp_l1_L N self]) (leaves := []) (fun p => restp_S N self p.1.1.1 p.1.1.2.1 p.1.2.1.1 p.1.2.2.2.2.1.1.2.1.1 p.2.1.1.2.1.1 p.2.1.1.2.2.2.2.1.1.2.1.1 p.2.2.1) (fun r => (((r.1, r.2.1, r.2.2.1, ()), ()), ((((), ((r.2.2.2.1, ()), ((), ()), (), (((), ((r.2.2.2.2.1, ()), ())), ()), ())), ()), r.2.2.2.2.2, ()))) restp_rt (fun _ _ _ => rfl) (fun r z h => by cases h; rfl) Try.func129 (by kernel_rfl) (by kernel_rfl) (by kernel_rfl) rfl rfl (by kernel_rfl) (fun args w => Sem.pv_run _ _ _ (by kernel_rfl) w) (restp_all N self hself) mixed ⟨restp_l1_ok N self hself, trivial⟩ (fun z E Xc hE hX hret => trivial) (fun p => restp_eq N self p.1.1.1 p.1.1.2.1 p.1.2.1.1 p.1.2.2.2.2.1.1.2.1.1 p.2.1.1.2.1.1 p.2.1.1.2.2.2.2.1.1.2.1.1 p.2.2.1)
def restp_R (N : Nat) : Nat → Int → Int → Dk → Dk → Dk → Dk → (List ((Int × Int) × (Int × (Int × Int)))) → Option (Int × Int × Int × Dk × Dk × (List ((Int × Int) × (Int × (Int × Int)))))
  | 0 => fun _ _ _ _ _ _ _ => none
  | n + 1 => restp_S N (restp_R N n)
theorem restp_R_ok (N : Nat) : ∀ n, SpecOK Try.prog (restp_self (restp_R N n))
  | 0 => SpecOK.none (fun _ _ _ => rfl) (fun args w => Sem.pv_run _ _ _ (by kernel_rfl) w)
  | n + 1 => restp_self_ok N (restp_R N n) (restp_R_ok N n)
noncomputable abbrev sp_restp (N : Nat) : Spec := restp_self (restp_R N N)
theorem sp_restp_ok (N : Nat) : SpecOK Try.prog (sp_restp N) := restp_R_ok N N

def restsp_j1 (N : Nat) (used : Int) (from_ : Dk) (from_2 : Dk) (g : List ((Int × Int) × (Int × (Int × Int)))) : Option (List ((Int × Int) × (Int × (Int × Int)))) :=
  (restp_R N N 0 used from_ from_2 from_ from_2 g).bind fun (x_1, y_2, y_3, y_4, y_5, y_6) =>
  some (((0, used), (x_1, y_2, y_3)) :: y_6)
def restsp_S (N : Nat) (d : Dk) (t : Dk) (used : Int) : Option (List ((Int × Int) × (Int × (Int × Int)))) :=
  restsp_j1 N used d t []
noncomputable def restsp_sp (N : Nat) : List Spec := [sp_restp N]
theorem restsp_all (N : Nat) : AllP (SpecOK Try.prog) (restsp_sp N) := ⟨sp_restp_ok N, trivial⟩
noncomputable def restsp_c : Code := (Try.f114.body).getD .skip
noncomputable abbrev restsp_B : Body := { c := restsp_c, n := 19, res := [.tmp 6], outs := [⟨[.mp 0], [.map (.pair (.int .i64) (.int .i64)) (.pair (.int .i64) (.pair (.int .i64) (.int .i64)))]⟩], m0 := 0 }
abbrev restsp_rt : altD restsp_B.outs → Option (List ((Int × Int) × (Int × (Int × Int)))) := fun r => some r.2.1
abbrev restsp_j1_at : List PI := [.c [1, 1, 1, 1, 0], .c [1, 1, 1, 1, 1]]
abbrev restsp_j1_st : Sta := ⟨[2, 7, 8], ⟨[shI, .fz [.mp 1], .own 0 0], [.segs [.fn 129 [] [.fz [shD], .fz [.mp 1], .own 0 0, .fz [.fn 115 [] [.fz [shD]]]]], .map (.pair (.int .i64) (.int .i64)) (.pair (.int .i64) (.pair (.int .i64) (.int .i64)))]⟩⟩
abbrev restsp_j1_k (N : Nat) : Leaf (List ((Int × Int) × (Int × (Int × Int)))) := ⟨restsp_j1_at, restsp_j1_st, fun p => restsp_j1 N p.1.1 p.2.1.1.2.1.1 p.2.1.1.2.2.2.2.1.1.2.1.1 p.2.2.1⟩
theorem restsp_j1_eq (N : Nat) (used : Int) (from_ : Dk) (from_2 : Dk) (g : List ((Int × Int) × (Int × (Int × Int)))) : ev (Z := (List ((Int × Int) × (Int × (Int × Int))))) Try.prog (restsp_sp N) restsp_B [] [] (some restsp_rt) 400 true restsp_j1_at (stL restsp_j1_st ((used, ((), ()), (), ()), ((((), ((from_, ()), ((), ()), (), (((), ((from_2, ()), ())), ()), ())), ()), g, ()))) (stH restsp_j1_st ((used, ((), ()), (), ()), ((((), ((from_, ()), ((), ()), (), (((), ((from_2, ()), ())), ()), ())), ()), g, ()))) = restsp_j1 N used from_ from_2 g := by kernel_rfl
theorem restsp_j1_lf (N : Nat) {z : (List ((Int × Int) × (Int × (Int × Int))))} {E : EE} {Xc : Ctx} (hE : EOK restsp_B.m0 E) (hX : CxOK true Xc) (hret : RetOK Try.prog restsp_B E Xc z (some restsp_rt)) : LeafOK Try.prog restsp_B.c restsp_B.n restsp_B.m0 E Xc z (restsp_j1_k N) := leaf_of_ev (B := restsp_B) (loops := []) (leaves := []) (restsp_all N) mixed trivial hE hX trivial hret (fun p => restsp_j1_eq N p.1.1 p.2.1.1.2.1.1 p.2.1.1.2.2.2.2.1.1.2.1.1 p.2.2.1)
abbrev restsp_st : Sta := ⟨[0, 1, 2], ⟨[shD, .agg [.fn 115 [] [.fz [shD]]], shI], []⟩⟩
theorem restsp_eq (N : Nat) (d : Dk) (t : Dk) (used : Int) : ev (Z := (List ((Int × Int) × (Int × (Int × Int))))) Try.prog (restsp_sp N) restsp_B [] [restsp_j1_k N] (some restsp_rt) 400 false [.c [0], .c [1]] (stL restsp_st ((d, (((), ((t, ()), ())), ()), used, ()), ())) (stH restsp_st ((d, (((), ((t, ()), ())), ()), used, ()), ())) = restsp_S N d t used := by kernel_rfl
noncomputable def sp_restsp (N : Nat) : Spec := { f := 114, ins := ⟨[shD, .agg [.fn 115 [] [.fz [shD]]], shI], []⟩, outs := [⟨[.mp 0], [.map (.pair (.int .i64) (.int .i64)) (.pair (.int .i64) (.pair (.int .i64) (.int .i64)))]⟩], run := fun p k => (restsp_S N p.1.1 p.1.2.1.1.2.1.1 p.1.2.2.1).bind fun r => k (((), ()), (r, ())) }
theorem sp_restsp_ok (N : Nat) : SpecOK Try.prog (sp_restsp N) := fn_sound (B := restsp_B) (loops := []) (leaves := [restsp_j1_k N]) (fun p => restsp_S N p.1.1 p.1.2.1.1.2.1.1 p.1.2.2.1) (fun r => (((), ()), (r, ()))) restsp_rt (fun _ _ _ => rfl) (fun r z h => by cases h; rfl) Try.func114 (by kernel_rfl) (by kernel_rfl) (by kernel_rfl) rfl rfl (by kernel_rfl) (fun args w => Sem.pv_run _ _ _ (by kernel_rfl) w) (restsp_all N) mixed trivial (fun z E Xc hE hX hret => ⟨restsp_j1_lf N hE hX hret, trivial⟩) (fun p => restsp_eq N p.1.1 p.1.2.1.1.2.1.1 p.1.2.2.1)

def dbestp_j1 (N : Nat) (rec : Int → Int → Int → (List ((Int × Int) × (Int × (Int × Int)))) → Li → Option Li) (used : Int) (u : Int) (u2 : Int) (rests : List ((Int × Int) × (Int × (Int × Int)))) (out : Li) : Option Li :=
  chk (u2 + 1) <|
  rec used u (u2 + 1) rests out
def dbestp_l1 (N : Nat) : Nat → Int → Int → Int → (List ((Int × Int) × (Int × (Int × Int)))) → Li → Option Li
  | 0, _, _, _, _, _ => none
  | n_ + 1, used, u, u2, rests, out =>
    br (decide (u2 < u))
      (lim (out.length + [(((rests.find? fun (y : (Int × Int) × (Int × (Int × Int))) => Ty.beq (.pair (.int .i64) (.int .i64)) y.1 (u2, used)).map (·.2)).getD (Ty.dflt (.pair (.int .i64) (.pair (.int .i64) (.int .i64))))).1].length) <|
      br (!decide ((((rests.find? fun (y : (Int × Int) × (Int × (Int × Int))) => Ty.beq (.pair (.int .i64) (.int .i64)) y.1 (u2, used)).map (·.2)).getD (Ty.dflt (.pair (.int .i64) (.pair (.int .i64) (.int .i64))))).1 = -1))
        (grd (decide (0 ≤ (((rests.find? fun (y : (Int × Int) × (Int × (Int × Int))) => Ty.beq (.pair (.int .i64) (.int .i64)) y.1 (u2, used)).map (·.2)).getD (Ty.dflt (.pair (.int .i64) (.pair (.int .i64) (.int .i64))))).1 ∧ (((rests.find? fun (y : (Int × Int) × (Int × (Int × Int))) => Ty.beq (.pair (.int .i64) (.int .i64)) y.1 (u2, used)).map (·.2)).getD (Ty.dflt (.pair (.int .i64) (.pair (.int .i64) (.int .i64))))).1 ≤ 62)) <|
        chk ((1 : Int) * 2 ^ ((((rests.find? fun (y : (Int × Int) × (Int × (Int × Int))) => Ty.beq (.pair (.int .i64) (.int .i64)) y.1 (u2, used)).map (·.2)).getD (Ty.dflt (.pair (.int .i64) (.pair (.int .i64) (.int .i64))))).1).toNat) <|
        grd (decide (0 ≤ used ∧ 0 ≤ ((1 : Int) * 2 ^ ((((rests.find? fun (y : (Int × Int) × (Int × (Int × Int))) => Ty.beq (.pair (.int .i64) (.int .i64)) y.1 (u2, used)).map (·.2)).getD (Ty.dflt (.pair (.int .i64) (.pair (.int .i64) (.int .i64))))).1).toNat))) <|
        dbestp_j1 N (dbestp_l1 N n_) ((used.toNat ||| ((1 : Int) * 2 ^ ((((rests.find? fun (y : (Int × Int) × (Int × (Int × Int))) => Ty.beq (.pair (.int .i64) (.int .i64)) y.1 (u2, used)).map (·.2)).getD (Ty.dflt (.pair (.int .i64) (.pair (.int .i64) (.int .i64))))).1).toNat).toNat : Nat) : Int) u u2 rests (out ++ [(((rests.find? fun (y : (Int × Int) × (Int × (Int × Int))) => Ty.beq (.pair (.int .i64) (.int .i64)) y.1 (u2, used)).map (·.2)).getD (Ty.dflt (.pair (.int .i64) (.pair (.int .i64) (.int .i64))))).1]))
        (dbestp_j1 N (dbestp_l1 N n_) used u u2 rests (out ++ [(((rests.find? fun (y : (Int × Int) × (Int × (Int × Int))) => Ty.beq (.pair (.int .i64) (.int .i64)) y.1 (u2, used)).map (·.2)).getD (Ty.dflt (.pair (.int .i64) (.pair (.int .i64) (.int .i64))))).1])))
      (some (out))
def dbestp_S (N : Nat) (d : Dk) (t : Dk) : Option Li :=
  (restsp_S N d t 0).bind fun x_1 =>
  (dbestp_l1 N N 0 (d.2.2.1.length : Int) 0 x_1 []).bind fun out_2 =>
  some out_2
noncomputable def dbestp_sp (N : Nat) : List Spec := [sp_restsp N]
theorem dbestp_all (N : Nat) : AllP (SpecOK Try.prog) (dbestp_sp N) := ⟨sp_restsp_ok N, trivial⟩
noncomputable def dbestp_c : Code := (Try.f73.body).getD .skip
noncomputable abbrev dbestp_B : Body := { c := dbestp_c, n := 40, res := [.tmp 4], outs := [⟨[shL], []⟩], m0 := 0 }
abbrev dbestp_rt : altD dbestp_B.outs → Option Li := fun r => some r.1.1
abbrev dbestp_l1_at : List PI := [.c [1, 1, 1, 1, 0, 1, 0, 0, 0], .c [1, 1, 1, 1, 0, 1, 0, 0, 1], .l [1, 1, 1, 1, 0, 1, 0, 0], .b 0, .c [1, 1, 1, 1, 1]]
abbrev dbestp_l1_st : Sta := ⟨[5, 6, 7, 18, 19], ⟨[.mp 0, .ols 1, shI, shI, shI], [.map (.pair (.int .i64) (.int .i64)) (.pair (.int .i64) (.pair (.int .i64) (.int .i64))), .lst (.int .i64)]⟩⟩
abbrev dbestp_l1_h (rec : Int → Int → Int → (List ((Int × Int) × (Int × (Int × Int)))) → Li → Option Li) : Leaf Li := ⟨dbestp_l1_at, dbestp_l1_st, fun p => rec p.1.2.2.1 p.1.2.2.2.1 p.1.2.2.2.2.1 p.2.1 p.2.2.1⟩
abbrev dbestp_l1_e0 : Leaf Li := ⟨[.c [1, 1, 1, 1, 1, 0], .c [1, 1, 1, 1, 1, 1]], ⟨[6], ⟨[.ols 0], [.lst (.int .i64)]⟩⟩, fun p => some (p.2.1)⟩
abbrev dbestp_j1_at : List PI := [.c [1, 1, 1, 1, 0, 1, 0, 0, 1, 1, 1], .l [1, 1, 1, 1, 0, 1, 0, 0], .b 0, .c [1, 1, 1, 1, 1]]
abbrev dbestp_j1_st : Sta := ⟨[5, 6, 7, 18, 19], ⟨[.mp 0, .ols 1, shI, shI, shI], [.map (.pair (.int .i64) (.int .i64)) (.pair (.int .i64) (.pair (.int .i64) (.int .i64))), .lst (.int .i64)]⟩⟩
abbrev dbestp_j1_k (N : Nat) (rec : Int → Int → Int → (List ((Int × Int) × (Int × (Int × Int)))) → Li → Option Li) : Leaf Li := ⟨dbestp_j1_at, dbestp_j1_st, fun p => dbestp_j1 N rec p.1.2.2.1 p.1.2.2.2.1 p.1.2.2.2.2.1 p.2.1 p.2.2.1⟩
theorem dbestp_j1_eq (N : Nat) (rec : Int → Int → Int → (List ((Int × Int) × (Int × (Int × Int)))) → Li → Option Li) (used : Int) (u : Int) (u2 : Int) (rests : List ((Int × Int) × (Int × (Int × Int)))) (out : Li) : ev (Z := Li) Try.prog (dbestp_sp N) dbestp_B [] [dbestp_l1_h rec, dbestp_l1_e0] none 400 true dbestp_j1_at (stL dbestp_j1_st (((), (), used, u, u2, ()), (rests, out, ()))) (stH dbestp_j1_st (((), (), used, u, u2, ()), (rests, out, ()))) = dbestp_j1 N rec used u u2 rests out := by kernel_rfl
theorem dbestp_j1_lf (N : Nat) (rec : Int → Int → Int → (List ((Int × Int) × (Int × (Int × Int)))) → Li → Option Li) {z : Li} {top : Bool} {E : EE} {Xc : Ctx} (hE : EOK dbestp_B.m0 E) (hX : CxOK top Xc) (hrec : LeafOK Try.prog dbestp_B.c dbestp_B.n dbestp_B.m0 E Xc z (dbestp_l1_h rec)) (h0 : LeafOK Try.prog dbestp_B.c dbestp_B.n dbestp_B.m0 E Xc z dbestp_l1_e0) : LeafOK Try.prog dbestp_B.c dbestp_B.n dbestp_B.m0 E Xc z (dbestp_j1_k N rec) := leaf_of_ev (B := dbestp_B) (loops := []) (leaves := [dbestp_l1_h rec, dbestp_l1_e0]) (dbestp_all N) mixed trivial hE hX ⟨hrec, h0, trivial⟩ RetOK.no (fun p => dbestp_j1_eq N rec p.1.2.2.1 p.1.2.2.2.1 p.1.2.2.2.2.1 p.2.1 p.2.2.1)
noncomputable def dbestp_l1_L (N : Nat) : LoopS := { at_ := dbestp_l1_at, sta := dbestp_l1_st, exits := [([.c [1, 1, 1, 1, 1, 0], .c [1, 1, 1, 1, 1, 1]], ⟨[6], ⟨[.ols 0], [.lst (.int .i64)]⟩⟩)], run := fun p k => (dbestp_l1 N N p.1.2.2.1 p.1.2.2.2.1 p.1.2.2.2.2.1 p.2.1 p.2.2.1).bind fun e => k (.inl (((), ()), (e, ()))) }
theorem dbestp_l1_eq (N n_ : Nat) (used : Int) (u : Int) (u2 : Int) (rests : List ((Int × Int) × (Int × (Int × Int)))) (out : Li) : ev (Z := Li) Try.prog (dbestp_sp N) dbestp_B [] [dbestp_l1_h (dbestp_l1 N n_), dbestp_l1_e0, dbestp_j1_k N (dbestp_l1 N n_)] none 400 true dbestp_l1_at (stL dbestp_l1_st (((), (), used, u, u2, ()), (rests, out, ()))) (stH dbestp_l1_st (((), (), used, u, u2, ()), (rests, out, ()))) = dbestp_l1 N (n_ + 1) used u u2 rests out := by kernel_rfl
theorem dbestp_l1_ok (N : Nat) {top : Bool} : LoopOK Try.prog dbestp_B.c dbestp_B.n dbestp_B.m0 top (dbestp_l1_L N) := loop_of_ev (Z := Li) (N := N) (fun m p => dbestp_l1 N m p.1.2.2.1 p.1.2.2.2.1 p.1.2.2.2.2.1 p.2.1 p.2.2.1) (fun e => .inl (((), ()), (e, ()))) (fun _ _ _ => rfl) (fun _ => rfl) (fun m z E Xc hE hX hrec hx => leaf_of_ev (B := dbestp_B) (loops := []) (leaves := [dbestp_l1_h (dbestp_l1 N m), dbestp_l1_e0, dbestp_j1_k N (dbestp_l1 N m)]) (dbestp_all N) mixed trivial hE hX ⟨hrec, (fun p hp => by obtain rfl := Option.some.inj hp; exact hx), dbestp_j1_lf N _ hE hX hrec (fun p hp => by obtain rfl := Option.some.inj hp; exact hx), trivial⟩ RetOK.no (fun p => dbestp_l1_eq N m p.1.2.2.1 p.1.2.2.2.1 p.1.2.2.2.2.1 p.2.1 p.2.2.1))
abbrev dbestp_st : Sta := ⟨[0, 1], ⟨[shD, .agg [.fn 115 [] [.fz [shD]]]], []⟩⟩
theorem dbestp_eq (N : Nat) (d : Dk) (t : Dk) : ev (Z := Li) Try.prog (dbestp_sp N) dbestp_B [dbestp_l1_L N] [] (some dbestp_rt) 400 false [.c [0], .c [1]] (stL dbestp_st ((d, (((), ((t, ()), ())), ()), ()), ())) (stH dbestp_st ((d, (((), ((t, ()), ())), ()), ()), ())) = dbestp_S N d t := by kernel_rfl
noncomputable def sp_dbestp (N : Nat) : Spec := { f := 73, ins := ⟨[shD, .agg [.fn 115 [] [.fz [shD]]]], []⟩, outs := [⟨[shL], []⟩], run := fun p k => (dbestp_S N p.1.1 p.1.2.1.1.2.1.1).bind fun r => k ((r, ()), ()) }
theorem sp_dbestp_ok (N : Nat) : SpecOK Try.prog (sp_dbestp N) := fn_sound (B := dbestp_B) (loops := [dbestp_l1_L N]) (leaves := []) (fun p => dbestp_S N p.1.1 p.1.2.1.1.2.1.1) (fun r => ((r, ()), ())) dbestp_rt (fun _ _ _ => rfl) (fun r z h => by cases h; rfl) Try.func73 (by kernel_rfl) (by kernel_rfl) (by kernel_rfl) rfl rfl (by kernel_rfl) (fun args w => Sem.pv_run _ _ _ (by kernel_rfl) w) (dbestp_all N) mixed ⟨dbestp_l1_ok N, trivial⟩ (fun z E Xc hE hX hret => trivial) (fun p => dbestp_eq N p.1.1 p.1.2.1.1.2.1.1)

def first_S (N : Nat) (d : Dk) (used : Int) : Option (Int × Int × Int) :=
  (plain_S N d).bind fun x_1 =>
  (restsp_S N d x_1 used).bind fun x_2 =>
  some ((((x_2.find? fun (y : (Int × Int) × (Int × (Int × Int))) => Ty.beq (.pair (.int .i64) (.int .i64)) y.1 (0, used)).map (·.2)).getD (Ty.dflt (.pair (.int .i64) (.pair (.int .i64) (.int .i64))))).1, ((((x_2.find? fun (y : (Int × Int) × (Int × (Int × Int))) => Ty.beq (.pair (.int .i64) (.int .i64)) y.1 (0, used)).map (·.2)).getD (Ty.dflt (.pair (.int .i64) (.pair (.int .i64) (.int .i64))))).2).1, ((((x_2.find? fun (y : (Int × Int) × (Int × (Int × Int))) => Ty.beq (.pair (.int .i64) (.int .i64)) y.1 (0, used)).map (·.2)).getD (Ty.dflt (.pair (.int .i64) (.pair (.int .i64) (.int .i64))))).2).2)
noncomputable def first_sp (N : Nat) : List Spec := [sp_plain N, sp_restsp N]
theorem first_all (N : Nat) : AllP (SpecOK Try.prog) (first_sp N) := ⟨sp_plain_ok N, sp_restsp_ok N, trivial⟩
noncomputable def first_c : Code := (Try.f77.body).getD .skip
noncomputable abbrev first_B : Body := { c := first_c, n := 13, res := [.cell 4 109], outs := [⟨[.agg [shI, shI, shI]], []⟩], m0 := 0 }
abbrev first_rt : altD first_B.outs → Option (Int × Int × Int) := fun r => some (r.1.1.1, r.1.1.2.1, r.1.1.2.2.1)
abbrev first_st : Sta := ⟨[0, 1], ⟨[shD, shI], []⟩⟩
theorem first_eq (N : Nat) (d : Dk) (used : Int) : ev (Z := Int × Int × Int) Try.prog (first_sp N) first_B [] [] (some first_rt) 400 false [.c [0], .c [1]] (stL first_st ((d, used, ()), ())) (stH first_st ((d, used, ()), ())) = first_S N d used := by kernel_rfl
noncomputable def sp_first (N : Nat) : Spec := { f := 77, ins := ⟨[shD, shI], []⟩, outs := [⟨[.agg [shI, shI, shI]], []⟩], run := fun p k => (first_S N p.1.1 p.1.2.1).bind fun r => k (((r.1, r.2.1, r.2.2, ()), ()), ()) }
theorem sp_first_ok (N : Nat) : SpecOK Try.prog (sp_first N) := fn_sound (B := first_B) (loops := []) (leaves := []) (fun p => first_S N p.1.1 p.1.2.1) (fun r => (((r.1, r.2.1, r.2.2, ()), ()), ())) first_rt (fun _ _ _ => rfl) (fun r z h => by cases h; rfl) Try.func77 (by kernel_rfl) (by kernel_rfl) (by kernel_rfl) rfl rfl (by kernel_rfl) (fun args w => Sem.pv_run _ _ _ (by kernel_rfl) w) (first_all N) mixed trivial (fun z E Xc hE hX hret => trivial) (fun p => first_eq N p.1.1 p.1.2.1)

def best_S (N : Nat) (d : Li) (d2 : Int) (d3 : Ll) (d4 : Ll) (d5 : Li) : Option (Li × Int × Int) :=
  ((opened_S N d d2 d3 d4 d5).bind fun e => match e with
  | .inl (x_1, y_2) =>
    (br (!decide (y_2 = 0))
      (some ([], 0, y_2))
      ((plain_S N x_1).bind fun x_3 =>
      (dbestp_S N x_1 x_3).bind fun x_4 =>
      (dworth_S N x_1 x_4).bind fun x_5 =>
      some (x_4, x_5, 0)))
  | .inr x_6 =>
    (br (!decide (x_6 = 0))
      (some ([], 0, x_6))
      (none)))
noncomputable def best_sp (N : Nat) : List Spec := [sp_opened N, sp_dworth N, sp_plain N, sp_dbestp N]
theorem best_all (N : Nat) : AllP (SpecOK Try.prog) (best_sp N) := ⟨sp_opened_ok N, sp_dworth_ok N, sp_plain_ok N, sp_dbestp_ok N, trivial⟩
noncomputable def best_c : Code := (Try.f19.body).getD .skip
noncomputable abbrev best_B : Body := { c := best_c, n := 24, res := [.tmp 2, .tmp 3, .tmp 4], outs := [⟨[shL, shI, shI], []⟩], m0 := 0 }
abbrev best_rt : altD best_B.outs → Option (Li × Int × Int) := fun r => some (r.1.1, r.1.2.1, r.1.2.2.1)
abbrev best_st : Sta := ⟨[0], ⟨[shG], []⟩⟩
theorem best_eq (N : Nat) (d : Li) (d2 : Int) (d3 : Ll) (d4 : Ll) (d5 : Li) : ev (Z := Li × Int × Int) Try.prog (best_sp N) best_B [] [] (some best_rt) 400 false [.c [0], .c [1]] (stL best_st (((d, d2, d3, d4, d5, ()), ()), ())) (stH best_st (((d, d2, d3, d4, d5, ()), ()), ())) = best_S N d d2 d3 d4 d5 := by kernel_rfl
noncomputable def sp_best (N : Nat) : Spec := { f := 19, ins := ⟨[shG], []⟩, outs := [⟨[shL, shI, shI], []⟩], run := fun p k => (best_S N p.1.1.1 p.1.1.2.1 p.1.1.2.2.1 p.1.1.2.2.2.1 p.1.1.2.2.2.2.1).bind fun r => k ((r.1, r.2.1, r.2.2, ()), ()) }
theorem sp_best_ok (N : Nat) : SpecOK Try.prog (sp_best N) := fn_sound (B := best_B) (loops := []) (leaves := []) (fun p => best_S N p.1.1.1 p.1.1.2.1 p.1.1.2.2.1 p.1.1.2.2.2.1 p.1.1.2.2.2.2.1) (fun r => ((r.1, r.2.1, r.2.2, ()), ())) best_rt (fun _ _ _ => rfl) (fun r z h => by cases h; rfl) Try.func19 (by kernel_rfl) (by kernel_rfl) (by kernel_rfl) rfl rfl (by kernel_rfl) (fun args w => Sem.pv_run _ _ _ (by kernel_rfl) w) (best_all N) mixed trivial (fun z E Xc hE hX hret => trivial) (fun p => best_eq N p.1.1.1 p.1.1.2.1 p.1.1.2.2.1 p.1.1.2.2.2.1 p.1.1.2.2.2.2.1)

def count_S (N : Nat) (d : Li) (d2 : Int) (d3 : Ll) (d4 : Ll) (d5 : Li) : Option (Int × Int) :=
  ((opened_S N d d2 d3 d4 d5).bind fun e => match e with
  | .inl (x_1, y_2) =>
    (br (!decide (y_2 = 0))
      (some (0, y_2))
      ((first_S N x_1 0).bind fun (x_3, y_4, y_5) =>
      some (y_5, 0)))
  | .inr x_6 =>
    (br (!decide (x_6 = 0))
      (some (0, x_6))
      (none)))
noncomputable def count_sp (N : Nat) : List Spec := [sp_opened N, sp_first N]
theorem count_all (N : Nat) : AllP (SpecOK Try.prog) (count_sp N) := ⟨sp_opened_ok N, sp_first_ok N, trivial⟩
noncomputable def count_c : Code := (Try.f32.body).getD .skip
noncomputable abbrev count_B : Body := { c := count_c, n := 17, res := [.tmp 2, .tmp 3], outs := [⟨[shI, shI], []⟩], m0 := 0 }
abbrev count_rt : altD count_B.outs → Option (Int × Int) := fun r => some (r.1.1, r.1.2.1)
abbrev count_st : Sta := ⟨[0], ⟨[shG], []⟩⟩
theorem count_eq (N : Nat) (d : Li) (d2 : Int) (d3 : Ll) (d4 : Ll) (d5 : Li) : ev (Z := Int × Int) Try.prog (count_sp N) count_B [] [] (some count_rt) 400 false [.c [0], .c [1]] (stL count_st (((d, d2, d3, d4, d5, ()), ()), ())) (stH count_st (((d, d2, d3, d4, d5, ()), ()), ())) = count_S N d d2 d3 d4 d5 := by kernel_rfl
noncomputable def sp_count (N : Nat) : Spec := { f := 32, ins := ⟨[shG], []⟩, outs := [⟨[shI, shI], []⟩], run := fun p k => (count_S N p.1.1.1 p.1.1.2.1 p.1.1.2.2.1 p.1.1.2.2.2.1 p.1.1.2.2.2.2.1).bind fun r => k ((r.1, r.2, ()), ()) }
theorem sp_count_ok (N : Nat) : SpecOK Try.prog (sp_count N) := fn_sound (B := count_B) (loops := []) (leaves := []) (fun p => count_S N p.1.1.1 p.1.1.2.1 p.1.1.2.2.1 p.1.1.2.2.2.1 p.1.1.2.2.2.2.1) (fun r => ((r.1, r.2, ()), ())) count_rt (fun _ _ _ => rfl) (fun r z h => by cases h; rfl) Try.func32 (by kernel_rfl) (by kernel_rfl) (by kernel_rfl) rfl rfl (by kernel_rfl) (fun args w => Sem.pv_run _ _ _ (by kernel_rfl) w) (count_all N) mixed trivial (fun z E Xc hE hX hret => trivial) (fun p => count_eq N p.1.1.1 p.1.1.2.1 p.1.1.2.2.1 p.1.1.2.2.2.1 p.1.1.2.2.2.2.1)

noncomputable abbrev put_self (self : Li → Int → (Li) → Dk → Int → (Li) → Dk → Int → Option ((Li × Dk × Int) ⊕ (Li × Li × Dk × Int))) : Spec := { f := 117, ins := ⟨[shL, shI, .fe (.sl (.int .i64)), .fz [shD], .fe (.int .i64), .own 0 0], [.segs [.fn 117 [] [.fe (.sl (.int .i64)), .fz [shD], .fe (.int .i64), .own 0 0]]]⟩, outs := [⟨[.nils], [.segs [.fn 117 [] [.fe (.sl (.int .i64)), .fz [shD], .fe (.int .i64), .own 0 0]]]⟩, ⟨[shL], [.segs [.fn 117 [] [.fe (.sl (.int .i64)), .fz [shD], .fe (.int .i64), .own 0 0]]]⟩], run := fun p k => (self p.1.1 p.1.2.1 p.1.2.2.1 p.1.2.2.2.1.1 p.1.2.2.2.2.1 p.2.1.1.2.1 p.2.1.1.2.2.1.1 p.2.1.1.2.2.2.1).bind fun r => match r with | .inl r => k (.inl (((), ()), ((((), (r.1, (r.2.1, ()), r.2.2, (), ())), ()), ()))) | .inr r => k (.inr ((r.1, ()), ((((), (r.2.1, (r.2.2.1, ()), r.2.2.2, (), ())), ()), ()))) }
def put_j1 (N : Nat) (self : Li → Int → (Li) → Dk → Int → (Li) → Dk → Int → Option ((Li × Dk × Int) ⊕ (Li × Li × Dk × Int))) (rec : Li → Int → (Li) → Dk → Int → Int → (Li) → Dk → Int → Option ((Li × Li × Dk × Int) ⊕ (Li × Dk × Int))) (l : Li) (left : Int) (u : Li) (u2 : Dk) (i : Int) (k : Int) (g : Li) (g2 : Dk) (g3 : Int) : Option ((Li × Li × Dk × Int) ⊕ (Li × Dk × Int)) :=
  chk (k + 1) <|
  rec l left u u2 i (k + 1) g g2 g3
def put_j2 (N : Nat) (self : Li → Int → (Li) → Dk → Int → (Li) → Dk → Int → Option ((Li × Dk × Int) ⊕ (Li × Li × Dk × Int))) (rec : Li → Int → (Li) → Dk → Int → Int → (Li) → Dk → Int → Option ((Li × Li × Dk × Int) ⊕ (Li × Dk × Int))) (l : Li) (left : Int) (u : Li) (u2 : Dk) (i : Int) (k : Int) (now : Int) (g : Li) (g2 : Dk) (g3 : Int) : Option ((Li × Li × Dk × Int) ⊕ (Li × Dk × Int)) :=
  (cloneo_S N l).bind fun x_6 =>
  lim (x_6.length + [k].length) <|
  ((self (x_6 ++ [k]) now g g2 g3 g g2 g3).bind fun e => match e with
  | .inl (x_7, y_8, y_9) =>
    (put_j1 N self (rec) l left u u2 i k x_7 y_8 y_9)
  | .inr (x_10, y_11, y_12, y_13) =>
    (grd (!x_10.isEmpty) <|
    some (.inl (x_10, y_11, y_12, y_13))))
def put_l1 (N : Nat) (self : Li → Int → (Li) → Dk → Int → (Li) → Dk → Int → Option ((Li × Dk × Int) ⊕ (Li × Li × Dk × Int))) : Nat → Li → Int → (Li) → Dk → Int → Int → (Li) → Dk → Int → Option ((Li × Li × Dk × Int) ⊕ (Li × Dk × Int))
  | 0, _, _, _, _, _, _, _, _, _ => none
  | n_ + 1, l, left, u, u2, i, k, g, g2, g3 =>
    br (decide (k < (u2.2.2.2.1.length : Int)))
      (br (!decide (k = -1))
        ((containsi_S N l k).bind fun x_2 =>
        br x_2
          (put_j1 N self (put_l1 N self n_) l left u u2 i k g g2 g3)
          ((can_S N u2 i k).bind fun x_3 =>
          br (!x_3)
            (put_j1 N self (put_l1 N self n_) l left u u2 i k g g2 g3)
            (idx u i fun x_4 =>
            br (!decide (k = x_4))
              (br (decide (left = 0))
                (put_j1 N self (put_l1 N self n_) l left u u2 i k g g2 g3)
                (idx u i fun x_5 =>
                br (!decide (k = x_5))
                  (chk (left - 1) <|
                  put_j2 N self (put_l1 N self n_) l left u u2 i k (left - 1) g g2 g3)
                  (put_j2 N self (put_l1 N self n_) l left u u2 i k left g g2 g3)))
              (idx u i fun x_14 =>
              br (!decide (k = x_14))
                (chk (left - 1) <|
                put_j2 N self (put_l1 N self n_) l left u u2 i k (left - 1) g g2 g3)
                (put_j2 N self (put_l1 N self n_) l left u u2 i k left g g2 g3)))))
        (idx u i fun x_15 =>
        br (!decide (k = x_15))
          (br (decide (left = 0))
            (put_j1 N self (put_l1 N self n_) l left u u2 i k g g2 g3)
            (idx u i fun x_16 =>
            br (!decide (k = x_16))
              (chk (left - 1) <|
              put_j2 N self (put_l1 N self n_) l left u u2 i k (left - 1) g g2 g3)
              (put_j2 N self (put_l1 N self n_) l left u u2 i k left g g2 g3)))
          (idx u i fun x_17 =>
          br (!decide (k = x_17))
            (chk (left - 1) <|
            put_j2 N self (put_l1 N self n_) l left u u2 i k (left - 1) g g2 g3)
            (put_j2 N self (put_l1 N self n_) l left u u2 i k left g g2 g3))))
      (some (.inr (g, g2, g3)))
def put_S (N : Nat) (self : Li → Int → (Li) → Dk → Int → (Li) → Dk → Int → Option ((Li × Dk × Int) ⊕ (Li × Li × Dk × Int))) (l : Li) (left : Int) (u : Li) (u2 : Dk) (u3 : Int) (g : Li) (g2 : Dk) (g3 : Int) : Option ((Li × Dk × Int) ⊕ (Li × Li × Dk × Int)) :=
  br (decide ((l.length : Int) = (u.length : Int)))
    ((dworth_S N u2 l).bind fun x_1 =>
    br (decide (u3 < x_1))
      (some (.inr (l, g, g2, g3)))
      (some (.inl (g, g2, g3))))
    ((put_l1 N self N l left u u2 (l.length : Int) (-1) g g2 g3).bind fun e => match e with
    | .inl (out_18, g_19, g2_20, g3_21) =>
      some (.inr (out_18, g_19, g2_20, g3_21))
    | .inr (g_22, g2_23, g3_24) =>
      some (.inl (g_22, g2_23, g3_24)))
noncomputable def put_sp (N : Nat) (self : Li → Int → (Li) → Dk → Int → (Li) → Dk → Int → Option ((Li × Dk × Int) ⊕ (Li × Li × Dk × Int))) : List Spec := [sp_cloneo N, sp_can N, sp_containsi N, sp_dworth N, put_self self]
theorem put_all (N : Nat) (self : Li → Int → (Li) → Dk → Int → (Li) → Dk → Int → Option ((Li × Dk × Int) ⊕ (Li × Li × Dk × Int))) (hself : SpecOK Try.prog (put_self self)) : AllP (SpecOK Try.prog) (put_sp N self) := ⟨sp_cloneo_ok N, sp_can_ok N, sp_containsi_ok N, sp_dworth_ok N, hself, trivial⟩
noncomputable def put_c : Code := (Try.f117.body).getD .skip
noncomputable abbrev put_B : Body := { c := put_c, n := 81, res := [.tmp 8], outs := [⟨[.nils], [.segs [.fn 117 [] [.fe (.sl (.int .i64)), .fz [shD], .fe (.int .i64), .own 0 0]]]⟩, ⟨[shL], [.segs [.fn 117 [] [.fe (.sl (.int .i64)), .fz [shD], .fe (.int .i64), .own 0 0]]]⟩], m0 := 1 }
abbrev put_rt : altD put_B.outs → Option ((Li × Dk × Int) ⊕ (Li × Li × Dk × Int)) := fun r => match r with | .inl r => some (.inl (r.2.1.1.2.1, r.2.1.1.2.2.1.1, r.2.1.1.2.2.2.1)) | .inr r => some (.inr (r.1.1, r.2.1.1.2.1, r.2.1.1.2.2.1.1, r.2.1.1.2.2.2.1))
abbrev put_l1_at : List PI := [.c [1, 1, 1, 0, 1, 0, 0, 0, 0], .c [1, 1, 1, 0, 1, 0, 0, 0, 1], .c [1, 1, 1, 0, 1, 0, 0, 1], .l [1, 1, 1, 0, 1, 0, 0], .b 0, .c [1, 1, 1, 1]]
abbrev put_l1_st : Sta := ⟨[0, 1, 2, 3, 5, 9, 10], ⟨[shL, shI, .fe (.sl (.int .i64)), .fz [shD], .own 0 0, shI, shI], [.segs [.fn 117 [] [.fe (.sl (.int .i64)), .fz [shD], .fe (.int .i64), .own 0 0]]]⟩⟩
abbrev put_l1_h (rec : Li → Int → (Li) → Dk → Int → Int → (Li) → Dk → Int → Option ((Li × Li × Dk × Int) ⊕ (Li × Dk × Int))) : Leaf ((Li × Li × Dk × Int) ⊕ (Li × Dk × Int)) := ⟨put_l1_at, put_l1_st, fun p => rec p.1.1 p.1.2.1 p.1.2.2.1 p.1.2.2.2.1.1 p.1.2.2.2.2.2.1 p.1.2.2.2.2.2.2.1 p.2.1.1.2.1 p.2.1.1.2.2.1.1 p.2.1.1.2.2.2.1⟩
abbrev put_l1_e0 : Leaf ((Li × Li × Dk × Int) ⊕ (Li × Dk × Int)) := ⟨[.c [1, 1, 1, 0, 1, 0, 0, 1, 0, 0, 1, 1, 1, 1, 1, 0, 0], .c [1, 1, 1, 0, 1, 0, 0, 1, 0, 0, 1, 1, 1, 1, 1, 0, 1], .b 1, .c [1, 1, 1, 0, 1, 0, 0, 1, 1], .l [1, 1, 1, 0, 1, 0, 0], .b 0, .c [1, 1, 1, 1]], ⟨[12], ⟨[shL], [.segs [.fn 117 [] [.fe (.sl (.int .i64)), .fz [shD], .fe (.int .i64), .own 0 0]]]⟩⟩, fun p => some (.inl (p.1.1, p.2.1.1.2.1, p.2.1.1.2.2.1.1, p.2.1.1.2.2.2.1))⟩
abbrev put_l1_e1 : Leaf ((Li × Li × Dk × Int) ⊕ (Li × Dk × Int)) := ⟨[.c [1, 1, 1, 1, 0], .c [1, 1, 1, 1, 1]], ⟨[], ⟨[], [.segs [.fn 117 [] [.fe (.sl (.int .i64)), .fz [shD], .fe (.int .i64), .own 0 0]]]⟩⟩, fun p => some (.inr (p.2.1.1.2.1, p.2.1.1.2.2.1.1, p.2.1.1.2.2.2.1))⟩
abbrev put_j1_at : List PI := [.c [1, 1, 1, 0, 1, 0, 0, 1, 1], .l [1, 1, 1, 0, 1, 0, 0], .b 0, .c [1, 1, 1, 1]]
abbrev put_j1_st : Sta := ⟨[0, 1, 2, 3, 5, 9, 10], ⟨[shL, shI, .fe (.sl (.int .i64)), .fz [shD], .own 0 0, shI, shI], [.segs [.fn 117 [] [.fe (.sl (.int .i64)), .fz [shD], .fe (.int .i64), .own 0 0]]]⟩⟩
abbrev put_j1_k (N : Nat) (self : Li → Int → (Li) → Dk → Int → (Li) → Dk → Int → Option ((Li × Dk × Int) ⊕ (Li × Li × Dk × Int))) (rec : Li → Int → (Li) → Dk → Int → Int → (Li) → Dk → Int → Option ((Li × Li × Dk × Int) ⊕ (Li × Dk × Int))) : Leaf ((Li × Li × Dk × Int) ⊕ (Li × Dk × Int)) := ⟨put_j1_at, put_j1_st, fun p => put_j1 N self rec p.1.1 p.1.2.1 p.1.2.2.1 p.1.2.2.2.1.1 p.1.2.2.2.2.2.1 p.1.2.2.2.2.2.2.1 p.2.1.1.2.1 p.2.1.1.2.2.1.1 p.2.1.1.2.2.2.1⟩
theorem put_j1_eq (N : Nat) (self : Li → Int → (Li) → Dk → Int → (Li) → Dk → Int → Option ((Li × Dk × Int) ⊕ (Li × Li × Dk × Int))) (rec : Li → Int → (Li) → Dk → Int → Int → (Li) → Dk → Int → Option ((Li × Li × Dk × Int) ⊕ (Li × Dk × Int))) (l : Li) (left : Int) (u : Li) (u2 : Dk) (i : Int) (k : Int) (g : Li) (g2 : Dk) (g3 : Int) : ev (Z := (Li × Li × Dk × Int) ⊕ (Li × Dk × Int)) Try.prog (put_sp N self) put_B [] [put_l1_h rec, put_l1_e0, put_l1_e1] none 400 true put_j1_at (stL put_j1_st ((l, left, u, (u2, ()), (), i, k, ()), ((((), (g, (g2, ()), g3, (), ())), ()), ()))) (stH put_j1_st ((l, left, u, (u2, ()), (), i, k, ()), ((((), (g, (g2, ()), g3, (), ())), ()), ()))) = put_j1 N self rec l left u u2 i k g g2 g3 := by kernel_rfl
theorem put_j1_lf (N : Nat) (self : Li → Int → (Li) → Dk → Int → (Li) → Dk → Int → Option ((Li × Dk × Int) ⊕ (Li × Li × Dk × Int))) (hself : SpecOK Try.prog (put_self self)) (rec : Li → Int → (Li) → Dk → Int → Int → (Li) → Dk → Int → Option ((Li × Li × Dk × Int) ⊕ (Li × Dk × Int))) {z : (Li × Li × Dk × Int) ⊕ (Li × Dk × Int)} {top : Bool} {E : EE} {Xc : Ctx} (hE : EOK put_B.m0 E) (hX : CxOK top Xc) (hrec : LeafOK Try.prog put_B.c put_B.n put_B.m0 E Xc z (put_l1_h rec)) (h0 : LeafOK Try.prog put_B.c put_B.n put_B.m0 E Xc z put_l1_e0) (h1 : LeafOK Try.prog put_B.c put_B.n put_B.m0 E Xc z put_l1_e1) : LeafOK Try.prog put_B.c put_B.n put_B.m0 E Xc z (put_j1_k N self rec) := leaf_of_ev (B := put_B) (loops := []) (leaves := [put_l1_h rec, put_l1_e0, put_l1_e1]) (put_all N self hself) mixed trivial hE hX ⟨hrec, h0, h1, trivial⟩ RetOK.no (fun p => put_j1_eq N self rec p.1.1 p.1.2.1 p.1.2.2.1 p.1.2.2.2.1.1 p.1.2.2.2.2.2.1 p.1.2.2.2.2.2.2.1 p.2.1.1.2.1 p.2.1.1.2.2.1.1 p.2.1.1.2.2.2.1)
abbrev put_j2_at : List PI := [.c [1, 1, 1, 0, 1, 0, 0, 1, 0, 0, 1, 1, 1, 0], .c [1, 1, 1, 0, 1, 0, 0, 1, 0, 0, 1, 1, 1, 1], .b 1, .c [1, 1, 1, 0, 1, 0, 0, 1, 1], .l [1, 1, 1, 0, 1, 0, 0], .b 0, .c [1, 1, 1, 1]]
abbrev put_j2_st : Sta := ⟨[0, 1, 2, 3, 5, 9, 10, 11], ⟨[shL, shI, .fe (.sl (.int .i64)), .fz [shD], .own 0 0, shI, shI, shI], [.segs [.fn 117 [] [.fe (.sl (.int .i64)), .fz [shD], .fe (.int .i64), .own 0 0]]]⟩⟩
abbrev put_j2_k (N : Nat) (self : Li → Int → (Li) → Dk → Int → (Li) → Dk → Int → Option ((Li × Dk × Int) ⊕ (Li × Li × Dk × Int))) (rec : Li → Int → (Li) → Dk → Int → Int → (Li) → Dk → Int → Option ((Li × Li × Dk × Int) ⊕ (Li × Dk × Int))) : Leaf ((Li × Li × Dk × Int) ⊕ (Li × Dk × Int)) := ⟨put_j2_at, put_j2_st, fun p => put_j2 N self rec p.1.1 p.1.2.1 p.1.2.2.1 p.1.2.2.2.1.1 p.1.2.2.2.2.2.1 p.1.2.2.2.2.2.2.1 p.1.2.2.2.2.2.2.2.1 p.2.1.1.2.1 p.2.1.1.2.2.1.1 p.2.1.1.2.2.2.1⟩
theorem put_j2_eq (N : Nat) (self : Li → Int → (Li) → Dk → Int → (Li) → Dk → Int → Option ((Li × Dk × Int) ⊕ (Li × Li × Dk × Int))) (rec : Li → Int → (Li) → Dk → Int → Int → (Li) → Dk → Int → Option ((Li × Li × Dk × Int) ⊕ (Li × Dk × Int))) (l : Li) (left : Int) (u : Li) (u2 : Dk) (i : Int) (k : Int) (now : Int) (g : Li) (g2 : Dk) (g3 : Int) : ev (Z := (Li × Li × Dk × Int) ⊕ (Li × Dk × Int)) Try.prog (put_sp N self) put_B [] [put_l1_h rec, put_l1_e0, put_l1_e1, put_j1_k N self rec] none 400 true put_j2_at (stL put_j2_st ((l, left, u, (u2, ()), (), i, k, now, ()), ((((), (g, (g2, ()), g3, (), ())), ()), ()))) (stH put_j2_st ((l, left, u, (u2, ()), (), i, k, now, ()), ((((), (g, (g2, ()), g3, (), ())), ()), ()))) = put_j2 N self rec l left u u2 i k now g g2 g3 := by kernel_rfl
theorem put_j2_lf (N : Nat) (self : Li → Int → (Li) → Dk → Int → (Li) → Dk → Int → Option ((Li × Dk × Int) ⊕ (Li × Li × Dk × Int))) (hself : SpecOK Try.prog (put_self self)) (rec : Li → Int → (Li) → Dk → Int → Int → (Li) → Dk → Int → Option ((Li × Li × Dk × Int) ⊕ (Li × Dk × Int))) {z : (Li × Li × Dk × Int) ⊕ (Li × Dk × Int)} {top : Bool} {E : EE} {Xc : Ctx} (hE : EOK put_B.m0 E) (hX : CxOK top Xc) (hrec : LeafOK Try.prog put_B.c put_B.n put_B.m0 E Xc z (put_l1_h rec)) (h0 : LeafOK Try.prog put_B.c put_B.n put_B.m0 E Xc z put_l1_e0) (h1 : LeafOK Try.prog put_B.c put_B.n put_B.m0 E Xc z put_l1_e1) : LeafOK Try.prog put_B.c put_B.n put_B.m0 E Xc z (put_j2_k N self rec) := leaf_of_ev (B := put_B) (loops := []) (leaves := [put_l1_h rec, put_l1_e0, put_l1_e1, put_j1_k N self rec]) (put_all N self hself) mixed trivial hE hX ⟨hrec, h0, h1, put_j1_lf N self hself rec hE hX hrec h0 h1, trivial⟩ RetOK.no (fun p => put_j2_eq N self rec p.1.1 p.1.2.1 p.1.2.2.1 p.1.2.2.2.1.1 p.1.2.2.2.2.2.1 p.1.2.2.2.2.2.2.1 p.1.2.2.2.2.2.2.2.1 p.2.1.1.2.1 p.2.1.1.2.2.1.1 p.2.1.1.2.2.2.1)
noncomputable def put_l1_L (N : Nat) (self : Li → Int → (Li) → Dk → Int → (Li) → Dk → Int → Option ((Li × Dk × Int) ⊕ (Li × Li × Dk × Int))) : LoopS := { at_ := put_l1_at, sta := put_l1_st, exits := [([.c [1, 1, 1, 0, 1, 0, 0, 1, 0, 0, 1, 1, 1, 1, 1, 0, 0], .c [1, 1, 1, 0, 1, 0, 0, 1, 0, 0, 1, 1, 1, 1, 1, 0, 1], .b 1, .c [1, 1, 1, 0, 1, 0, 0, 1, 1], .l [1, 1, 1, 0, 1, 0, 0], .b 0, .c [1, 1, 1, 1]], ⟨[12], ⟨[shL], [.segs [.fn 117 [] [.fe (.sl (.int .i64)), .fz [shD], .fe (.int .i64), .own 0 0]]]⟩⟩), ([.c [1, 1, 1, 1, 0], .c [1, 1, 1, 1, 1]], ⟨[], ⟨[], [.segs [.fn 117 [] [.fe (.sl (.int .i64)), .fz [shD], .fe (.int .i64), .own 0 0]]]⟩⟩)], run := fun p k => (put_l1 N self N p.1.1 p.1.2.1 p.1.2.2.1 p.1.2.2.2.1.1 p.1.2.2.2.2.2.1 p.1.2.2.2.2.2.2.1 p.2.1.1.2.1 p.2.1.1.2.2.1.1 p.2.1.1.2.2.2.1).bind fun e => match e with | .inl x => k (.inl ((x.1, ()), ((((), (x.2.1, (x.2.2.1, ()), x.2.2.2, (), ())), ()), ()))) | .inr x => k (.inr (.inl ((), ((((), (x.1, (x.2.1, ()), x.2.2, (), ())), ()), ())))) }
theorem put_l1_eq (N : Nat) (self : Li → Int → (Li) → Dk → Int → (Li) → Dk → Int → Option ((Li × Dk × Int) ⊕ (Li × Li × Dk × Int))) (n_ : Nat) (l : Li) (left : Int) (u : Li) (u2 : Dk) (i : Int) (k : Int) (g : Li) (g2 : Dk) (g3 : Int) : ev (Z := (Li × Li × Dk × Int) ⊕ (Li × Dk × Int)) Try.prog (put_sp N self) put_B [] [put_l1_h (put_l1 N self n_), put_l1_e0, put_l1_e1, put_j1_k N self (put_l1 N self n_), put_j2_k N self (put_l1 N self n_)] none 400 true put_l1_at (stL put_l1_st ((l, left, u, (u2, ()), (), i, k, ()), ((((), (g, (g2, ()), g3, (), ())), ()), ()))) (stH put_l1_st ((l, left, u, (u2, ()), (), i, k, ()), ((((), (g, (g2, ()), g3, (), ())), ()), ()))) = put_l1 N self (n_ + 1) l left u u2 i k g g2 g3 := by kernel_rfl
theorem put_l1_ok (N : Nat) (self : Li → Int → (Li) → Dk → Int → (Li) → Dk → Int → Option ((Li × Dk × Int) ⊕ (Li × Li × Dk × Int))) (hself : SpecOK Try.prog (put_self self)) {top : Bool} : LoopOK Try.prog put_B.c put_B.n put_B.m0 top (put_l1_L N self) := loop_of_ev (Z := (Li × Li × Dk × Int) ⊕ (Li × Dk × Int)) (N := N) (fun m p => put_l1 N self m p.1.1 p.1.2.1 p.1.2.2.1 p.1.2.2.2.1.1 p.1.2.2.2.2.2.1 p.1.2.2.2.2.2.2.1 p.2.1.1.2.1 p.2.1.1.2.2.1.1 p.2.1.1.2.2.2.1) (fun e => match e with | .inl x => .inl ((x.1, ()), ((((), (x.2.1, (x.2.2.1, ()), x.2.2.2, (), ())), ()), ())) | .inr x => .inr (.inl ((), ((((), (x.1, (x.2.1, ()), x.2.2, (), ())), ()), ())))) (fun _ p k => bind_congr_ (put_l1 N self N p.1.1 p.1.2.1 p.1.2.2.1 p.1.2.2.2.1.1 p.1.2.2.2.2.2.1 p.1.2.2.2.2.2.2.1 p.2.1.1.2.1 p.2.1.1.2.2.1.1 p.2.1.1.2.2.2.1) _ _ (fun e => by rcases e with x | x <;> rfl)) (fun _ => rfl) (fun m z E Xc hE hX hrec hx => leaf_of_ev (B := put_B) (loops := []) (leaves := [put_l1_h (put_l1 N self m), put_l1_e0, put_l1_e1, put_j1_k N self (put_l1 N self m), put_j2_k N self (put_l1 N self m)]) (put_all N self hself) mixed trivial hE hX ⟨hrec, (fun p hp => by obtain rfl := Option.some.inj hp; exact hx), (fun p hp => by obtain rfl := Option.some.inj hp; exact hx), put_j1_lf N self hself _ hE hX hrec (fun p hp => by obtain rfl := Option.some.inj hp; exact hx) (fun p hp => by obtain rfl := Option.some.inj hp; exact hx), put_j2_lf N self hself _ hE hX hrec (fun p hp => by obtain rfl := Option.some.inj hp; exact hx) (fun p hp => by obtain rfl := Option.some.inj hp; exact hx), trivial⟩ RetOK.no (fun p => put_l1_eq N self m p.1.1 p.1.2.1 p.1.2.2.1 p.1.2.2.2.1.1 p.1.2.2.2.2.2.1 p.1.2.2.2.2.2.2.1 p.2.1.1.2.1 p.2.1.1.2.2.1.1 p.2.1.1.2.2.2.1))
abbrev put_st : Sta := ⟨[0, 1, 2, 3, 4, 5], ⟨[shL, shI, .fe (.sl (.int .i64)), .fz [shD], .fe (.int .i64), .own 0 0], [.segs [.fn 117 [] [.fe (.sl (.int .i64)), .fz [shD], .fe (.int .i64), .own 0 0]]]⟩⟩
theorem put_eq (N : Nat) (self : Li → Int → (Li) → Dk → Int → (Li) → Dk → Int → Option ((Li × Dk × Int) ⊕ (Li × Li × Dk × Int))) (l : Li) (left : Int) (u : Li) (u2 : Dk) (u3 : Int) (g : Li) (g2 : Dk) (g3 : Int) : ev (Z := (Li × Dk × Int) ⊕ (Li × Li × Dk × Int)) Try.prog (put_sp N self) put_B [put_l1_L N self] [] (some put_rt) 400 false [.c [0], .c [1]] (stL put_st ((l, left, u, (u2, ()), u3, (), ()), ((((), (g, (g2, ()), g3, (), ())), ()), ()))) (stH put_st ((l, left, u, (u2, ()), u3, (), ()), ((((), (g, (g2, ()), g3, (), ())), ()), ()))) = put_S N self l left u u2 u3 g g2 g3 := by kernel_rfl
theorem put_self_ok (N : Nat) (self : Li → Int → (Li) → Dk → Int → (Li) → Dk → Int → Option ((Li × Dk × Int) ⊕ (Li × Li × Dk × Int))) (hself : SpecOK Try.prog (put_self self)) : SpecOK Try.prog (put_self (put_S N self)) := fn_sound (B := put_B) (loops := [put_l1_L N self]) (leaves := []) (fun p => put_S N self p.1.1 p.1.2.1 p.1.2.2.1 p.1.2.2.2.1.1 p.1.2.2.2.2.1 p.2.1.1.2.1 p.2.1.1.2.2.1.1 p.2.1.1.2.2.2.1) (fun r => match r with | .inl r => (.inl (((), ()), ((((), (r.1, (r.2.1, ()), r.2.2, (), ())), ()), ()))) | .inr r => (.inr ((r.1, ()), ((((), (r.2.1, (r.2.2.1, ()), r.2.2.2, (), ())), ()), ())))) put_rt (fun _ p k => bind_congr_ (put_S N self p.1.1 p.1.2.1 p.1.2.2.1 p.1.2.2.2.1.1 p.1.2.2.2.2.1 p.2.1.1.2.1 p.2.1.1.2.2.1.1 p.2.1.1.2.2.2.1) _ _ (fun e => by rcases e with x | x <;> rfl)) (fun r z h => by rcases r with x | x <;> (cases h; rfl)) Try.func117 (by kernel_rfl) (by kernel_rfl) (by kernel_rfl) rfl rfl (by kernel_rfl) (fun args w => Sem.pv_run _ _ _ (by kernel_rfl) w) (put_all N self hself) mixed ⟨put_l1_ok N self hself, trivial⟩ (fun z E Xc hE hX hret => trivial) (fun p => put_eq N self p.1.1 p.1.2.1 p.1.2.2.1 p.1.2.2.2.1.1 p.1.2.2.2.2.1 p.2.1.1.2.1 p.2.1.1.2.2.1.1 p.2.1.1.2.2.2.1)
def put_R (N : Nat) : Nat → Li → Int → (Li) → Dk → Int → (Li) → Dk → Int → Option ((Li × Dk × Int) ⊕ (Li × Li × Dk × Int))
  | 0 => fun _ _ _ _ _ _ _ _ => none
  | n + 1 => put_S N (put_R N n)
theorem put_R_ok (N : Nat) : ∀ n, SpecOK Try.prog (put_self (put_R N n))
  | 0 => SpecOK.none (fun _ _ _ => rfl) (fun args w => Sem.pv_run _ _ _ (by kernel_rfl) w)
  | n + 1 => put_self_ok N (put_R N n) (put_R_ok N n)
noncomputable abbrev sp_put (N : Nat) : Spec := put_self (put_R N N)
theorem sp_put_ok (N : Nat) : SpecOK Try.prog (sp_put N) := put_R_ok N N

def put0_j1 (N : Nat) (rec : Int → (Li) → Dk → Int → Int → (Li) → Dk → Int → Option ((Li × Li × Dk × Int) ⊕ (Li × Dk × Int))) (left : Int) (u : Li) (u2 : Dk) (i : Int) (k : Int) (g : Li) (g2 : Dk) (g3 : Int) : Option ((Li × Li × Dk × Int) ⊕ (Li × Dk × Int)) :=
  chk (k + 1) <|
  rec left u u2 i (k + 1) g g2 g3
def put0_j2 (N : Nat) (rec : Int → (Li) → Dk → Int → Int → (Li) → Dk → Int → Option ((Li × Li × Dk × Int) ⊕ (Li × Dk × Int))) (left : Int) (u : Li) (u2 : Dk) (i : Int) (k : Int) (now : Int) (g : Li) (g2 : Dk) (g3 : Int) : Option ((Li × Li × Dk × Int) ⊕ (Li × Dk × Int)) :=
  (clonen_S N).bind fun _ =>
  ((put_R N N [k] now g g2 g3 g g2 g3).bind fun e => match e with
  | .inl (x_6, y_7, y_8) =>
    (put0_j1 N (rec) left u u2 i k x_6 y_7 y_8)
  | .inr (x_9, y_10, y_11, y_12) =>
    (grd (!x_9.isEmpty) <|
    some (.inl (x_9, y_10, y_11, y_12))))
def put0_l1 (N : Nat) : Nat → Int → (Li) → Dk → Int → Int → (Li) → Dk → Int → Option ((Li × Li × Dk × Int) ⊕ (Li × Dk × Int))
  | 0, _, _, _, _, _, _, _, _ => none
  | n_ + 1, left, u, u2, i, k, g, g2, g3 =>
    br (decide (k < (u2.2.2.2.1.length : Int)))
      (br (!decide (k = -1))
        ((containsi_S N [] k).bind fun x_2 =>
        br x_2
          (put0_j1 N (put0_l1 N n_) left u u2 i k g g2 g3)
          ((can_S N u2 i k).bind fun x_3 =>
          br (!x_3)
            (put0_j1 N (put0_l1 N n_) left u u2 i k g g2 g3)
            (idx u i fun x_4 =>
            br (!decide (k = x_4))
              (br (decide (left = 0))
                (put0_j1 N (put0_l1 N n_) left u u2 i k g g2 g3)
                (idx u i fun x_5 =>
                br (!decide (k = x_5))
                  (chk (left - 1) <|
                  put0_j2 N (put0_l1 N n_) left u u2 i k (left - 1) g g2 g3)
                  (put0_j2 N (put0_l1 N n_) left u u2 i k left g g2 g3)))
              (idx u i fun x_13 =>
              br (!decide (k = x_13))
                (chk (left - 1) <|
                put0_j2 N (put0_l1 N n_) left u u2 i k (left - 1) g g2 g3)
                (put0_j2 N (put0_l1 N n_) left u u2 i k left g g2 g3)))))
        (idx u i fun x_14 =>
        br (!decide (k = x_14))
          (br (decide (left = 0))
            (put0_j1 N (put0_l1 N n_) left u u2 i k g g2 g3)
            (idx u i fun x_15 =>
            br (!decide (k = x_15))
              (chk (left - 1) <|
              put0_j2 N (put0_l1 N n_) left u u2 i k (left - 1) g g2 g3)
              (put0_j2 N (put0_l1 N n_) left u u2 i k left g g2 g3)))
          (idx u i fun x_16 =>
          br (!decide (k = x_16))
            (chk (left - 1) <|
            put0_j2 N (put0_l1 N n_) left u u2 i k (left - 1) g g2 g3)
            (put0_j2 N (put0_l1 N n_) left u u2 i k left g g2 g3))))
      (some (.inr (g, g2, g3)))
def put0_S (N : Nat) (left : Int) (u : Li) (u2 : Dk) (u3 : Int) (g : Li) (g2 : Dk) (g3 : Int) : Option ((Li × Dk × Int) ⊕ (Li × Li × Dk × Int)) :=
  br (decide (0 = (u.length : Int)))
    ((dworth_S N u2 []).bind fun x_1 =>
    br (decide (u3 < x_1))
      (some (.inl (g, g2, g3)))
      (some (.inl (g, g2, g3))))
    ((put0_l1 N N left u u2 0 (-1) g g2 g3).bind fun e => match e with
    | .inl (out_17, g_18, g2_19, g3_20) =>
      some (.inr (out_17, g_18, g2_19, g3_20))
    | .inr (g_21, g2_22, g3_23) =>
      some (.inl (g_21, g2_22, g3_23)))
noncomputable def put0_sp (N : Nat) : List Spec := [sp_clonen N, sp_put N, sp_can N, sp_containsi N, sp_dworth N]
theorem put0_all (N : Nat) : AllP (SpecOK Try.prog) (put0_sp N) := ⟨sp_clonen_ok N, sp_put_ok N, sp_can_ok N, sp_containsi_ok N, sp_dworth_ok N, trivial⟩
noncomputable def put0_c : Code := (Try.f117.body).getD .skip
noncomputable abbrev put0_B : Body := { c := put0_c, n := 81, res := [.tmp 8], outs := [⟨[.nils], [.segs [.fn 117 [] [.fe (.sl (.int .i64)), .fz [shD], .fe (.int .i64), .own 0 0]]]⟩, ⟨[shL], [.segs [.fn 117 [] [.fe (.sl (.int .i64)), .fz [shD], .fe (.int .i64), .own 0 0]]]⟩], m0 := 1 }
abbrev put0_rt : altD put0_B.outs → Option ((Li × Dk × Int) ⊕ (Li × Li × Dk × Int)) := fun r => match r with | .inl r => some (.inl (r.2.1.1.2.1, r.2.1.1.2.2.1.1, r.2.1.1.2.2.2.1)) | .inr r => some (.inr (r.1.1, r.2.1.1.2.1, r.2.1.1.2.2.1.1, r.2.1.1.2.2.2.1))
abbrev put0_l1_at : List PI := [.c [1, 1, 1, 0, 1, 0, 0, 0, 0], .c [1, 1, 1, 0, 1, 0, 0, 0, 1], .c [1, 1, 1, 0, 1, 0, 0, 1], .l [1, 1, 1, 0, 1, 0, 0], .b 0, .c [1, 1, 1, 1]]
abbrev put0_l1_st : Sta := ⟨[0, 1, 2, 3, 5, 9, 10], ⟨[.nils, shI, .fe (.sl (.int .i64)), .fz [shD], .own 0 0, shI, shI], [.segs [.fn 117 [] [.fe (.sl (.int .i64)), .fz [shD], .fe (.int .i64), .own 0 0]]]⟩⟩
abbrev put0_l1_h (rec : Int → (Li) → Dk → Int → Int → (Li) → Dk → Int → Option ((Li × Li × Dk × Int) ⊕ (Li × Dk × Int))) : Leaf ((Li × Li × Dk × Int) ⊕ (Li × Dk × Int)) := ⟨put0_l1_at, put0_l1_st, fun p => rec p.1.2.1 p.1.2.2.1 p.1.2.2.2.1.1 p.1.2.2.2.2.2.1 p.1.2.2.2.2.2.2.1 p.2.1.1.2.1 p.2.1.1.2.2.1.1 p.2.1.1.2.2.2.1⟩
abbrev put0_l1_e0 : Leaf ((Li × Li × Dk × Int) ⊕ (Li × Dk × Int)) := ⟨[.c [1, 1, 1, 0, 1, 0, 0, 1, 0, 0, 1, 1, 1, 1, 1, 0, 0], .c [1, 1, 1, 0, 1, 0, 0, 1, 0, 0, 1, 1, 1, 1, 1, 0, 1], .b 1, .c [1, 1, 1, 0, 1, 0, 0, 1, 1], .l [1, 1, 1, 0, 1, 0, 0], .b 0, .c [1, 1, 1, 1]], ⟨[12], ⟨[shL], [.segs [.fn 117 [] [.fe (.sl (.int .i64)), .fz [shD], .fe (.int .i64), .own 0 0]]]⟩⟩, fun p => some (.inl (p.1.1, p.2.1.1.2.1, p.2.1.1.2.2.1.1, p.2.1.1.2.2.2.1))⟩
abbrev put0_l1_e1 : Leaf ((Li × Li × Dk × Int) ⊕ (Li × Dk × Int)) := ⟨[.c [1, 1, 1, 1, 0], .c [1, 1, 1, 1, 1]], ⟨[], ⟨[], [.segs [.fn 117 [] [.fe (.sl (.int .i64)), .fz [shD], .fe (.int .i64), .own 0 0]]]⟩⟩, fun p => some (.inr (p.2.1.1.2.1, p.2.1.1.2.2.1.1, p.2.1.1.2.2.2.1))⟩
abbrev put0_j1_at : List PI := [.c [1, 1, 1, 0, 1, 0, 0, 1, 1], .l [1, 1, 1, 0, 1, 0, 0], .b 0, .c [1, 1, 1, 1]]
abbrev put0_j1_st : Sta := ⟨[0, 1, 2, 3, 5, 9, 10], ⟨[.nils, shI, .fe (.sl (.int .i64)), .fz [shD], .own 0 0, shI, shI], [.segs [.fn 117 [] [.fe (.sl (.int .i64)), .fz [shD], .fe (.int .i64), .own 0 0]]]⟩⟩
abbrev put0_j1_k (N : Nat) (rec : Int → (Li) → Dk → Int → Int → (Li) → Dk → Int → Option ((Li × Li × Dk × Int) ⊕ (Li × Dk × Int))) : Leaf ((Li × Li × Dk × Int) ⊕ (Li × Dk × Int)) := ⟨put0_j1_at, put0_j1_st, fun p => put0_j1 N rec p.1.2.1 p.1.2.2.1 p.1.2.2.2.1.1 p.1.2.2.2.2.2.1 p.1.2.2.2.2.2.2.1 p.2.1.1.2.1 p.2.1.1.2.2.1.1 p.2.1.1.2.2.2.1⟩
theorem put0_j1_eq (N : Nat) (rec : Int → (Li) → Dk → Int → Int → (Li) → Dk → Int → Option ((Li × Li × Dk × Int) ⊕ (Li × Dk × Int))) (left : Int) (u : Li) (u2 : Dk) (i : Int) (k : Int) (g : Li) (g2 : Dk) (g3 : Int) : ev (Z := (Li × Li × Dk × Int) ⊕ (Li × Dk × Int)) Try.prog (put0_sp N) put0_B [] [put0_l1_h rec, put0_l1_e0, put0_l1_e1] none 400 true put0_j1_at (stL put0_j1_st (((), left, u, (u2, ()), (), i, k, ()), ((((), (g, (g2, ()), g3, (), ())), ()), ()))) (stH put0_j1_st (((), left, u, (u2, ()), (), i, k, ()), ((((), (g, (g2, ()), g3, (), ())), ()), ()))) = put0_j1 N rec left u u2 i k g g2 g3 := by kernel_rfl
theorem put0_j1_lf (N : Nat) (rec : Int → (Li) → Dk → Int → Int → (Li) → Dk → Int → Option ((Li × Li × Dk × Int) ⊕ (Li × Dk × Int))) {z : (Li × Li × Dk × Int) ⊕ (Li × Dk × Int)} {top : Bool} {E : EE} {Xc : Ctx} (hE : EOK put0_B.m0 E) (hX : CxOK top Xc) (hrec : LeafOK Try.prog put0_B.c put0_B.n put0_B.m0 E Xc z (put0_l1_h rec)) (h0 : LeafOK Try.prog put0_B.c put0_B.n put0_B.m0 E Xc z put0_l1_e0) (h1 : LeafOK Try.prog put0_B.c put0_B.n put0_B.m0 E Xc z put0_l1_e1) : LeafOK Try.prog put0_B.c put0_B.n put0_B.m0 E Xc z (put0_j1_k N rec) := leaf_of_ev (B := put0_B) (loops := []) (leaves := [put0_l1_h rec, put0_l1_e0, put0_l1_e1]) (put0_all N) mixed trivial hE hX ⟨hrec, h0, h1, trivial⟩ RetOK.no (fun p => put0_j1_eq N rec p.1.2.1 p.1.2.2.1 p.1.2.2.2.1.1 p.1.2.2.2.2.2.1 p.1.2.2.2.2.2.2.1 p.2.1.1.2.1 p.2.1.1.2.2.1.1 p.2.1.1.2.2.2.1)
abbrev put0_j2_at : List PI := [.c [1, 1, 1, 0, 1, 0, 0, 1, 0, 0, 1, 1, 1, 0], .c [1, 1, 1, 0, 1, 0, 0, 1, 0, 0, 1, 1, 1, 1], .b 1, .c [1, 1, 1, 0, 1, 0, 0, 1, 1], .l [1, 1, 1, 0, 1, 0, 0], .b 0, .c [1, 1, 1, 1]]
abbrev put0_j2_st : Sta := ⟨[0, 1, 2, 3, 5, 9, 10, 11], ⟨[.nils, shI, .fe (.sl (.int .i64)), .fz [shD], .own 0 0, shI, shI, shI], [.segs [.fn 117 [] [.fe (.sl (.int .i64)), .fz [shD], .fe (.int .i64), .own 0 0]]]⟩⟩
abbrev put0_j2_k (N : Nat) (rec : Int → (Li) → Dk → Int → Int → (Li) → Dk → Int → Option ((Li × Li × Dk × Int) ⊕ (Li × Dk × Int))) : Leaf ((Li × Li × Dk × Int) ⊕ (Li × Dk × Int)) := ⟨put0_j2_at, put0_j2_st, fun p => put0_j2 N rec p.1.2.1 p.1.2.2.1 p.1.2.2.2.1.1 p.1.2.2.2.2.2.1 p.1.2.2.2.2.2.2.1 p.1.2.2.2.2.2.2.2.1 p.2.1.1.2.1 p.2.1.1.2.2.1.1 p.2.1.1.2.2.2.1⟩
theorem put0_j2_eq (N : Nat) (rec : Int → (Li) → Dk → Int → Int → (Li) → Dk → Int → Option ((Li × Li × Dk × Int) ⊕ (Li × Dk × Int))) (left : Int) (u : Li) (u2 : Dk) (i : Int) (k : Int) (now : Int) (g : Li) (g2 : Dk) (g3 : Int) : ev (Z := (Li × Li × Dk × Int) ⊕ (Li × Dk × Int)) Try.prog (put0_sp N) put0_B [] [put0_l1_h rec, put0_l1_e0, put0_l1_e1, put0_j1_k N rec] none 400 true put0_j2_at (stL put0_j2_st (((), left, u, (u2, ()), (), i, k, now, ()), ((((), (g, (g2, ()), g3, (), ())), ()), ()))) (stH put0_j2_st (((), left, u, (u2, ()), (), i, k, now, ()), ((((), (g, (g2, ()), g3, (), ())), ()), ()))) = put0_j2 N rec left u u2 i k now g g2 g3 := by kernel_rfl
theorem put0_j2_lf (N : Nat) (rec : Int → (Li) → Dk → Int → Int → (Li) → Dk → Int → Option ((Li × Li × Dk × Int) ⊕ (Li × Dk × Int))) {z : (Li × Li × Dk × Int) ⊕ (Li × Dk × Int)} {top : Bool} {E : EE} {Xc : Ctx} (hE : EOK put0_B.m0 E) (hX : CxOK top Xc) (hrec : LeafOK Try.prog put0_B.c put0_B.n put0_B.m0 E Xc z (put0_l1_h rec)) (h0 : LeafOK Try.prog put0_B.c put0_B.n put0_B.m0 E Xc z put0_l1_e0) (h1 : LeafOK Try.prog put0_B.c put0_B.n put0_B.m0 E Xc z put0_l1_e1) : LeafOK Try.prog put0_B.c put0_B.n put0_B.m0 E Xc z (put0_j2_k N rec) := leaf_of_ev (B := put0_B) (loops := []) (leaves := [put0_l1_h rec, put0_l1_e0, put0_l1_e1, put0_j1_k N rec]) (put0_all N) mixed trivial hE hX ⟨hrec, h0, h1, put0_j1_lf N rec hE hX hrec h0 h1, trivial⟩ RetOK.no (fun p => put0_j2_eq N rec p.1.2.1 p.1.2.2.1 p.1.2.2.2.1.1 p.1.2.2.2.2.2.1 p.1.2.2.2.2.2.2.1 p.1.2.2.2.2.2.2.2.1 p.2.1.1.2.1 p.2.1.1.2.2.1.1 p.2.1.1.2.2.2.1)
noncomputable def put0_l1_L (N : Nat) : LoopS := { at_ := put0_l1_at, sta := put0_l1_st, exits := [([.c [1, 1, 1, 0, 1, 0, 0, 1, 0, 0, 1, 1, 1, 1, 1, 0, 0], .c [1, 1, 1, 0, 1, 0, 0, 1, 0, 0, 1, 1, 1, 1, 1, 0, 1], .b 1, .c [1, 1, 1, 0, 1, 0, 0, 1, 1], .l [1, 1, 1, 0, 1, 0, 0], .b 0, .c [1, 1, 1, 1]], ⟨[12], ⟨[shL], [.segs [.fn 117 [] [.fe (.sl (.int .i64)), .fz [shD], .fe (.int .i64), .own 0 0]]]⟩⟩), ([.c [1, 1, 1, 1, 0], .c [1, 1, 1, 1, 1]], ⟨[], ⟨[], [.segs [.fn 117 [] [.fe (.sl (.int .i64)), .fz [shD], .fe (.int .i64), .own 0 0]]]⟩⟩)], run := fun p k => (put0_l1 N N p.1.2.1 p.1.2.2.1 p.1.2.2.2.1.1 p.1.2.2.2.2.2.1 p.1.2.2.2.2.2.2.1 p.2.1.1.2.1 p.2.1.1.2.2.1.1 p.2.1.1.2.2.2.1).bind fun e => match e with | .inl x => k (.inl ((x.1, ()), ((((), (x.2.1, (x.2.2.1, ()), x.2.2.2, (), ())), ()), ()))) | .inr x => k (.inr (.inl ((), ((((), (x.1, (x.2.1, ()), x.2.2, (), ())), ()), ())))) }
theorem put0_l1_eq (N n_ : Nat) (left : Int) (u : Li) (u2 : Dk) (i : Int) (k : Int) (g : Li) (g2 : Dk) (g3 : Int) : ev (Z := (Li × Li × Dk × Int) ⊕ (Li × Dk × Int)) Try.prog (put0_sp N) put0_B [] [put0_l1_h (put0_l1 N n_), put0_l1_e0, put0_l1_e1, put0_j1_k N (put0_l1 N n_), put0_j2_k N (put0_l1 N n_)] none 400 true put0_l1_at (stL put0_l1_st (((), left, u, (u2, ()), (), i, k, ()), ((((), (g, (g2, ()), g3, (), ())), ()), ()))) (stH put0_l1_st (((), left, u, (u2, ()), (), i, k, ()), ((((), (g, (g2, ()), g3, (), ())), ()), ()))) = put0_l1 N (n_ + 1) left u u2 i k g g2 g3 := by kernel_rfl
theorem put0_l1_ok (N : Nat) {top : Bool} : LoopOK Try.prog put0_B.c put0_B.n put0_B.m0 top (put0_l1_L N) := loop_of_ev (Z := (Li × Li × Dk × Int) ⊕ (Li × Dk × Int)) (N := N) (fun m p => put0_l1 N m p.1.2.1 p.1.2.2.1 p.1.2.2.2.1.1 p.1.2.2.2.2.2.1 p.1.2.2.2.2.2.2.1 p.2.1.1.2.1 p.2.1.1.2.2.1.1 p.2.1.1.2.2.2.1) (fun e => match e with | .inl x => .inl ((x.1, ()), ((((), (x.2.1, (x.2.2.1, ()), x.2.2.2, (), ())), ()), ())) | .inr x => .inr (.inl ((), ((((), (x.1, (x.2.1, ()), x.2.2, (), ())), ()), ())))) (fun _ p k => bind_congr_ (put0_l1 N N p.1.2.1 p.1.2.2.1 p.1.2.2.2.1.1 p.1.2.2.2.2.2.1 p.1.2.2.2.2.2.2.1 p.2.1.1.2.1 p.2.1.1.2.2.1.1 p.2.1.1.2.2.2.1) _ _ (fun e => by rcases e with x | x <;> rfl)) (fun _ => rfl) (fun m z E Xc hE hX hrec hx => leaf_of_ev (B := put0_B) (loops := []) (leaves := [put0_l1_h (put0_l1 N m), put0_l1_e0, put0_l1_e1, put0_j1_k N (put0_l1 N m), put0_j2_k N (put0_l1 N m)]) (put0_all N) mixed trivial hE hX ⟨hrec, (fun p hp => by obtain rfl := Option.some.inj hp; exact hx), (fun p hp => by obtain rfl := Option.some.inj hp; exact hx), put0_j1_lf N _ hE hX hrec (fun p hp => by obtain rfl := Option.some.inj hp; exact hx) (fun p hp => by obtain rfl := Option.some.inj hp; exact hx), put0_j2_lf N _ hE hX hrec (fun p hp => by obtain rfl := Option.some.inj hp; exact hx) (fun p hp => by obtain rfl := Option.some.inj hp; exact hx), trivial⟩ RetOK.no (fun p => put0_l1_eq N m p.1.2.1 p.1.2.2.1 p.1.2.2.2.1.1 p.1.2.2.2.2.2.1 p.1.2.2.2.2.2.2.1 p.2.1.1.2.1 p.2.1.1.2.2.1.1 p.2.1.1.2.2.2.1))
abbrev put0_st : Sta := ⟨[0, 1, 2, 3, 4, 5], ⟨[.nils, shI, .fe (.sl (.int .i64)), .fz [shD], .fe (.int .i64), .own 0 0], [.segs [.fn 117 [] [.fe (.sl (.int .i64)), .fz [shD], .fe (.int .i64), .own 0 0]]]⟩⟩
theorem put0_eq (N : Nat) (left : Int) (u : Li) (u2 : Dk) (u3 : Int) (g : Li) (g2 : Dk) (g3 : Int) : ev (Z := (Li × Dk × Int) ⊕ (Li × Li × Dk × Int)) Try.prog (put0_sp N) put0_B [put0_l1_L N] [] (some put0_rt) 400 false [.c [0], .c [1]] (stL put0_st (((), left, u, (u2, ()), u3, (), ()), ((((), (g, (g2, ()), g3, (), ())), ()), ()))) (stH put0_st (((), left, u, (u2, ()), u3, (), ()), ((((), (g, (g2, ()), g3, (), ())), ()), ()))) = put0_S N left u u2 u3 g g2 g3 := by kernel_rfl
noncomputable def sp_put0 (N : Nat) : Spec := { f := 117, ins := ⟨[.nils, shI, .fe (.sl (.int .i64)), .fz [shD], .fe (.int .i64), .own 0 0], [.segs [.fn 117 [] [.fe (.sl (.int .i64)), .fz [shD], .fe (.int .i64), .own 0 0]]]⟩, outs := [⟨[.nils], [.segs [.fn 117 [] [.fe (.sl (.int .i64)), .fz [shD], .fe (.int .i64), .own 0 0]]]⟩, ⟨[shL], [.segs [.fn 117 [] [.fe (.sl (.int .i64)), .fz [shD], .fe (.int .i64), .own 0 0]]]⟩], run := fun p k => (put0_S N p.1.2.1 p.1.2.2.1 p.1.2.2.2.1.1 p.1.2.2.2.2.1 p.2.1.1.2.1 p.2.1.1.2.2.1.1 p.2.1.1.2.2.2.1).bind fun r => match r with | .inl r => k (.inl (((), ()), ((((), (r.1, (r.2.1, ()), r.2.2, (), ())), ()), ()))) | .inr r => k (.inr ((r.1, ()), ((((), (r.2.1, (r.2.2.1, ()), r.2.2.2, (), ())), ()), ()))) }
theorem sp_put0_ok (N : Nat) : SpecOK Try.prog (sp_put0 N) := fn_sound (B := put0_B) (loops := [put0_l1_L N]) (leaves := []) (fun p => put0_S N p.1.2.1 p.1.2.2.1 p.1.2.2.2.1.1 p.1.2.2.2.2.1 p.2.1.1.2.1 p.2.1.1.2.2.1.1 p.2.1.1.2.2.2.1) (fun r => match r with | .inl r => (.inl (((), ()), ((((), (r.1, (r.2.1, ()), r.2.2, (), ())), ()), ()))) | .inr r => (.inr ((r.1, ()), ((((), (r.2.1, (r.2.2.1, ()), r.2.2.2, (), ())), ()), ())))) put0_rt (fun _ p k => bind_congr_ (put0_S N p.1.2.1 p.1.2.2.1 p.1.2.2.2.1.1 p.1.2.2.2.2.1 p.2.1.1.2.1 p.2.1.1.2.2.1.1 p.2.1.1.2.2.2.1) _ _ (fun e => by rcases e with x | x <;> rfl)) (fun r z h => by rcases r with x | x <;> (cases h; rfl)) Try.func117 (by kernel_rfl) (by kernel_rfl) (by kernel_rfl) rfl rfl (by kernel_rfl) (fun args w => Sem.pv_run _ _ _ (by kernel_rfl) w) (put0_all N) mixed ⟨put0_l1_ok N, trivial⟩ (fun z E Xc hE hX hret => trivial) (fun p => put0_eq N p.1.2.1 p.1.2.2.1 p.1.2.2.2.1.1 p.1.2.2.2.2.1 p.2.1.1.2.1 p.2.1.1.2.2.1.1 p.2.1.1.2.2.2.1)

def changed_S (N : Nat) (d : Dk) (joins : Li) (more : Int) : Option ((Unit) ⊕ Li) :=
  (dworth_S N d joins).bind fun x_1 =>
  ((put0_S N more joins d x_1 joins d x_1).bind fun e => match e with
  | .inl (x_2, y_3, y_4) =>
    (some (.inl ()))
  | .inr (x_5, y_6, y_7, y_8) =>
    (some (.inr x_5)))
noncomputable def changed_sp (N : Nat) : List Spec := [sp_put0 N, sp_dworth N]
theorem changed_all (N : Nat) : AllP (SpecOK Try.prog) (changed_sp N) := ⟨sp_put0_ok N, sp_dworth_ok N, trivial⟩
noncomputable def changed_c : Code := (Try.f78.body).getD .skip
noncomputable abbrev changed_B : Body := { c := changed_c, n := 16, res := [.tmp 6], outs := [⟨[.nils], []⟩, ⟨[shL], []⟩], m0 := 0 }
abbrev changed_rt : altD changed_B.outs → Option ((Unit) ⊕ Li) := fun r => match r with | .inl r => some (.inl ()) | .inr r => some (.inr r.1.1)
abbrev changed_st : Sta := ⟨[0, 1, 2], ⟨[shD, shL, shI], []⟩⟩
theorem changed_eq (N : Nat) (d : Dk) (joins : Li) (more : Int) : ev (Z := (Unit) ⊕ Li) Try.prog (changed_sp N) changed_B [] [] (some changed_rt) 400 false [.c [0], .c [1]] (stL changed_st ((d, joins, more, ()), ())) (stH changed_st ((d, joins, more, ()), ())) = changed_S N d joins more := by kernel_rfl
noncomputable def sp_changed (N : Nat) : Spec := { f := 78, ins := ⟨[shD, shL, shI], []⟩, outs := [⟨[.nils], []⟩, ⟨[shL], []⟩], run := fun p k => (changed_S N p.1.1 p.1.2.1 p.1.2.2.1).bind fun r => match r with | .inl r => k (.inl (((), ()), ())) | .inr r => k (.inr ((r, ()), ())) }
theorem sp_changed_ok (N : Nat) : SpecOK Try.prog (sp_changed N) := fn_sound (B := changed_B) (loops := []) (leaves := []) (fun p => changed_S N p.1.1 p.1.2.1 p.1.2.2.1) (fun r => match r with | .inl r => (.inl (((), ()), ())) | .inr r => (.inr ((r, ()), ()))) changed_rt (fun _ p k => bind_congr_ (changed_S N p.1.1 p.1.2.1 p.1.2.2.1) _ _ (fun e => by rcases e with x | x <;> rfl)) (fun r z h => by rcases r with x | x <;> (cases h; rfl)) Try.func78 (by kernel_rfl) (by kernel_rfl) (by kernel_rfl) rfl rfl (by kernel_rfl) (fun args w => Sem.pv_run _ _ _ (by kernel_rfl) w) (changed_all N) mixed trivial (fun z E Xc hE hX hret => trivial) (fun p => changed_eq N p.1.1 p.1.2.1 p.1.2.2.1)

def change_l1 (N : Nat) : Nat → Li → Dk → Int → Int → Option Li
  | 0, _, _, _, _ => none
  | n_ + 1, joins, x, u, u2 =>
    br (decide (u2 < u))
      (chk (u2 + 1) <|
      ((changed_S N x joins (u2 + 1)).bind fun e => match e with
      | .inl _ =>
        (chk (u2 + 1) <|
        change_l1 N n_ joins x u (u2 + 1))
      | .inr x_7 =>
        (grd (!x_7.isEmpty) <|
        some (x_7))))
      (some ([]))
def change_S (N : Nat) (d : Li) (d2 : Int) (d3 : Ll) (d4 : Ll) (d5 : Li) (joins : Li) : Option (Li × Int) :=
  ((joined_S N d d2 d3 d4 d5 joins).bind fun e => match e with
  | .inl (x_1, y_2) =>
    (br (!decide (y_2 = 0))
      (some ([], y_2))
      ((dworth_S N x_1 joins).bind fun x_3 =>
      (first_S N x_1 0).bind fun (x_4, y_5, y_6) =>
      br (decide (x_3 = y_5))
        (some ([], 6))
        ((change_l1 N N joins x_1 (joins.length : Int) 0).bind fun out_8 =>
        some (out_8, 0))))
  | .inr x_9 =>
    (br (!decide (x_9 = 0))
      (some ([], x_9))
      (none)))
noncomputable def change_sp (N : Nat) : List Spec := [sp_dworth N, sp_joined N, sp_first N, sp_changed N]
theorem change_all (N : Nat) : AllP (SpecOK Try.prog) (change_sp N) := ⟨sp_dworth_ok N, sp_joined_ok N, sp_first_ok N, sp_changed_ok N, trivial⟩
noncomputable def change_c : Code := (Try.f22.body).getD .skip
noncomputable abbrev change_B : Body := { c := change_c, n := 40, res := [.tmp 4, .tmp 5], outs := [⟨[shL, shI], []⟩], m0 := 0 }
abbrev change_rt : altD change_B.outs → Option (Li × Int) := fun r => some (r.1.1, r.1.2.1)
abbrev change_l1_at : List PI := [.c [1, 0, 1, 1, 1, 1, 1, 0, 1, 0, 0, 0], .c [1, 0, 1, 1, 1, 1, 1, 0, 1, 0, 0, 1], .l [1, 0, 1, 1, 1, 1, 1, 0, 1, 0, 0], .b 0, .c [1, 0, 1, 1, 1, 1, 1, 1], .s [1, 0]]
abbrev change_l1_st : Sta := ⟨[1, 6, 8, 27, 28], ⟨[shL, shD, .nils, shI, shI], []⟩⟩
abbrev change_l1_h (rec : Li → Dk → Int → Int → Option Li) : Leaf Li := ⟨change_l1_at, change_l1_st, fun p => rec p.1.1 p.1.2.1 p.1.2.2.2.1 p.1.2.2.2.2.1⟩
abbrev change_l1_e0 : Leaf Li := ⟨[.c [1, 0, 1, 1, 1, 1, 1, 1, 0], .c [1, 0, 1, 1, 1, 1, 1, 1, 1], .s [1, 0]], ⟨[8], ⟨[shL], []⟩⟩, fun p => some (p.1.1)⟩
noncomputable def change_l1_L (N : Nat) : LoopS := { at_ := change_l1_at, sta := change_l1_st, exits := [([.c [1, 0, 1, 1, 1, 1, 1, 1, 0], .c [1, 0, 1, 1, 1, 1, 1, 1, 1], .s [1, 0]], ⟨[8], ⟨[shL], []⟩⟩)], run := fun p k => (change_l1 N N p.1.1 p.1.2.1 p.1.2.2.2.1 p.1.2.2.2.2.1).bind fun e => k (.inl ((e, ()), ())) }
theorem change_l1_eq (N n_ : Nat) (joins : Li) (x : Dk) (u : Int) (u2 : Int) : ev (Z := Li) Try.prog (change_sp N) change_B [] [change_l1_h (change_l1 N n_), change_l1_e0] none 400 true change_l1_at (stL change_l1_st ((joins, x, (), u, u2, ()), ())) (stH change_l1_st ((joins, x, (), u, u2, ()), ())) = change_l1 N (n_ + 1) joins x u u2 := by kernel_rfl
theorem change_l1_ok (N : Nat) {top : Bool} : LoopOK Try.prog change_B.c change_B.n change_B.m0 top (change_l1_L N) := loop_of_ev (Z := Li) (N := N) (fun m p => change_l1 N m p.1.1 p.1.2.1 p.1.2.2.2.1 p.1.2.2.2.2.1) (fun e => .inl ((e, ()), ())) (fun _ _ _ => rfl) (fun _ => rfl) (fun m z E Xc hE hX hrec hx => leaf_of_ev (B := change_B) (loops := []) (leaves := [change_l1_h (change_l1 N m), change_l1_e0]) (change_all N) mixed trivial hE hX ⟨hrec, (fun p hp => by obtain rfl := Option.some.inj hp; exact hx), trivial⟩ RetOK.no (fun p => change_l1_eq N m p.1.1 p.1.2.1 p.1.2.2.2.1 p.1.2.2.2.2.1))
abbrev change_st : Sta := ⟨[0, 1], ⟨[shG, shL], []⟩⟩
theorem change_eq (N : Nat) (d : Li) (d2 : Int) (d3 : Ll) (d4 : Ll) (d5 : Li) (joins : Li) : ev (Z := Li × Int) Try.prog (change_sp N) change_B [change_l1_L N] [] (some change_rt) 400 false [.c [0], .c [1]] (stL change_st (((d, d2, d3, d4, d5, ()), joins, ()), ())) (stH change_st (((d, d2, d3, d4, d5, ()), joins, ()), ())) = change_S N d d2 d3 d4 d5 joins := by kernel_rfl
noncomputable def sp_change (N : Nat) : Spec := { f := 22, ins := ⟨[shG, shL], []⟩, outs := [⟨[shL, shI], []⟩], run := fun p k => (change_S N p.1.1.1 p.1.1.2.1 p.1.1.2.2.1 p.1.1.2.2.2.1 p.1.1.2.2.2.2.1 p.1.2.1).bind fun r => k ((r.1, r.2, ()), ()) }
theorem sp_change_ok (N : Nat) : SpecOK Try.prog (sp_change N) := fn_sound (B := change_B) (loops := [change_l1_L N]) (leaves := []) (fun p => change_S N p.1.1.1 p.1.1.2.1 p.1.1.2.2.1 p.1.1.2.2.2.1 p.1.1.2.2.2.2.1 p.1.2.1) (fun r => ((r.1, r.2, ()), ())) change_rt (fun _ _ _ => rfl) (fun r z h => by cases h; rfl) Try.func22 (by kernel_rfl) (by kernel_rfl) (by kernel_rfl) rfl rfl (by kernel_rfl) (fun args w => Sem.pv_run _ _ _ (by kernel_rfl) w) (change_all N) mixed ⟨change_l1_ok N, trivial⟩ (fun z E Xc hE hX hret => trivial) (fun p => change_eq N p.1.1.1 p.1.1.2.1 p.1.1.2.2.1 p.1.1.2.2.2.1 p.1.1.2.2.2.2.1 p.1.2.1)

def with__S (N : Nat) (d : Li) (d2 : Int) (d3 : Ll) (d4 : Ll) (d5 : Li) (found : Int) (trait : Int) (value : Int) : Option (Li × Int × Ll × Ll × Li × Int) :=
  ((opened_S N d d2 d3 d4 d5).bind fun e => match e with
  | .inl (x_1, y_2) =>
    (br (!decide (y_2 = 0))
      (some ([], 0, [], [], [], y_2))
      ((dfound_S N x_1 found).bind fun x_3 =>
      br (!x_3)
        (some ([], 0, [], [], [], 1))
        (chk ((d.length : Int) - 1) <|
        (in__S N trait 0 ((d.length : Int) - 1)).bind fun x_4 =>
        br (!x_4)
          (some ([], 0, [], [], [], 1))
          (idx d4 found fun x_5 =>
          idx x_5 trait fun x_6 =>
          br (!decide (x_6 = -1))
            (some ([], 0, [], [], [], 5))
            ((in__S N value 0 5).bind fun x_7 =>
            br (!x_7)
              (some ([], 0, [], [], [], 3))
              ((known_S N d d2 d3 d4 d5 found trait value).bind fun (x_8, y_9, y_10, y_11, y_12) =>
              some (x_8, y_9, y_10, y_11, y_12, 0)))))))
  | .inr x_13 =>
    (br (!decide (x_13 = 0))
      (some ([], 0, [], [], [], x_13))
      (none)))
noncomputable def with__sp (N : Nat) : List Spec := [sp_in_ N, sp_opened N, sp_dfound N, sp_known N]
theorem with__all (N : Nat) : AllP (SpecOK Try.prog) (with__sp N) := ⟨sp_in__ok N, sp_opened_ok N, sp_dfound_ok N, sp_known_ok N, trivial⟩
noncomputable def with__c : Code := (Try.f31.body).getD .skip
noncomputable abbrev with__B : Body := { c := with__c, n := 58, res := [.cell 8 26, .tmp 9], outs := [⟨[shG, shI], []⟩], m0 := 0 }
abbrev with__rt : altD with__B.outs → Option (Li × Int × Ll × Ll × Li × Int) := fun r => some (r.1.1.1, r.1.1.2.1, r.1.1.2.2.1, r.1.1.2.2.2.1, r.1.1.2.2.2.2.1, r.1.2.1)
abbrev with__st : Sta := ⟨[0, 1, 2, 3], ⟨[shG, shI, shI, shI], []⟩⟩
theorem with__eq (N : Nat) (d : Li) (d2 : Int) (d3 : Ll) (d4 : Ll) (d5 : Li) (found : Int) (trait : Int) (value : Int) : ev (Z := Li × Int × Ll × Ll × Li × Int) Try.prog (with__sp N) with__B [] [] (some with__rt) 400 false [.c [0], .c [1]] (stL with__st (((d, d2, d3, d4, d5, ()), found, trait, value, ()), ())) (stH with__st (((d, d2, d3, d4, d5, ()), found, trait, value, ()), ())) = with__S N d d2 d3 d4 d5 found trait value := by kernel_rfl
noncomputable def sp_with_ (N : Nat) : Spec := { f := 31, ins := ⟨[shG, shI, shI, shI], []⟩, outs := [⟨[shG, shI], []⟩], run := fun p k => (with__S N p.1.1.1 p.1.1.2.1 p.1.1.2.2.1 p.1.1.2.2.2.1 p.1.1.2.2.2.2.1 p.1.2.1 p.1.2.2.1 p.1.2.2.2.1).bind fun r => k (((r.1, r.2.1, r.2.2.1, r.2.2.2.1, r.2.2.2.2.1, ()), r.2.2.2.2.2, ()), ()) }
theorem sp_with__ok (N : Nat) : SpecOK Try.prog (sp_with_ N) := fn_sound (B := with__B) (loops := []) (leaves := []) (fun p => with__S N p.1.1.1 p.1.1.2.1 p.1.1.2.2.1 p.1.1.2.2.2.1 p.1.1.2.2.2.2.1 p.1.2.1 p.1.2.2.1 p.1.2.2.2.1) (fun r => (((r.1, r.2.1, r.2.2.1, r.2.2.2.1, r.2.2.2.2.1, ()), r.2.2.2.2.2, ()), ())) with__rt (fun _ _ _ => rfl) (fun r z h => by cases h; rfl) Try.func31 (by kernel_rfl) (by kernel_rfl) (by kernel_rfl) rfl rfl (by kernel_rfl) (fun args w => Sem.pv_run _ _ _ (by kernel_rfl) w) (with__all N) mixed trivial (fun z E Xc hE hX hret => trivial) (fun p => with__eq N p.1.1.1 p.1.1.2.1 p.1.1.2.2.1 p.1.1.2.2.2.1 p.1.1.2.2.2.2.1 p.1.2.1 p.1.2.2.1 p.1.2.2.2.1)

def ask_j1 (N : Nat) (rec : Int → Int → Int → Int → Ll → Int → Int → Li → Int → Int → Li → Int → Ll → Ll → Li → Option (Int × Int × Int × Ll × Int × Int × Li × Int × Ll × Ll × Li)) (found : Int) (trait : Int) (most : Int) (k : Int) (u : Ll) (u2 : Int) (u3 : Int) (u4 : Li) (u5 : Int) (u6 : Int) (d : Li) (d2 : Int) (d3 : Ll) (d4 : Ll) (d5 : Li) : Option (Int × Int × Int × Ll × Int × Int × Li × Int × Ll × Ll × Li) :=
  chk (u6 + 1) <|
  rec found trait most k u u2 u3 u4 u5 (u6 + 1) d d2 d3 d4 d5
def ask_l3 (N : Nat) : Nat → Int → Int → Int → Int → Int → Int → Ll → Int → Int → Li → Int → Int → Int → Li → Int → Ll → Ll → Li → Option (Int × Int × Int × Int × Int × Int × Ll × Int × Int × Li × Int × Int × Li × Int × Ll × Ll × Li)
  | 0, _, _, _, _, _, _, _, _, _, _, _, _, _, _, _, _, _, _ => none
  | n_ + 1, found, trait, most, k, t, n, u, u2, u3, u4, u5, u6, u7, d, d2, d3, d4, d5 =>
    br (decide (u7 < 6))
      ((known_S N d d2 d3 d4 d5 k t u7).bind fun (x_4, y_5, y_6, y_7, y_8) =>
      ((opened_S N x_4 y_5 y_6 y_7 y_8).bind fun e => match e with
      | .inl (x_9, y_10) =>
        ((first_S N x_9 0).bind fun (x_11, y_12, y_13) =>
        chk (u7 + 1) <|
        ask_l3 N n_ found trait most k t (max n y_13) u u2 u3 u4 u5 u6 (u7 + 1) d d2 d3 d4 d5)
      | .inr x_14 =>
        (none)))
      (some ((found, trait, most, k, t, n, u, u2, u3, u4, u5, u6, d, d2, d3, d4, d5)))
def ask_l2 (N : Nat) : Nat → Int → Int → Int → Int → Ll → Int → Int → Li → Int → Int → Li → Int → Ll → Ll → Li → Option (Int × Int × Int × Ll × Int × Int × Li × Int × Ll × Ll × Li)
  | 0, _, _, _, _, _, _, _, _, _, _, _, _, _, _, _ => none
  | n_ + 1, found, trait, most, k, u, u2, u3, u4, u5, u6, d, d2, d3, d4, d5 =>
    br (decide (u6 < u5))
      (idx u4 u6 fun x_3 =>
      br (!decide (x_3 = -1))
        (ask_j1 N (ask_l2 N n_) found trait most k u u2 u3 u4 u5 u6 d d2 d3 d4 d5)
        ((ask_l3 N N found trait most k u6 0 u u2 u3 u4 u5 u6 0 d d2 d3 d4 d5).bind fun (found_15, trait_16, most_17, k_18, t_19, n_20, u_21, u2_22, u3_23, u4_24, u5_25, u6_26, d_27, d2_28, d3_29, d4_30, d5_31) =>
        br (decide (most_17 = 0))
          (ask_j1 N (ask_l2 N n_) k_18 t_19 n_20 k_18 u_21 u2_22 u3_23 u4_24 u5_25 u6_26 d_27 d2_28 d3_29 d4_30 d5_31)
          (br (decide (n_20 < most_17))
            (ask_j1 N (ask_l2 N n_) k_18 t_19 n_20 k_18 u_21 u2_22 u3_23 u4_24 u5_25 u6_26 d_27 d2_28 d3_29 d4_30 d5_31)
            (ask_j1 N (ask_l2 N n_) found_15 trait_16 most_17 k_18 u_21 u2_22 u3_23 u4_24 u5_25 u6_26 d_27 d2_28 d3_29 d4_30 d5_31))))
      (some ((found, trait, most, u, u2, u3, d, d2, d3, d4, d5)))
def ask_l1 (N : Nat) : Nat → Int → Int → Int → Ll → Int → Int → Li → Int → Ll → Ll → Li → Option (Int × Int × Int)
  | 0, _, _, _, _, _, _, _, _, _, _, _ => none
  | n_ + 1, found, trait, most, u, u2, u3, d, d2, d3, d4, d5 =>
    br (decide (u3 < u2))
      (idx u u3 fun x_2 =>
      (ask_l2 N N found trait most u3 u u2 u3 x_2 (x_2.length : Int) 0 d d2 d3 d4 d5).bind fun (found_32, trait_33, most_34, u_35, u2_36, u3_37, d_38, d2_39, d3_40, d4_41, d5_42) =>
      chk (u3_37 + 1) <|
      ask_l1 N n_ found_32 trait_33 most_34 u_35 u2_36 (u3_37 + 1) d_38 d2_39 d3_40 d4_41 d5_42)
      (some ((found, trait, most)))
def ask_S (N : Nat) (d : Li) (d2 : Int) (d3 : Ll) (d4 : Ll) (d5 : Li) : Option (Int × Int × Int × Int) :=
  (check_S N d d2 d3 d4 d5).bind fun x_1 =>
  br (!decide (x_1 = 0))
    (some (0, 0, 0, x_1))
    ((ask_l1 N N 0 0 0 d4 (d4.length : Int) 0 d d2 d3 d4 d5).bind fun (found_43, trait_44, most_45) =>
    br (decide (most_45 = 0))
      (some (0, 0, 0, 6))
      (some (found_43, trait_44, most_45, 0)))
noncomputable def ask_sp (N : Nat) : List Spec := [sp_check N, sp_opened N, sp_known N, sp_first N]
theorem ask_all (N : Nat) : AllP (SpecOK Try.prog) (ask_sp N) := ⟨sp_check_ok N, sp_opened_ok N, sp_known_ok N, sp_first_ok N, trivial⟩
noncomputable def ask_c : Code := (Try.f28.body).getD .skip
noncomputable abbrev ask_B : Body := { c := ask_c, n := 72, res := [.tmp 2, .tmp 3, .tmp 4, .tmp 5], outs := [⟨[shI, shI, shI, shI], []⟩], m0 := 0 }
abbrev ask_rt : altD ask_B.outs → Option (Int × Int × Int × Int) := fun r => some (r.1.1, r.1.2.1, r.1.2.2.1, r.1.2.2.2.1)
abbrev ask_l2_at : List PI := [.c [1, 1, 0, 1, 0, 0, 1, 1, 0, 0, 1, 1, 0, 0, 0], .c [1, 1, 0, 1, 0, 0, 1, 1, 0, 0, 1, 1, 0, 0, 1], .l [1, 1, 0, 1, 0, 0, 1, 1, 0, 0, 1, 1, 0, 0], .b 2, .b 1, .c [1, 1, 0, 1, 0, 0, 1, 1, 1], .l [1, 1, 0, 1, 0, 0], .b 0, .c [1, 1, 1]]
abbrev ask_l2_st : Sta := ⟨[1, 2, 3, 4, 7, 21, 22, 23, 28, 29, 30], ⟨[.own 0 0, shI, shI, shI, shI, shQ, shI, shI, shL, shI, shI], [.segs [shL, shI, shQ, shQ, shL]]⟩⟩
abbrev ask_l2_h (rec : Int → Int → Int → Int → Ll → Int → Int → Li → Int → Int → Li → Int → Ll → Ll → Li → Option (Int × Int × Int × Ll × Int × Int × Li × Int × Ll × Ll × Li)) : Leaf (Int × Int × Int × Ll × Int × Int × Li × Int × Ll × Ll × Li) := ⟨ask_l2_at, ask_l2_st, fun p => rec p.1.2.1 p.1.2.2.1 p.1.2.2.2.1 p.1.2.2.2.2.1 p.1.2.2.2.2.2.1 p.1.2.2.2.2.2.2.1 p.1.2.2.2.2.2.2.2.1 p.1.2.2.2.2.2.2.2.2.1 p.1.2.2.2.2.2.2.2.2.2.1 p.1.2.2.2.2.2.2.2.2.2.2.1 p.2.1.1 p.2.1.2.1 p.2.1.2.2.1 p.2.1.2.2.2.1 p.2.1.2.2.2.2.1⟩
abbrev ask_l2_e0 : Leaf (Int × Int × Int × Ll × Int × Int × Li × Int × Ll × Ll × Li) := ⟨[.c [1, 1, 0, 1, 0, 0, 1, 1, 1], .l [1, 1, 0, 1, 0, 0], .b 0, .c [1, 1, 1]], ⟨[1, 2, 3, 4, 21, 22, 23], ⟨[.own 0 0, shI, shI, shI, shQ, shI, shI], [.segs [shL, shI, shQ, shQ, shL]]⟩⟩, fun p => some ((p.1.2.1, p.1.2.2.1, p.1.2.2.2.1, p.1.2.2.2.2.1, p.1.2.2.2.2.2.1, p.1.2.2.2.2.2.2.1, p.2.1.1, p.2.1.2.1, p.2.1.2.2.1, p.2.1.2.2.2.1, p.2.1.2.2.2.2.1))⟩
abbrev ask_j1_at : List PI := [.c [1, 1, 0, 1, 0, 0, 1, 1, 0, 0, 1, 1, 0, 0, 1, 1, 1], .l [1, 1, 0, 1, 0, 0, 1, 1, 0, 0, 1, 1, 0, 0], .b 2, .b 1, .c [1, 1, 0, 1, 0, 0, 1, 1, 1], .l [1, 1, 0, 1, 0, 0], .b 0, .c [1, 1, 1]]
abbrev ask_j1_st : Sta := ⟨[1, 2, 3, 4, 7, 21, 22, 23, 28, 29, 30], ⟨[.own 0 0, shI, shI, shI, shI, shQ, shI, shI, shL, shI, shI], [.segs [shL, shI, shQ, shQ, shL]]⟩⟩
abbrev ask_j1_k (N : Nat) (rec : Int → Int → Int → Int → Ll → Int → Int → Li → Int → Int → Li → Int → Ll → Ll → Li → Option (Int × Int × Int × Ll × Int × Int × Li × Int × Ll × Ll × Li)) : Leaf (Int × Int × Int × Ll × Int × Int × Li × Int × Ll × Ll × Li) := ⟨ask_j1_at, ask_j1_st, fun p => ask_j1 N rec p.1.2.1 p.1.2.2.1 p.1.2.2.2.1 p.1.2.2.2.2.1 p.1.2.2.2.2.2.1 p.1.2.2.2.2.2.2.1 p.1.2.2.2.2.2.2.2.1 p.1.2.2.2.2.2.2.2.2.1 p.1.2.2.2.2.2.2.2.2.2.1 p.1.2.2.2.2.2.2.2.2.2.2.1 p.2.1.1 p.2.1.2.1 p.2.1.2.2.1 p.2.1.2.2.2.1 p.2.1.2.2.2.2.1⟩
theorem ask_j1_eq (N : Nat) (rec : Int → Int → Int → Int → Ll → Int → Int → Li → Int → Int → Li → Int → Ll → Ll → Li → Option (Int × Int × Int × Ll × Int × Int × Li × Int × Ll × Ll × Li)) (found : Int) (trait : Int) (most : Int) (k : Int) (u : Ll) (u2 : Int) (u3 : Int) (u4 : Li) (u5 : Int) (u6 : Int) (d : Li) (d2 : Int) (d3 : Ll) (d4 : Ll) (d5 : Li) : ev (Z := Int × Int × Int × Ll × Int × Int × Li × Int × Ll × Ll × Li) Try.prog (ask_sp N) ask_B [] [ask_l2_h rec, ask_l2_e0] none 400 true ask_j1_at (stL ask_j1_st (((), found, trait, most, k, u, u2, u3, u4, u5, u6, ()), ((d, d2, d3, d4, d5, ()), ()))) (stH ask_j1_st (((), found, trait, most, k, u, u2, u3, u4, u5, u6, ()), ((d, d2, d3, d4, d5, ()), ()))) = ask_j1 N rec found trait most k u u2 u3 u4 u5 u6 d d2 d3 d4 d5 := by kernel_rfl
theorem ask_j1_lf (N : Nat) (rec : Int → Int → Int → Int → Ll → Int → Int → Li → Int → Int → Li → Int → Ll → Ll → Li → Option (Int × Int × Int × Ll × Int × Int × Li × Int × Ll × Ll × Li)) {z : Int × Int × Int × Ll × Int × Int × Li × Int × Ll × Ll × Li} {top : Bool} {E : EE} {Xc : Ctx} (hE : EOK ask_B.m0 E) (hX : CxOK top Xc) (hrec : LeafOK Try.prog ask_B.c ask_B.n ask_B.m0 E Xc z (ask_l2_h rec)) (h0 : LeafOK Try.prog ask_B.c ask_B.n ask_B.m0 E Xc z ask_l2_e0) : LeafOK Try.prog ask_B.c ask_B.n ask_B.m0 E Xc z (ask_j1_k N rec) := leaf_of_ev (B := ask_B) (loops := []) (leaves := [ask_l2_h rec, ask_l2_e0]) (ask_all N) mixed trivial hE hX ⟨hrec, h0, trivial⟩ RetOK.no (fun p => ask_j1_eq N rec p.1.2.1 p.1.2.2.1 p.1.2.2.2.1 p.1.2.2.2.2.1 p.1.2.2.2.2.2.1 p.1.2.2.2.2.2.2.1 p.1.2.2.2.2.2.2.2.1 p.1.2.2.2.2.2.2.2.2.1 p.1.2.2.2.2.2.2.2.2.2.1 p.1.2.2.2.2.2.2.2.2.2.2.1 p.2.1.1 p.2.1.2.1 p.2.1.2.2.1 p.2.1.2.2.2.1 p.2.1.2.2.2.2.1)
abbrev ask_l3_at : List PI := [.c [1, 1, 0, 1, 0, 0, 1, 1, 0, 0, 1, 1, 0, 0, 1, 1, 0, 0, 1, 1, 1, 0, 1, 0, 0, 0], .c [1, 1, 0, 1, 0, 0, 1, 1, 0, 0, 1, 1, 0, 0, 1, 1, 0, 0, 1, 1, 1, 0, 1, 0, 0, 1], .l [1, 1, 0, 1, 0, 0, 1, 1, 0, 0, 1, 1, 0, 0, 1, 1, 0, 0, 1, 1, 1, 0, 1, 0, 0], .b 4, .c [1, 1, 0, 1, 0, 0, 1, 1, 0, 0, 1, 1, 0, 0, 1, 1, 0, 0, 1, 1, 1, 1], .b 3, .c [1, 1, 0, 1, 0, 0, 1, 1, 0, 0, 1, 1, 0, 0, 1, 1, 1], .l [1, 1, 0, 1, 0, 0, 1, 1, 0, 0, 1, 1, 0, 0], .b 2, .b 1, .c [1, 1, 0, 1, 0, 0, 1, 1, 1], .l [1, 1, 0, 1, 0, 0], .b 0, .c [1, 1, 1]]
abbrev ask_l3_st : Sta := ⟨[1, 2, 3, 4, 7, 9, 11, 21, 22, 23, 28, 29, 30, 37], ⟨[.own 0 0, shI, shI, shI, shI, shI, shI, shQ, shI, shI, shL, shI, shI, shI], [.segs [shL, shI, shQ, shQ, shL]]⟩⟩
abbrev ask_l3_h (rec : Int → Int → Int → Int → Int → Int → Ll → Int → Int → Li → Int → Int → Int → Li → Int → Ll → Ll → Li → Option (Int × Int × Int × Int × Int × Int × Ll × Int × Int × Li × Int × Int × Li × Int × Ll × Ll × Li)) : Leaf (Int × Int × Int × Int × Int × Int × Ll × Int × Int × Li × Int × Int × Li × Int × Ll × Ll × Li) := ⟨ask_l3_at, ask_l3_st, fun p => rec p.1.2.1 p.1.2.2.1 p.1.2.2.2.1 p.1.2.2.2.2.1 p.1.2.2.2.2.2.1 p.1.2.2.2.2.2.2.1 p.1.2.2.2.2.2.2.2.1 p.1.2.2.2.2.2.2.2.2.1 p.1.2.2.2.2.2.2.2.2.2.1 p.1.2.2.2.2.2.2.2.2.2.2.1 p.1.2.2.2.2.2.2.2.2.2.2.2.1 p.1.2.2.2.2.2.2.2.2.2.2.2.2.1 p.1.2.2.2.2.2.2.2.2.2.2.2.2.2.1 p.2.1.1 p.2.1.2.1 p.2.1.2.2.1 p.2.1.2.2.2.1 p.2.1.2.2.2.2.1⟩
abbrev ask_l3_e0 : Leaf (Int × Int × Int × Int × Int × Int × Ll × Int × Int × Li × Int × Int × Li × Int × Ll × Ll × Li) := ⟨[.c [1, 1, 0, 1, 0, 0, 1, 1, 0, 0, 1, 1, 0, 0, 1, 1, 0, 0, 1, 1, 1, 1, 0], .c [1, 1, 0, 1, 0, 0, 1, 1, 0, 0, 1, 1, 0, 0, 1, 1, 0, 0, 1, 1, 1, 1, 1], .b 3, .c [1, 1, 0, 1, 0, 0, 1, 1, 0, 0, 1, 1, 0, 0, 1, 1, 1], .l [1, 1, 0, 1, 0, 0, 1, 1, 0, 0, 1, 1, 0, 0], .b 2, .b 1, .c [1, 1, 0, 1, 0, 0, 1, 1, 1], .l [1, 1, 0, 1, 0, 0], .b 0, .c [1, 1, 1]], ⟨[1, 2, 3, 4, 7, 9, 11, 21, 22, 23, 28, 29, 30], ⟨[.own 0 0, shI, shI, shI, shI, shI, shI, shQ, shI, shI, shL, shI, shI], [.segs [shL, shI, shQ, shQ, shL]]⟩⟩, fun p => some ((p.1.2.1, p.1.2.2.1, p.1.2.2.2.1, p.1.2.2.2.2.1, p.1.2.2.2.2.2.1, p.1.2.2.2.2.2.2.1, p.1.2.2.2.2.2.2.2.1, p.1.2.2.2.2.2.2.2.2.1, p.1.2.2.2.2.2.2.2.2.2.1, p.1.2.2.2.2.2.2.2.2.2.2.1, p.1.2.2.2.2.2.2.2.2.2.2.2.1, p.1.2.2.2.2.2.2.2.2.2.2.2.2.1, p.2.1.1, p.2.1.2.1, p.2.1.2.2.1, p.2.1.2.2.2.1, p.2.1.2.2.2.2.1))⟩
noncomputable def ask_l3_L (N : Nat) : LoopS := { at_ := ask_l3_at, sta := ask_l3_st, exits := [([.c [1, 1, 0, 1, 0, 0, 1, 1, 0, 0, 1, 1, 0, 0, 1, 1, 0, 0, 1, 1, 1, 1, 0], .c [1, 1, 0, 1, 0, 0, 1, 1, 0, 0, 1, 1, 0, 0, 1, 1, 0, 0, 1, 1, 1, 1, 1], .b 3, .c [1, 1, 0, 1, 0, 0, 1, 1, 0, 0, 1, 1, 0, 0, 1, 1, 1], .l [1, 1, 0, 1, 0, 0, 1, 1, 0, 0, 1, 1, 0, 0], .b 2, .b 1, .c [1, 1, 0, 1, 0, 0, 1, 1, 1], .l [1, 1, 0, 1, 0, 0], .b 0, .c [1, 1, 1]], ⟨[1, 2, 3, 4, 7, 9, 11, 21, 22, 23, 28, 29, 30], ⟨[.own 0 0, shI, shI, shI, shI, shI, shI, shQ, shI, shI, shL, shI, shI], [.segs [shL, shI, shQ, shQ, shL]]⟩⟩)], run := fun p k => (ask_l3 N N p.1.2.1 p.1.2.2.1 p.1.2.2.2.1 p.1.2.2.2.2.1 p.1.2.2.2.2.2.1 p.1.2.2.2.2.2.2.1 p.1.2.2.2.2.2.2.2.1 p.1.2.2.2.2.2.2.2.2.1 p.1.2.2.2.2.2.2.2.2.2.1 p.1.2.2.2.2.2.2.2.2.2.2.1 p.1.2.2.2.2.2.2.2.2.2.2.2.1 p.1.2.2.2.2.2.2.2.2.2.2.2.2.1 p.1.2.2.2.2.2.2.2.2.2.2.2.2.2.1 p.2.1.1 p.2.1.2.1 p.2.1.2.2.1 p.2.1.2.2.2.1 p.2.1.2.2.2.2.1).bind fun e => k (.inl (((), e.1, e.2.1, e.2.2.1, e.2.2.2.1, e.2.2.2.2.1, e.2.2.2.2.2.1, e.2.2.2.2.2.2.1, e.2.2.2.2.2.2.2.1, e.2.2.2.2.2.2.2.2.1, e.2.2.2.2.2.2.2.2.2.1, e.2.2.2.2.2.2.2.2.2.2.1, e.2.2.2.2.2.2.2.2.2.2.2.1, ()), ((e.2.2.2.2.2.2.2.2.2.2.2.2.1, e.2.2.2.2.2.2.2.2.2.2.2.2.2.1, e.2.2.2.2.2.2.2.2.2.2.2.2.2.2.1, e.2.2.2.2.2.2.2.2.2.2.2.2.2.2.2.1, e.2.2.2.2.2.2.2.2.2.2.2.2.2.2.2.2, ()), ()))) }
theorem ask_l3_eq (N n_ : Nat) (found : Int) (trait : Int) (most : Int) (k : Int) (t : Int) (n : Int) (u : Ll) (u2 : Int) (u3 : Int) (u4 : Li) (u5 : Int) (u6 : Int) (u7 : Int) (d : Li) (d2 : Int) (d3 : Ll) (d4 : Ll) (d5 : Li) : ev (Z := Int × Int × Int × Int × Int × Int × Ll × Int × Int × Li × Int × Int × Li × Int × Ll × Ll × Li) Try.prog (ask_sp N) ask_B [] [ask_l3_h (ask_l3 N n_), ask_l3_e0] none 400 true ask_l3_at (stL ask_l3_st (((), found, trait, most, k, t, n, u, u2, u3, u4, u5, u6, u7, ()), ((d, d2, d3, d4, d5, ()), ()))) (stH ask_l3_st (((), found, trait, most, k, t, n, u, u2, u3, u4, u5, u6, u7, ()), ((d, d2, d3, d4, d5, ()), ()))) = ask_l3 N (n_ + 1) found trait most k t n u u2 u3 u4 u5 u6 u7 d d2 d3 d4 d5 := by kernel_rfl
theorem ask_l3_ok (N : Nat) {top : Bool} : LoopOK Try.prog ask_B.c ask_B.n ask_B.m0 top (ask_l3_L N) := loop_of_ev (Z := Int × Int × Int × Int × Int × Int × Ll × Int × Int × Li × Int × Int × Li × Int × Ll × Ll × Li) (N := N) (fun m p => ask_l3 N m p.1.2.1 p.1.2.2.1 p.1.2.2.2.1 p.1.2.2.2.2.1 p.1.2.2.2.2.2.1 p.1.2.2.2.2.2.2.1 p.1.2.2.2.2.2.2.2.1 p.1.2.2.2.2.2.2.2.2.1 p.1.2.2.2.2.2.2.2.2.2.1 p.1.2.2.2.2.2.2.2.2.2.2.1 p.1.2.2.2.2.2.2.2.2.2.2.2.1 p.1.2.2.2.2.2.2.2.2.2.2.2.2.1 p.1.2.2.2.2.2.2.2.2.2.2.2.2.2.1 p.2.1.1 p.2.1.2.1 p.2.1.2.2.1 p.2.1.2.2.2.1 p.2.1.2.2.2.2.1) (fun e => .inl (((), e.1, e.2.1, e.2.2.1, e.2.2.2.1, e.2.2.2.2.1, e.2.2.2.2.2.1, e.2.2.2.2.2.2.1, e.2.2.2.2.2.2.2.1, e.2.2.2.2.2.2.2.2.1, e.2.2.2.2.2.2.2.2.2.1, e.2.2.2.2.2.2.2.2.2.2.1, e.2.2.2.2.2.2.2.2.2.2.2.1, ()), ((e.2.2.2.2.2.2.2.2.2.2.2.2.1, e.2.2.2.2.2.2.2.2.2.2.2.2.2.1, e.2.2.2.2.2.2.2.2.2.2.2.2.2.2.1, e.2.2.2.2.2.2.2.2.2.2.2.2.2.2.2.1, e.2.2.2.2.2.2.2.2.2.2.2.2.2.2.2.2, ()), ()))) (fun _ _ _ => rfl) (fun _ => rfl) (fun m z E Xc hE hX hrec hx => leaf_of_ev (B := ask_B) (loops := []) (leaves := [ask_l3_h (ask_l3 N m), ask_l3_e0]) (ask_all N) mixed trivial hE hX ⟨hrec, (fun p hp => by obtain rfl := Option.some.inj hp; exact hx), trivial⟩ RetOK.no (fun p => ask_l3_eq N m p.1.2.1 p.1.2.2.1 p.1.2.2.2.1 p.1.2.2.2.2.1 p.1.2.2.2.2.2.1 p.1.2.2.2.2.2.2.1 p.1.2.2.2.2.2.2.2.1 p.1.2.2.2.2.2.2.2.2.1 p.1.2.2.2.2.2.2.2.2.2.1 p.1.2.2.2.2.2.2.2.2.2.2.1 p.1.2.2.2.2.2.2.2.2.2.2.2.1 p.1.2.2.2.2.2.2.2.2.2.2.2.2.1 p.1.2.2.2.2.2.2.2.2.2.2.2.2.2.1 p.2.1.1 p.2.1.2.1 p.2.1.2.2.1 p.2.1.2.2.2.1 p.2.1.2.2.2.2.1))
noncomputable def ask_l2_L (N : Nat) : LoopS := { at_ := ask_l2_at, sta := ask_l2_st, exits := [([.c [1, 1, 0, 1, 0, 0, 1, 1, 1], .l [1, 1, 0, 1, 0, 0], .b 0, .c [1, 1, 1]], ⟨[1, 2, 3, 4, 21, 22, 23], ⟨[.own 0 0, shI, shI, shI, shQ, shI, shI], [.segs [shL, shI, shQ, shQ, shL]]⟩⟩)], run := fun p k => (ask_l2 N N p.1.2.1 p.1.2.2.1 p.1.2.2.2.1 p.1.2.2.2.2.1 p.1.2.2.2.2.2.1 p.1.2.2.2.2.2.2.1 p.1.2.2.2.2.2.2.2.1 p.1.2.2.2.2.2.2.2.2.1 p.1.2.2.2.2.2.2.2.2.2.1 p.1.2.2.2.2.2.2.2.2.2.2.1 p.2.1.1 p.2.1.2.1 p.2.1.2.2.1 p.2.1.2.2.2.1 p.2.1.2.2.2.2.1).bind fun e => k (.inl (((), e.1, e.2.1, e.2.2.1, e.2.2.2.1, e.2.2.2.2.1, e.2.2.2.2.2.1, ()), ((e.2.2.2.2.2.2.1, e.2.2.2.2.2.2.2.1, e.2.2.2.2.2.2.2.2.1, e.2.2.2.2.2.2.2.2.2.1, e.2.2.2.2.2.2.2.2.2.2, ()), ()))) }
theorem ask_l2_eq (N n_ : Nat) (found : Int) (trait : Int) (most : Int) (k : Int) (u : Ll) (u2 : Int) (u3 : Int) (u4 : Li) (u5 : Int) (u6 : Int) (d : Li) (d2 : Int) (d3 : Ll) (d4 : Ll) (d5 : Li) : ev (Z := Int × Int × Int × Ll × Int × Int × Li × Int × Ll × Ll × Li) Try.prog (ask_sp N) ask_B [ask_l3_L N] [ask_l2_h (ask_l2 N n_), ask_l2_e0, ask_j1_k N (ask_l2 N n_)] none 400 true ask_l2_at (stL ask_l2_st (((), found, trait, most, k, u, u2, u3, u4, u5, u6, ()), ((d, d2, d3, d4, d5, ()), ()))) (stH ask_l2_st (((), found, trait, most, k, u, u2, u3, u4, u5, u6, ()), ((d, d2, d3, d4, d5, ()), ()))) = ask_l2 N (n_ + 1) found trait most k u u2 u3 u4 u5 u6 d d2 d3 d4 d5 := by kernel_rfl
theorem ask_l2_ok (N : Nat) {top : Bool} : LoopOK Try.prog ask_B.c ask_B.n ask_B.m0 top (ask_l2_L N) := loop_of_ev (Z := Int × Int × Int × Ll × Int × Int × Li × Int × Ll × Ll × Li) (N := N) (fun m p => ask_l2 N m p.1.2.1 p.1.2.2.1 p.1.2.2.2.1 p.1.2.2.2.2.1 p.1.2.2.2.2.2.1 p.1.2.2.2.2.2.2.1 p.1.2.2.2.2.2.2.2.1 p.1.2.2.2.2.2.2.2.2.1 p.1.2.2.2.2.2.2.2.2.2.1 p.1.2.2.2.2.2.2.2.2.2.2.1 p.2.1.1 p.2.1.2.1 p.2.1.2.2.1 p.2.1.2.2.2.1 p.2.1.2.2.2.2.1) (fun e => .inl (((), e.1, e.2.1, e.2.2.1, e.2.2.2.1, e.2.2.2.2.1, e.2.2.2.2.2.1, ()), ((e.2.2.2.2.2.2.1, e.2.2.2.2.2.2.2.1, e.2.2.2.2.2.2.2.2.1, e.2.2.2.2.2.2.2.2.2.1, e.2.2.2.2.2.2.2.2.2.2, ()), ()))) (fun _ _ _ => rfl) (fun _ => rfl) (fun m z E Xc hE hX hrec hx => leaf_of_ev (B := ask_B) (loops := [ask_l3_L N]) (leaves := [ask_l2_h (ask_l2 N m), ask_l2_e0, ask_j1_k N (ask_l2 N m)]) (ask_all N) mixed ⟨ask_l3_ok N, trivial⟩ hE hX ⟨hrec, (fun p hp => by obtain rfl := Option.some.inj hp; exact hx), ask_j1_lf N _ hE hX hrec (fun p hp => by obtain rfl := Option.some.inj hp; exact hx), trivial⟩ RetOK.no (fun p => ask_l2_eq N m p.1.2.1 p.1.2.2.1 p.1.2.2.2.1 p.1.2.2.2.2.1 p.1.2.2.2.2.2.1 p.1.2.2.2.2.2.2.1 p.1.2.2.2.2.2.2.2.1 p.1.2.2.2.2.2.2.2.2.1 p.1.2.2.2.2.2.2.2.2.2.1 p.1.2.2.2.2.2.2.2.2.2.2.1 p.2.1.1 p.2.1.2.1 p.2.1.2.2.1 p.2.1.2.2.2.1 p.2.1.2.2.2.2.1))
abbrev ask_l1_at : List PI := [.c [1, 1, 0, 1, 0, 0, 0], .c [1, 1, 0, 1, 0, 0, 1], .l [1, 1, 0, 1, 0, 0], .b 0, .c [1, 1, 1]]
abbrev ask_l1_st : Sta := ⟨[1, 2, 3, 4, 21, 22, 23], ⟨[.own 0 0, shI, shI, shI, shQ, shI, shI], [.segs [shL, shI, shQ, shQ, shL]]⟩⟩
abbrev ask_l1_h (rec : Int → Int → Int → Ll → Int → Int → Li → Int → Ll → Ll → Li → Option (Int × Int × Int)) : Leaf (Int × Int × Int) := ⟨ask_l1_at, ask_l1_st, fun p => rec p.1.2.1 p.1.2.2.1 p.1.2.2.2.1 p.1.2.2.2.2.1 p.1.2.2.2.2.2.1 p.1.2.2.2.2.2.2.1 p.2.1.1 p.2.1.2.1 p.2.1.2.2.1 p.2.1.2.2.2.1 p.2.1.2.2.2.2.1⟩
abbrev ask_l1_e0 : Leaf (Int × Int × Int) := ⟨[.c [1, 1, 1, 0, 0], .c [1, 1, 1, 0, 1], .c [1, 1, 1, 1]], ⟨[2, 3, 4], ⟨[shI, shI, shI], []⟩⟩, fun p => some ((p.1.1, p.1.2.1, p.1.2.2.1))⟩
noncomputable def ask_l1_L (N : Nat) : LoopS := { at_ := ask_l1_at, sta := ask_l1_st, exits := [([.c [1, 1, 1, 0, 0], .c [1, 1, 1, 0, 1], .c [1, 1, 1, 1]], ⟨[2, 3, 4], ⟨[shI, shI, shI], []⟩⟩)], run := fun p k => (ask_l1 N N p.1.2.1 p.1.2.2.1 p.1.2.2.2.1 p.1.2.2.2.2.1 p.1.2.2.2.2.2.1 p.1.2.2.2.2.2.2.1 p.2.1.1 p.2.1.2.1 p.2.1.2.2.1 p.2.1.2.2.2.1 p.2.1.2.2.2.2.1).bind fun e => k (.inl ((e.1, e.2.1, e.2.2, ()), ())) }
theorem ask_l1_eq (N n_ : Nat) (found : Int) (trait : Int) (most : Int) (u : Ll) (u2 : Int) (u3 : Int) (d : Li) (d2 : Int) (d3 : Ll) (d4 : Ll) (d5 : Li) : ev (Z := Int × Int × Int) Try.prog (ask_sp N) ask_B [ask_l3_L N, ask_l2_L N] [ask_l1_h (ask_l1 N n_), ask_l1_e0] none 400 true ask_l1_at (stL ask_l1_st (((), found, trait, most, u, u2, u3, ()), ((d, d2, d3, d4, d5, ()), ()))) (stH ask_l1_st (((), found, trait, most, u, u2, u3, ()), ((d, d2, d3, d4, d5, ()), ()))) = ask_l1 N (n_ + 1) found trait most u u2 u3 d d2 d3 d4 d5 := by kernel_rfl
theorem ask_l1_ok (N : Nat) {top : Bool} : LoopOK Try.prog ask_B.c ask_B.n ask_B.m0 top (ask_l1_L N) := loop_of_ev (Z := Int × Int × Int) (N := N) (fun m p => ask_l1 N m p.1.2.1 p.1.2.2.1 p.1.2.2.2.1 p.1.2.2.2.2.1 p.1.2.2.2.2.2.1 p.1.2.2.2.2.2.2.1 p.2.1.1 p.2.1.2.1 p.2.1.2.2.1 p.2.1.2.2.2.1 p.2.1.2.2.2.2.1) (fun e => .inl ((e.1, e.2.1, e.2.2, ()), ())) (fun _ _ _ => rfl) (fun _ => rfl) (fun m z E Xc hE hX hrec hx => leaf_of_ev (B := ask_B) (loops := [ask_l3_L N, ask_l2_L N]) (leaves := [ask_l1_h (ask_l1 N m), ask_l1_e0]) (ask_all N) mixed ⟨ask_l3_ok N, ask_l2_ok N, trivial⟩ hE hX ⟨hrec, (fun p hp => by obtain rfl := Option.some.inj hp; exact hx), trivial⟩ RetOK.no (fun p => ask_l1_eq N m p.1.2.1 p.1.2.2.1 p.1.2.2.2.1 p.1.2.2.2.2.1 p.1.2.2.2.2.2.1 p.1.2.2.2.2.2.2.1 p.2.1.1 p.2.1.2.1 p.2.1.2.2.1 p.2.1.2.2.2.1 p.2.1.2.2.2.2.1))
abbrev ask_st : Sta := ⟨[0], ⟨[shG], []⟩⟩
theorem ask_eq (N : Nat) (d : Li) (d2 : Int) (d3 : Ll) (d4 : Ll) (d5 : Li) : ev (Z := Int × Int × Int × Int) Try.prog (ask_sp N) ask_B [ask_l3_L N, ask_l2_L N, ask_l1_L N] [] (some ask_rt) 400 false [.c [0], .c [1]] (stL ask_st (((d, d2, d3, d4, d5, ()), ()), ())) (stH ask_st (((d, d2, d3, d4, d5, ()), ()), ())) = ask_S N d d2 d3 d4 d5 := by kernel_rfl
noncomputable def sp_ask (N : Nat) : Spec := { f := 28, ins := ⟨[shG], []⟩, outs := [⟨[shI, shI, shI, shI], []⟩], run := fun p k => (ask_S N p.1.1.1 p.1.1.2.1 p.1.1.2.2.1 p.1.1.2.2.2.1 p.1.1.2.2.2.2.1).bind fun r => k ((r.1, r.2.1, r.2.2.1, r.2.2.2, ()), ()) }
theorem sp_ask_ok (N : Nat) : SpecOK Try.prog (sp_ask N) := fn_sound (B := ask_B) (loops := [ask_l3_L N, ask_l2_L N, ask_l1_L N]) (leaves := []) (fun p => ask_S N p.1.1.1 p.1.1.2.1 p.1.1.2.2.1 p.1.1.2.2.2.1 p.1.1.2.2.2.2.1) (fun r => ((r.1, r.2.1, r.2.2.1, r.2.2.2, ()), ())) ask_rt (fun _ _ _ => rfl) (fun r z h => by cases h; rfl) Try.func28 (by kernel_rfl) (by kernel_rfl) (by kernel_rfl) rfl rfl (by kernel_rfl) (fun args w => Sem.pv_run _ _ _ (by kernel_rfl) w) (ask_all N) mixed ⟨ask_l3_ok N, ask_l2_ok N, ask_l1_ok N, trivial⟩ (fun z E Xc hE hX hret => trivial) (fun p => ask_eq N p.1.1.1 p.1.1.2.1 p.1.1.2.2.1 p.1.1.2.2.2.1 p.1.1.2.2.2.2.1)

def equali_l1 (N : Nat) : Nat → Li → Li → Int → Int → Option ((Unit) ⊕ (Unit))
  | 0, _, _, _, _ => none
  | n_ + 1, s1, s2, u, u2 =>
    br (decide (u2 < u))
      (idx s1 u2 fun x_1 =>
      idx s2 u2 fun x_2 =>
      br (!decide (x_1 = x_2))
        (some (.inl ()))
        (chk (u2 + 1) <|
        equali_l1 N n_ s1 s2 u (u2 + 1)))
      (some (.inr ()))
def equali_S (N : Nat) (s1 : Li) (s2 : Li) : Option Bool :=
  br (!decide ((s1.length : Int) = (s2.length : Int)))
    (some false)
    ((equali_l1 N N s1 s2 (s1.length : Int) 0).bind fun e => match e with
    | .inl _ =>
      some false
    | .inr _ =>
      some true)
noncomputable def equali_sp (N : Nat) : List Spec := []
theorem equali_all (N : Nat) : AllP (SpecOK Try.prog) (equali_sp N) := trivial
noncomputable def equali_c : Code := (Try.f97.body).getD .skip
noncomputable abbrev equali_B : Body := { c := equali_c, n := 26, res := [.tmp 4], outs := [⟨[.b], []⟩], m0 := 0 }
abbrev equali_rt : altD equali_B.outs → Option Bool := fun r => some r.1.1
abbrev equali_l1_at : List PI := [.c [1, 1, 0, 1, 0, 0, 0], .c [1, 1, 0, 1, 0, 0, 1], .l [1, 1, 0, 1, 0, 0], .b 0, .c [1, 1, 1]]
abbrev equali_l1_st : Sta := ⟨[0, 1, 12, 13], ⟨[shL, shL, shI, shI], []⟩⟩
abbrev equali_l1_h (rec : Li → Li → Int → Int → Option ((Unit) ⊕ (Unit))) : Leaf ((Unit) ⊕ (Unit)) := ⟨equali_l1_at, equali_l1_st, fun p => rec p.1.1 p.1.2.1 p.1.2.2.1 p.1.2.2.2.1⟩
abbrev equali_l1_e0 : Leaf ((Unit) ⊕ (Unit)) := ⟨[.c [1, 1, 0, 1, 0, 0, 1, 1, 0, 0, 1, 1, 0, 0], .c [1, 1, 0, 1, 0, 0, 1, 1, 0, 0, 1, 1, 0, 1], .b 1, .c [1, 1, 0, 1, 0, 0, 1, 1, 1], .l [1, 1, 0, 1, 0, 0], .b 0, .c [1, 1, 1]], ⟨[], ⟨[], []⟩⟩, fun p => some (.inl ())⟩
abbrev equali_l1_e1 : Leaf ((Unit) ⊕ (Unit)) := ⟨[.c [1, 1, 1, 0], .c [1, 1, 1, 1]], ⟨[], ⟨[], []⟩⟩, fun p => some (.inr ())⟩
noncomputable def equali_l1_L (N : Nat) : LoopS := { at_ := equali_l1_at, sta := equali_l1_st, exits := [([.c [1, 1, 0, 1, 0, 0, 1, 1, 0, 0, 1, 1, 0, 0], .c [1, 1, 0, 1, 0, 0, 1, 1, 0, 0, 1, 1, 0, 1], .b 1, .c [1, 1, 0, 1, 0, 0, 1, 1, 1], .l [1, 1, 0, 1, 0, 0], .b 0, .c [1, 1, 1]], ⟨[], ⟨[], []⟩⟩), ([.c [1, 1, 1, 0], .c [1, 1, 1, 1]], ⟨[], ⟨[], []⟩⟩)], run := fun p k => (equali_l1 N N p.1.1 p.1.2.1 p.1.2.2.1 p.1.2.2.2.1).bind fun e => match e with | .inl x => k (.inl ((), ())) | .inr x => k (.inr (.inl ((), ()))) }
theorem equali_l1_eq (N n_ : Nat) (s1 : Li) (s2 : Li) (u : Int) (u2 : Int) : ev (Z := (Unit) ⊕ (Unit)) Try.prog (equali_sp N) equali_B [] [equali_l1_h (equali_l1 N n_), equali_l1_e0, equali_l1_e1] none 400 true equali_l1_at (stL equali_l1_st ((s1, s2, u, u2, ()), ())) (stH equali_l1_st ((s1, s2, u, u2, ()), ())) = equali_l1 N (n_ + 1) s1 s2 u u2 := by kernel_rfl
theorem equali_l1_ok (N : Nat) {top : Bool} : LoopOK Try.prog equali_B.c equali_B.n equali_B.m0 top (equali_l1_L N) := loop_of_ev (Z := (Unit) ⊕ (Unit)) (N := N) (fun m p => equali_l1 N m p.1.1 p.1.2.1 p.1.2.2.1 p.1.2.2.2.1) (fun e => match e with | .inl x => .inl ((), ()) | .inr x => .inr (.inl ((), ()))) (fun _ p k => bind_congr_ (equali_l1 N N p.1.1 p.1.2.1 p.1.2.2.1 p.1.2.2.2.1) _ _ (fun e => by rcases e with x | x <;> rfl)) (fun _ => rfl) (fun m z E Xc hE hX hrec hx => leaf_of_ev (B := equali_B) (loops := []) (leaves := [equali_l1_h (equali_l1 N m), equali_l1_e0, equali_l1_e1]) (equali_all N) mixed trivial hE hX ⟨hrec, (fun p hp => by obtain rfl := Option.some.inj hp; exact hx), (fun p hp => by obtain rfl := Option.some.inj hp; exact hx), trivial⟩ RetOK.no (fun p => equali_l1_eq N m p.1.1 p.1.2.1 p.1.2.2.1 p.1.2.2.2.1))
abbrev equali_st : Sta := ⟨[0, 1], ⟨[shL, shL], []⟩⟩
theorem equali_eq (N : Nat) (s1 : Li) (s2 : Li) : ev (Z := Bool) Try.prog (equali_sp N) equali_B [equali_l1_L N] [] (some equali_rt) 400 false [.c [0], .c [1]] (stL equali_st ((s1, s2, ()), ())) (stH equali_st ((s1, s2, ()), ())) = equali_S N s1 s2 := by kernel_rfl
noncomputable def sp_equali (N : Nat) : Spec := { f := 97, ins := ⟨[shL, shL], []⟩, outs := [⟨[.b], []⟩], run := fun p k => (equali_S N p.1.1 p.1.2.1).bind fun r => k ((r, ()), ()) }
theorem sp_equali_ok (N : Nat) : SpecOK Try.prog (sp_equali N) := fn_sound (B := equali_B) (loops := [equali_l1_L N]) (leaves := []) (fun p => equali_S N p.1.1 p.1.2.1) (fun r => ((r, ()), ())) equali_rt (fun _ _ _ => rfl) (fun r z h => by cases h; rfl) Try.func97 (by kernel_rfl) (by kernel_rfl) (by kernel_rfl) rfl rfl (by kernel_rfl) (fun args w => Sem.pv_run _ _ _ (by kernel_rfl) w) (equali_all N) mixed ⟨equali_l1_ok N, trivial⟩ (fun z E Xc hE hX hret => trivial) (fun p => equali_eq N p.1.1 p.1.2.1)

def likei_S (N : Nat) (a : Li) (b : Li) : Option Bool :=
  (equali_S N a b).bind fun x_1 =>
  some x_1
noncomputable def likei_sp (N : Nat) : List Spec := [sp_equali N]
theorem likei_all (N : Nat) : AllP (SpecOK Try.prog) (likei_sp N) := ⟨sp_equali_ok N, trivial⟩
noncomputable def likei_c : Code := (Try.f48.body).getD .skip
noncomputable abbrev likei_B : Body := { c := likei_c, n := 8, res := [.tmp 4], outs := [⟨[.b], []⟩], m0 := 0 }
abbrev likei_rt : altD likei_B.outs → Option Bool := fun r => some r.1.1
abbrev likei_st : Sta := ⟨[0, 1], ⟨[shL, shL], []⟩⟩
theorem likei_eq (N : Nat) (a : Li) (b : Li) : ev (Z := Bool) Try.prog (likei_sp N) likei_B [] [] (some likei_rt) 400 false [.c [0], .c [1]] (stL likei_st ((a, b, ()), ())) (stH likei_st ((a, b, ()), ())) = likei_S N a b := by kernel_rfl
noncomputable def sp_likei (N : Nat) : Spec := { f := 48, ins := ⟨[shL, shL], []⟩, outs := [⟨[.b], []⟩], run := fun p k => (likei_S N p.1.1 p.1.2.1).bind fun r => k ((r, ()), ()) }
theorem sp_likei_ok (N : Nat) : SpecOK Try.prog (sp_likei N) := fn_sound (B := likei_B) (loops := []) (leaves := []) (fun p => likei_S N p.1.1 p.1.2.1) (fun r => ((r, ()), ())) likei_rt (fun _ _ _ => rfl) (fun r z h => by cases h; rfl) Try.func48 (by kernel_rfl) (by kernel_rfl) (by kernel_rfl) rfl rfl (by kernel_rfl) (fun args w => Sem.pv_run _ _ _ (by kernel_rfl) w) (likei_all N) mixed trivial (fun z E Xc hE hX hret => trivial) (fun p => likei_eq N p.1.1 p.1.2.1)

def two_S (N : Nat) (slips : Int) : Option (Li × Int × Ll × Ll × Li) :=
  some ([5, 3, 2], slips, [[1, 1, 1], [1, 2, -1]], [[1, -1, -1], [1, 1, -1]], [10, 40])
noncomputable def two_sp (N : Nat) : List Spec := []
theorem two_all (N : Nat) : AllP (SpecOK Try.prog) (two_sp N) := trivial
noncomputable def two_c : Code := (Try.f79.body).getD .skip
noncomputable abbrev two_B : Body := { c := two_c, n := 13, res := [.cell 2 26], outs := [⟨[shG], []⟩], m0 := 0 }
abbrev two_rt : altD two_B.outs → Option (Li × Int × Ll × Ll × Li) := fun r => some (r.1.1.1, r.1.1.2.1, r.1.1.2.2.1, r.1.1.2.2.2.1, r.1.1.2.2.2.2.1)
abbrev two_st : Sta := ⟨[0], ⟨[shI], []⟩⟩
theorem two_eq (N : Nat) (slips : Int) : ev (Z := Li × Int × Ll × Ll × Li) Try.prog (two_sp N) two_B [] [] (some two_rt) 400 false [.c [0], .c [1]] (stL two_st ((slips, ()), ())) (stH two_st ((slips, ()), ())) = two_S N slips := by kernel_rfl
noncomputable def sp_two (N : Nat) : Spec := { f := 79, ins := ⟨[shI], []⟩, outs := [⟨[shG], []⟩], run := fun p k => (two_S N p.1.1).bind fun r => k (((r.1, r.2.1, r.2.2.1, r.2.2.2.1, r.2.2.2.2, ()), ()), ()) }
theorem sp_two_ok (N : Nat) : SpecOK Try.prog (sp_two N) := fn_sound (B := two_B) (loops := []) (leaves := []) (fun p => two_S N p.1.1) (fun r => (((r.1, r.2.1, r.2.2.1, r.2.2.2.1, r.2.2.2.2, ()), ()), ())) two_rt (fun _ _ _ => rfl) (fun r z h => by cases h; rfl) Try.func79 (by kernel_rfl) (by kernel_rfl) (by kernel_rfl) rfl rfl (by kernel_rfl) (fun args w => Sem.pv_run _ _ _ (by kernel_rfl) w) (two_all N) mixed trivial (fun z E Xc hE hX hret => trivial) (fun p => two_eq N p.1.1)

def awake_S (N : Nat)  : Option Bool :=
  (two_S N 0).bind fun (x_1, y_2, y_3, y_4, y_5) =>
  (best_S N x_1 y_2 y_3 y_4 y_5).bind fun (x_6, y_7, y_8) =>
  (two_S N 0).bind fun (x_9, y_10, y_11, y_12, y_13) =>
  (shows_S N x_9 y_10 y_11 y_12 y_13 [3, 0] [5, 5]).bind fun (x_14, y_15) =>
  (two_S N 0).bind fun (x_16, y_17, y_18, y_19, y_20) =>
  (count_S N x_16 y_17 y_18 y_19 y_20).bind fun (x_21, y_22) =>
  (two_S N 0).bind fun (x_23, y_24, y_25, y_26, y_27) =>
  (change_S N x_23 y_24 y_25 y_26 y_27 [0, -1]).bind fun (x_28, y_29) =>
  br (!decide (y_8 = 0))
    (some false)
    (br (!decide (y_15 = 0))
      (some false)
      (br (!decide (y_22 = 0))
        (some false)
        (br (!decide (y_29 = 0))
          (some false)
          ((likei_S N x_6 [1, 0]).bind fun x_30 =>
          br (!x_30)
            (some false)
            (br (!decide (y_7 = 13))
              (some false)
              (br (!decide (x_14 = 13))
                (some false)
                (br (!decide (x_21 = 1))
                  (some false)
                  ((likei_S N x_28 [1, -1]).bind fun x_31 =>
                  br (!x_31)
                    (some false)
                    ((two_S N 0).bind fun (x_32, y_33, y_34, y_35, y_36) =>
                    (ask_S N x_32 y_33 y_34 y_35 y_36).bind fun (x_37, y_38, y_39, y_40) =>
                    (two_S N 1).bind fun (x_41, y_42, y_43, y_44, y_45) =>
                    (agree__S N x_41 y_42 y_43 y_44 y_45 1 1).bind fun (x_46, y_47, y_48, y_49) =>
                    br (decide (y_40 = 0))
                      (br (decide (y_49 = 0))
                        (br (decide (x_37 = 0))
                          (br (decide (y_38 = 2))
                            (br (decide (y_39 = 1))
                              (br (decide (x_46 = 5))
                                (br (decide (y_47 = 1))
                                  (some y_48)
                                  (some false))
                                (some false))
                              (some false))
                            (some false))
                          (some false))
                        (some false))
                      (some false))))))))))
noncomputable def awake_sp (N : Nat) : List Spec := [sp_agree_ N, sp_shows N, sp_best N, sp_count N, sp_change N, sp_ask N, sp_likei N, sp_two N]
theorem awake_all (N : Nat) : AllP (SpecOK Try.prog) (awake_sp N) := ⟨sp_agree__ok N, sp_shows_ok N, sp_best_ok N, sp_count_ok N, sp_change_ok N, sp_ask_ok N, sp_likei_ok N, sp_two_ok N, trivial⟩
noncomputable def awake_c : Code := (Try.f24.body).getD .skip
noncomputable abbrev awake_B : Body := { c := awake_c, n := 121, res := [.tmp 0], outs := [⟨[.b], []⟩], m0 := 0 }
abbrev awake_rt : altD awake_B.outs → Option Bool := fun r => some r.1.1
abbrev awake_st : Sta := ⟨[], ⟨[], []⟩⟩
theorem awake_eq (N : Nat)  : ev (Z := Bool) Try.prog (awake_sp N) awake_B [] [] (some awake_rt) 400 false [.c [0], .c [1]] (stL awake_st ((), ())) (stH awake_st ((), ())) = awake_S N := by kernel_rfl
noncomputable def sp_awake (N : Nat) : Spec := { f := 24, ins := ⟨[], []⟩, outs := [⟨[.b], []⟩], run := fun p k => (awake_S N).bind fun r => k ((r, ()), ()) }
theorem sp_awake_ok (N : Nat) : SpecOK Try.prog (sp_awake N) := fn_sound (B := awake_B) (loops := []) (leaves := []) (fun p => awake_S N ) (fun r => ((r, ()), ())) awake_rt (fun _ _ _ => rfl) (fun r z h => by cases h; rfl) Try.func24 (by kernel_rfl) (by kernel_rfl) (by kernel_rfl) rfl rfl (by kernel_rfl) (fun args w => Sem.pv_run _ _ _ (by kernel_rfl) w) (awake_all N) mixed trivial (fun z E Xc hE hX hret => trivial) (fun p => awake_eq N )

end Go.Proofs.Ythncjilcflilcaa

namespace Go.Proofs.Ythncjilcflilcaa
set_option linter.all false
open Go

def copyi_S (N : Nat) (l : Li) : Option Li :=
  grd (lmI (l.length : Int)) <|
  some (l.take (min l.length (List.replicate (l.length : Int).toNat (0 : Int)).length) ++ (List.replicate (l.length : Int).toNat (0 : Int)).drop (min l.length (List.replicate (l.length : Int).toNat (0 : Int)).length))
noncomputable def copyi_sp (N : Nat) : List Spec := []
theorem copyi_all (N : Nat) : AllP (SpecOK Try.prog) (copyi_sp N) := trivial
noncomputable def copyi_c : Code := (Try.f23.body).getD .skip
noncomputable abbrev copyi_B : Body := { c := copyi_c, n := 11, res := [.tmp 2], outs := [⟨[shL], []⟩], m0 := 0 }
abbrev copyi_rt : altD copyi_B.outs → Option Li := fun r => some r.1.1
abbrev copyi_st : Sta := ⟨[0], ⟨[shL], []⟩⟩
theorem copyi_eq (N : Nat) (l : Li) : ev (Z := Li) Try.prog (copyi_sp N) copyi_B [] [] (some copyi_rt) 400 false [.c [0], .c [1]] (stL copyi_st ((l, ()), ())) (stH copyi_st ((l, ()), ())) = copyi_S N l := by kernel_rfl
noncomputable def sp_copyi (N : Nat) : Spec := { f := 23, ins := ⟨[shL], []⟩, outs := [⟨[shL], []⟩], run := fun p k => (copyi_S N p.1.1).bind fun r => k ((r, ()), ()) }
theorem sp_copyi_ok (N : Nat) : SpecOK Try.prog (sp_copyi N) := fn_sound (B := copyi_B) (loops := []) (leaves := []) (fun p => copyi_S N p.1.1) (fun r => ((r, ()), ())) copyi_rt (fun _ _ _ => rfl) (fun r z h => by cases h; rfl) Try.func23 (by kernel_rfl) (by kernel_rfl) (by kernel_rfl) rfl rfl (by kernel_rfl) (fun args w => Sem.pv_run _ _ _ (by kernel_rfl) w) (copyi_all N) mixed trivial (fun z E Xc hE hX hret => trivial) (fun p => copyi_eq N p.1.1)

def copyr_l1 (N : Nat) : Nat → Ll → Int → Int → Ll → Option Ll
  | 0, _, _, _, _ => none
  | n_ + 1, u, u2, u3, out =>
    br (decide (u3 < u2))
      (idx u u3 fun x_1 =>
      (copyi_S N x_1).bind fun x_2 =>
      rng u3 out.length <|
      get out u3.toNat fun _ =>
      chk (u3 + 1) <|
      copyr_l1 N n_ u u2 (u3 + 1) (out.set u3.toNat x_2))
      (some (out))
def copyr_S (N : Nat) (l : Ll) : Option Ll :=
  grd (lmI (l.length : Int)) <|
  (copyr_l1 N N l (l.length : Int) 0 (List.replicate (l.length : Int).toNat ([] : Li))).bind fun out_4 =>
  some out_4
noncomputable def copyr_sp (N : Nat) : List Spec := [sp_copyi N]
theorem copyr_all (N : Nat) : AllP (SpecOK Try.prog) (copyr_sp N) := ⟨sp_copyi_ok N, trivial⟩
noncomputable def copyr_c : Code := (Try.f80.body).getD .skip
noncomputable abbrev copyr_B : Body := { c := copyr_c, n := 23, res := [.tmp 2], outs := [⟨[shQ], []⟩], m0 := 0 }
abbrev copyr_rt : altD copyr_B.outs → Option Ll := fun r => some r.1.1
abbrev copyr_l1_at : List PI := [.c [1, 1, 0, 1, 0, 0, 0], .c [1, 1, 0, 1, 0, 0, 1], .l [1, 1, 0, 1, 0, 0], .b 0, .c [1, 1, 1]]
abbrev copyr_l1_st : Sta := ⟨[3, 9, 10, 11], ⟨[.ols 0, shQ, shI, shI], [.lst (.sl (.int .i64))]⟩⟩
abbrev copyr_l1_h (rec : Ll → Int → Int → Ll → Option Ll) : Leaf Ll := ⟨copyr_l1_at, copyr_l1_st, fun p => rec p.1.2.1 p.1.2.2.1 p.1.2.2.2.1 p.2.1⟩
abbrev copyr_l1_e0 : Leaf Ll := ⟨[.c [1, 1, 1, 0], .c [1, 1, 1, 1]], ⟨[3], ⟨[.ols 0], [.lst (.sl (.int .i64))]⟩⟩, fun p => some (p.2.1)⟩
noncomputable def copyr_l1_L (N : Nat) : LoopS := { at_ := copyr_l1_at, sta := copyr_l1_st, exits := [([.c [1, 1, 1, 0], .c [1, 1, 1, 1]], ⟨[3], ⟨[.ols 0], [.lst (.sl (.int .i64))]⟩⟩)], run := fun p k => (copyr_l1 N N p.1.2.1 p.1.2.2.1 p.1.2.2.2.1 p.2.1).bind fun e => k (.inl (((), ()), (e, ()))) }
theorem copyr_l1_eq (N n_ : Nat) (u : Ll) (u2 : Int) (u3 : Int) (out : Ll) : ev (Z := Ll) Try.prog (copyr_sp N) copyr_B [] [copyr_l1_h (copyr_l1 N n_), copyr_l1_e0] none 400 true copyr_l1_at (stL copyr_l1_st (((), u, u2, u3, ()), (out, ()))) (stH copyr_l1_st (((), u, u2, u3, ()), (out, ()))) = copyr_l1 N (n_ + 1) u u2 u3 out := by kernel_rfl
theorem copyr_l1_ok (N : Nat) {top : Bool} : LoopOK Try.prog copyr_B.c copyr_B.n copyr_B.m0 top (copyr_l1_L N) := loop_of_ev (Z := Ll) (N := N) (fun m p => copyr_l1 N m p.1.2.1 p.1.2.2.1 p.1.2.2.2.1 p.2.1) (fun e => .inl (((), ()), (e, ()))) (fun _ _ _ => rfl) (fun _ => rfl) (fun m z E Xc hE hX hrec hx => leaf_of_ev (B := copyr_B) (loops := []) (leaves := [copyr_l1_h (copyr_l1 N m), copyr_l1_e0]) (copyr_all N) mixed trivial hE hX ⟨hrec, (fun p hp => by obtain rfl := Option.some.inj hp; exact hx), trivial⟩ RetOK.no (fun p => copyr_l1_eq N m p.1.2.1 p.1.2.2.1 p.1.2.2.2.1 p.2.1))
abbrev copyr_st : Sta := ⟨[0], ⟨[shQ], []⟩⟩
theorem copyr_eq (N : Nat) (l : Ll) : ev (Z := Ll) Try.prog (copyr_sp N) copyr_B [copyr_l1_L N] [] (some copyr_rt) 400 false [.c [0], .c [1]] (stL copyr_st ((l, ()), ())) (stH copyr_st ((l, ()), ())) = copyr_S N l := by kernel_rfl
noncomputable def sp_copyr (N : Nat) : Spec := { f := 80, ins := ⟨[shQ], []⟩, outs := [⟨[shQ], []⟩], run := fun p k => (copyr_S N p.1.1).bind fun r => k ((r, ()), ()) }
theorem sp_copyr_ok (N : Nat) : SpecOK Try.prog (sp_copyr N) := fn_sound (B := copyr_B) (loops := [copyr_l1_L N]) (leaves := []) (fun p => copyr_S N p.1.1) (fun r => ((r, ()), ())) copyr_rt (fun _ _ _ => rfl) (fun r z h => by cases h; rfl) Try.func80 (by kernel_rfl) (by kernel_rfl) (by kernel_rfl) rfl rfl (by kernel_rfl) (fun args w => Sem.pv_run _ _ _ (by kernel_rfl) w) (copyr_all N) mixed ⟨copyr_l1_ok N, trivial⟩ (fun z E Xc hE hX hret => trivial) (fun p => copyr_eq N p.1.1)

def copyd_S (N : Nat) (d : Li) (d2 : Int) (d3 : Ll) (d4 : Ll) (d5 : Li) : Option (Li × Int × Ll × Ll × Li) :=
  (copyi_S N d).bind fun x_1 =>
  (copyr_S N d3).bind fun x_2 =>
  (copyr_S N d4).bind fun x_3 =>
  (copyi_S N d5).bind fun x_4 =>
  some (x_1, d2, x_2, x_3, x_4)
noncomputable def copyd_sp (N : Nat) : List Spec := [sp_copyi N, sp_copyr N]
theorem copyd_all (N : Nat) : AllP (SpecOK Try.prog) (copyd_sp N) := ⟨sp_copyi_ok N, sp_copyr_ok N, trivial⟩
noncomputable def copyd_c : Code := (Try.f27.body).getD .skip
noncomputable abbrev copyd_B : Body := { c := copyd_c, n := 18, res := [.cell 2 26], outs := [⟨[shG], []⟩], m0 := 0 }
abbrev copyd_rt : altD copyd_B.outs → Option (Li × Int × Ll × Ll × Li) := fun r => some (r.1.1.1, r.1.1.2.1, r.1.1.2.2.1, r.1.1.2.2.2.1, r.1.1.2.2.2.2.1)
abbrev copyd_st : Sta := ⟨[0], ⟨[shG], []⟩⟩
theorem copyd_eq (N : Nat) (d : Li) (d2 : Int) (d3 : Ll) (d4 : Ll) (d5 : Li) : ev (Z := Li × Int × Ll × Ll × Li) Try.prog (copyd_sp N) copyd_B [] [] (some copyd_rt) 400 false [.c [0], .c [1]] (stL copyd_st (((d, d2, d3, d4, d5, ()), ()), ())) (stH copyd_st (((d, d2, d3, d4, d5, ()), ()), ())) = copyd_S N d d2 d3 d4 d5 := by kernel_rfl
noncomputable def sp_copyd (N : Nat) : Spec := { f := 27, ins := ⟨[shG], []⟩, outs := [⟨[shG], []⟩], run := fun p k => (copyd_S N p.1.1.1 p.1.1.2.1 p.1.1.2.2.1 p.1.1.2.2.2.1 p.1.1.2.2.2.2.1).bind fun r => k (((r.1, r.2.1, r.2.2.1, r.2.2.2.1, r.2.2.2.2, ()), ()), ()) }
theorem sp_copyd_ok (N : Nat) : SpecOK Try.prog (sp_copyd N) := fn_sound (B := copyd_B) (loops := []) (leaves := []) (fun p => copyd_S N p.1.1.1 p.1.1.2.1 p.1.1.2.2.1 p.1.1.2.2.2.1 p.1.1.2.2.2.2.1) (fun r => (((r.1, r.2.1, r.2.2.1, r.2.2.2.1, r.2.2.2.2, ()), ()), ())) copyd_rt (fun _ _ _ => rfl) (fun r z h => by cases h; rfl) Try.func27 (by kernel_rfl) (by kernel_rfl) (by kernel_rfl) rfl rfl (by kernel_rfl) (fun args w => Sem.pv_run _ _ _ (by kernel_rfl) w) (copyd_all N) mixed trivial (fun z E Xc hE hX hret => trivial) (fun p => copyd_eq N p.1.1.1 p.1.1.2.1 p.1.1.2.2.1 p.1.1.2.2.2.1 p.1.1.2.2.2.2.1)

def equalf_l1 (N : Nat) : Nat → Ll → Ll → Int → Int → Option ((Unit) ⊕ (Unit))
  | 0, _, _, _, _ => none
  | n_ + 1, s2, u, u2, u3 =>
    br (decide (u3 < u2))
      (idx u u3 fun x_1 =>
      idx s2 u3 fun x_2 =>
      (equali_S N x_1 x_2).bind fun x_3 =>
      br (!x_3)
        (some (.inl ()))
        (chk (u3 + 1) <|
        equalf_l1 N n_ s2 u u2 (u3 + 1)))
      (some (.inr ()))
def equalf_S (N : Nat) (s1 : Ll) (s2 : Ll) : Option Bool :=
  br (!decide ((s1.length : Int) = (s2.length : Int)))
    (some false)
    ((equalf_l1 N N s2 s1 (s1.length : Int) 0).bind fun e => match e with
    | .inl _ =>
      some false
    | .inr _ =>
      some true)
noncomputable def equalf_sp (N : Nat) : List Spec := [sp_equali N]
theorem equalf_all (N : Nat) : AllP (SpecOK Try.prog) (equalf_sp N) := ⟨sp_equali_ok N, trivial⟩
noncomputable def equalf_c : Code := (Try.f119.body).getD .skip
noncomputable abbrev equalf_B : Body := { c := equalf_c, n := 32, res := [.tmp 6], outs := [⟨[.b], []⟩], m0 := 0 }
abbrev equalf_rt : altD equalf_B.outs → Option Bool := fun r => some r.1.1
abbrev equalf_l1_at : List PI := [.c [1, 1, 0, 1, 0, 0, 0], .c [1, 1, 0, 1, 0, 0, 1], .l [1, 1, 0, 1, 0, 0], .b 0, .c [1, 1, 1]]
abbrev equalf_l1_st : Sta := ⟨[1, 2, 15, 16, 17], ⟨[shQ, .fn 97 [] [], shQ, shI, shI], []⟩⟩
abbrev equalf_l1_h (rec : Ll → Ll → Int → Int → Option ((Unit) ⊕ (Unit))) : Leaf ((Unit) ⊕ (Unit)) := ⟨equalf_l1_at, equalf_l1_st, fun p => rec p.1.1 p.1.2.2.1 p.1.2.2.2.1 p.1.2.2.2.2.1⟩
abbrev equalf_l1_e0 : Leaf ((Unit) ⊕ (Unit)) := ⟨[.c [1, 1, 0, 1, 0, 0, 1, 1, 0, 0, 1, 1, 1, 0, 0], .c [1, 1, 0, 1, 0, 0, 1, 1, 0, 0, 1, 1, 1, 0, 1], .b 1, .c [1, 1, 0, 1, 0, 0, 1, 1, 1], .l [1, 1, 0, 1, 0, 0], .b 0, .c [1, 1, 1]], ⟨[], ⟨[], []⟩⟩, fun p => some (.inl ())⟩
abbrev equalf_l1_e1 : Leaf ((Unit) ⊕ (Unit)) := ⟨[.c [1, 1, 1, 0], .c [1, 1, 1, 1]], ⟨[], ⟨[], []⟩⟩, fun p => some (.inr ())⟩
noncomputable def equalf_l1_L (N : Nat) : LoopS := { at_ := equalf_l1_at, sta := equalf_l1_st, exits := [([.c [1, 1, 0, 1, 0, 0, 1, 1, 0, 0, 1, 1, 1, 0, 0], .c [1, 1, 0, 1, 0, 0, 1, 1, 0, 0, 1, 1, 1, 0, 1], .b 1, .c [1, 1, 0, 1, 0, 0, 1, 1, 1], .l [1, 1, 0, 1, 0, 0], .b 0, .c [1, 1, 1]], ⟨[], ⟨[], []⟩⟩), ([.c [1, 1, 1, 0], .c [1, 1, 1, 1]], ⟨[], ⟨[], []⟩⟩)], run := fun p k => (equalf_l1 N N p.1.1 p.1.2.2.1 p.1.2.2.2.1 p.1.2.2.2.2.1).bind fun e => match e with | .inl x => k (.inl ((), ())) | .inr x => k (.inr (.inl ((), ()))) }
theorem equalf_l1_eq (N n_ : Nat) (s2 : Ll) (u : Ll) (u2 : Int) (u3 : Int) : ev (Z := (Unit) ⊕ (Unit)) Try.prog (equalf_sp N) equalf_B [] [equalf_l1_h (equalf_l1 N n_), equalf_l1_e0, equalf_l1_e1] none 400 true equalf_l1_at (stL equalf_l1_st ((s2, ((), ()), u, u2, u3, ()), ())) (stH equalf_l1_st ((s2, ((), ()), u, u2, u3, ()), ())) = equalf_l1 N (n_ + 1) s2 u u2 u3 := by kernel_rfl
theorem equalf_l1_ok (N : Nat) {top : Bool} : LoopOK Try.prog equalf_B.c equalf_B.n equalf_B.m0 top (equalf_l1_L N) := loop_of_ev (Z := (Unit) ⊕ (Unit)) (N := N) (fun m p => equalf_l1 N m p.1.1 p.1.2.2.1 p.1.2.2.2.1 p.1.2.2.2.2.1) (fun e => match e with | .inl x => .inl ((), ()) | .inr x => .inr (.inl ((), ()))) (fun _ p k => bind_congr_ (equalf_l1 N N p.1.1 p.1.2.2.1 p.1.2.2.2.1 p.1.2.2.2.2.1) _ _ (fun e => by rcases e with x | x <;> rfl)) (fun _ => rfl) (fun m z E Xc hE hX hrec hx => leaf_of_ev (B := equalf_B) (loops := []) (leaves := [equalf_l1_h (equalf_l1 N m), equalf_l1_e0, equalf_l1_e1]) (equalf_all N) mixed trivial hE hX ⟨hrec, (fun p hp => by obtain rfl := Option.some.inj hp; exact hx), (fun p hp => by obtain rfl := Option.some.inj hp; exact hx), trivial⟩ RetOK.no (fun p => equalf_l1_eq N m p.1.1 p.1.2.2.1 p.1.2.2.2.1 p.1.2.2.2.2.1))
abbrev equalf_st : Sta := ⟨[0, 1, 2], ⟨[shQ, shQ, .fn 97 [] []], []⟩⟩
theorem equalf_eq (N : Nat) (s1 : Ll) (s2 : Ll) : ev (Z := Bool) Try.prog (equalf_sp N) equalf_B [equalf_l1_L N] [] (some equalf_rt) 400 false [.c [0], .c [1]] (stL equalf_st ((s1, s2, ((), ()), ()), ())) (stH equalf_st ((s1, s2, ((), ()), ()), ())) = equalf_S N s1 s2 := by kernel_rfl
noncomputable def sp_equalf (N : Nat) : Spec := { f := 119, ins := ⟨[shQ, shQ, .fn 97 [] []], []⟩, outs := [⟨[.b], []⟩], run := fun p k => (equalf_S N p.1.1 p.1.2.1).bind fun r => k ((r, ()), ()) }
theorem sp_equalf_ok (N : Nat) : SpecOK Try.prog (sp_equalf N) := fn_sound (B := equalf_B) (loops := [equalf_l1_L N]) (leaves := []) (fun p => equalf_S N p.1.1 p.1.2.1) (fun r => ((r, ()), ())) equalf_rt (fun _ _ _ => rfl) (fun r z h => by cases h; rfl) Try.func119 (by kernel_rfl) (by kernel_rfl) (by kernel_rfl) rfl rfl (by kernel_rfl) (fun args w => Sem.pv_run _ _ _ (by kernel_rfl) w) (equalf_all N) mixed ⟨equalf_l1_ok N, trivial⟩ (fun z E Xc hE hX hret => trivial) (fun p => equalf_eq N p.1.1 p.1.2.1)

def liker_S (N : Nat) (a : Ll) (b : Ll) : Option Bool :=
  (equalf_S N a b).bind fun x_1 =>
  some x_1
noncomputable def liker_sp (N : Nat) : List Spec := [sp_equalf N]
theorem liker_all (N : Nat) : AllP (SpecOK Try.prog) (liker_sp N) := ⟨sp_equalf_ok N, trivial⟩
noncomputable def liker_c : Code := (Try.f82.body).getD .skip
noncomputable abbrev liker_B : Body := { c := liker_c, n := 8, res := [.tmp 4], outs := [⟨[.b], []⟩], m0 := 0 }
abbrev liker_rt : altD liker_B.outs → Option Bool := fun r => some r.1.1
abbrev liker_st : Sta := ⟨[0, 1], ⟨[shQ, shQ], []⟩⟩
theorem liker_eq (N : Nat) (a : Ll) (b : Ll) : ev (Z := Bool) Try.prog (liker_sp N) liker_B [] [] (some liker_rt) 400 false [.c [0], .c [1]] (stL liker_st ((a, b, ()), ())) (stH liker_st ((a, b, ()), ())) = liker_S N a b := by kernel_rfl
noncomputable def sp_liker (N : Nat) : Spec := { f := 82, ins := ⟨[shQ, shQ], []⟩, outs := [⟨[.b], []⟩], run := fun p k => (liker_S N p.1.1 p.1.2.1).bind fun r => k ((r, ()), ()) }
theorem sp_liker_ok (N : Nat) : SpecOK Try.prog (sp_liker N) := fn_sound (B := liker_B) (loops := []) (leaves := []) (fun p => liker_S N p.1.1 p.1.2.1) (fun r => ((r, ()), ())) liker_rt (fun _ _ _ => rfl) (fun r z h => by cases h; rfl) Try.func82 (by kernel_rfl) (by kernel_rfl) (by kernel_rfl) rfl rfl (by kernel_rfl) (fun args w => Sem.pv_run _ _ _ (by kernel_rfl) w) (liker_all N) mixed trivial (fun z E Xc hE hX hret => trivial) (fun p => liker_eq N p.1.1 p.1.2.1)

def same_S (N : Nat) (a : Li) (a2 : Int) (a3 : Ll) (a4 : Ll) (a5 : Li) (b : Li) (b2 : Int) (b3 : Ll) (b4 : Ll) (b5 : Li) : Option Bool :=
  (likei_S N a b).bind fun x_1 =>
  br x_1
    (br (decide (a2 = b2))
      ((liker_S N a3 b3).bind fun x_2 =>
      br x_2
        ((liker_S N a4 b4).bind fun x_3 =>
        br x_3
          ((likei_S N a5 b5).bind fun x_4 =>
          some x_4)
          (some false))
        (some false))
      (some false))
    (some false)
noncomputable def same_sp (N : Nat) : List Spec := [sp_likei N, sp_liker N]
theorem same_all (N : Nat) : AllP (SpecOK Try.prog) (same_sp N) := ⟨sp_likei_ok N, sp_liker_ok N, trivial⟩
noncomputable def same_c : Code := (Try.f30.body).getD .skip
noncomputable abbrev same_B : Body := { c := same_c, n := 38, res := [.tmp 4], outs := [⟨[.b], []⟩], m0 := 0 }
abbrev same_rt : altD same_B.outs → Option Bool := fun r => some r.1.1
abbrev same_st : Sta := ⟨[0, 1], ⟨[shG, shG], []⟩⟩
theorem same_eq (N : Nat) (a : Li) (a2 : Int) (a3 : Ll) (a4 : Ll) (a5 : Li) (b : Li) (b2 : Int) (b3 : Ll) (b4 : Ll) (b5 : Li) : ev (Z := Bool) Try.prog (same_sp N) same_B [] [] (some same_rt) 400 false [.c [0], .c [1]] (stL same_st (((a, a2, a3, a4, a5, ()), (b, b2, b3, b4, b5, ()), ()), ())) (stH same_st (((a, a2, a3, a4, a5, ()), (b, b2, b3, b4, b5, ()), ()), ())) = same_S N a a2 a3 a4 a5 b b2 b3 b4 b5 := by kernel_rfl
noncomputable def sp_same (N : Nat) : Spec := { f := 30, ins := ⟨[shG, shG], []⟩, outs := [⟨[.b], []⟩], run := fun p k => (same_S N p.1.1.1 p.1.1.2.1 p.1.1.2.2.1 p.1.1.2.2.2.1 p.1.1.2.2.2.2.1 p.1.2.1.1 p.1.2.1.2.1 p.1.2.1.2.2.1 p.1.2.1.2.2.2.1 p.1.2.1.2.2.2.2.1).bind fun r => k ((r, ()), ()) }
theorem sp_same_ok (N : Nat) : SpecOK Try.prog (sp_same N) := fn_sound (B := same_B) (loops := []) (leaves := []) (fun p => same_S N p.1.1.1 p.1.1.2.1 p.1.1.2.2.1 p.1.1.2.2.2.1 p.1.1.2.2.2.2.1 p.1.2.1.1 p.1.2.1.2.1 p.1.2.1.2.2.1 p.1.2.1.2.2.2.1 p.1.2.1.2.2.2.2.1) (fun r => ((r, ()), ())) same_rt (fun _ _ _ => rfl) (fun r z h => by cases h; rfl) Try.func30 (by kernel_rfl) (by kernel_rfl) (by kernel_rfl) rfl rfl (by kernel_rfl) (fun args w => Sem.pv_run _ _ _ (by kernel_rfl) w) (same_all N) mixed trivial (fun z E Xc hE hX hret => trivial) (fun p => same_eq N p.1.1.1 p.1.1.2.1 p.1.1.2.2.1 p.1.1.2.2.2.1 p.1.1.2.2.2.2.1 p.1.2.1.1 p.1.2.1.2.1 p.1.2.1.2.2.1 p.1.2.1.2.2.2.1 p.1.2.1.2.2.2.2.1)

def great_l2 (N : Nat) : Nat → Int → Int → Ll → Int → Int → (List Ll) → Option ((Unit) ⊕ (Int × Int × List Ll))
  | 0, _, _, _, _, _, _ => none
  | n_ + 1, u, u2, u3, u4, u5, g =>
    br (decide (u5 < u4))
      (idx u3 u5 fun x_2 =>
      br (decide (12 < (x_2.length : Int)))
        (some (.inl ()))
        (chk (u5 + 1) <|
        great_l2 N n_ u u2 u3 u4 (u5 + 1) g))
      (some (.inr (u, u2, g)))
def great_l1 (N : Nat) : Nat → Int → Int → (List Ll) → Option ((Unit) ⊕ (Unit))
  | 0, _, _, _ => none
  | n_ + 1, u, u2, g =>
    br (decide (u2 < u))
      (rng u2 g.length <|
      get g u2.toNat fun x_1 =>
      (great_l2 N N u u2 x_1 (x_1.length : Int) 0 g).bind fun e => match e with
      | .inl _ =>
        some (.inl ())
      | .inr (u_3, u2_4, g_5) =>
        chk (u2_4 + 1) <|
        great_l1 N n_ u_3 (u2_4 + 1) g_5)
      (some (.inr ()))
def great_S (N : Nat) (d : Li) (d2 : Int) (d3 : Ll) (d4 : Ll) (d5 : Li) : Option Bool :=
  br (decide (10 < (d.length : Int)))
    (some true)
    (br (decide (10 < (d3.length : Int)))
      (some true)
      (br (decide (10 < (d4.length : Int)))
        (some true)
        (br (decide (12 < (d5.length : Int)))
          (some true)
          ((great_l1 N N ([d3, d4].length : Int) 0 [d3, d4]).bind fun e => match e with
          | .inl _ =>
            some true
          | .inr _ =>
            some false))))
noncomputable def great_sp (N : Nat) : List Spec := []
theorem great_all (N : Nat) : AllP (SpecOK Try.prog) (great_sp N) := trivial
noncomputable def great_c : Code := (Try.f25.body).getD .skip
noncomputable abbrev great_B : Body := { c := great_c, n := 50, res := [.tmp 2], outs := [⟨[.b], []⟩], m0 := 0 }
abbrev great_rt : altD great_B.outs → Option Bool := fun r => some r.1.1
abbrev great_l2_at : List PI := [.c [1, 1, 0, 1, 0, 0, 1, 1, 0, 0, 1, 1, 0, 0, 0], .c [1, 1, 0, 1, 0, 0, 1, 1, 0, 0, 1, 1, 0, 0, 1], .l [1, 1, 0, 1, 0, 0, 1, 1, 0, 0, 1, 1, 0, 0], .b 2, .b 1, .c [1, 1, 0, 1, 0, 0, 1, 1, 1], .l [1, 1, 0, 1, 0, 0], .b 0, .c [1, 1, 1]]
abbrev great_l2_st : Sta := ⟨[33, 34, 35, 39, 40, 41], ⟨[.ols 0, shI, shI, shQ, shI, shI], [.lst (.sl (.sl (.int .i64)))]⟩⟩
abbrev great_l2_h (rec : Int → Int → Ll → Int → Int → (List Ll) → Option ((Unit) ⊕ (Int × Int × List Ll))) : Leaf ((Unit) ⊕ (Int × Int × List Ll)) := ⟨great_l2_at, great_l2_st, fun p => rec p.1.2.1 p.1.2.2.1 p.1.2.2.2.1 p.1.2.2.2.2.1 p.1.2.2.2.2.2.1 p.2.1⟩
abbrev great_l2_e0 : Leaf ((Unit) ⊕ (Int × Int × List Ll)) := ⟨[.c [1, 1, 0, 1, 0, 0, 1, 1, 0, 0, 1, 1, 0, 0, 1, 1, 0, 0, 1, 1, 0, 0], .c [1, 1, 0, 1, 0, 0, 1, 1, 0, 0, 1, 1, 0, 0, 1, 1, 0, 0, 1, 1, 0, 1], .b 3, .c [1, 1, 0, 1, 0, 0, 1, 1, 0, 0, 1, 1, 0, 0, 1, 1, 1], .l [1, 1, 0, 1, 0, 0, 1, 1, 0, 0, 1, 1, 0, 0], .b 2, .b 1, .c [1, 1, 0, 1, 0, 0, 1, 1, 1], .l [1, 1, 0, 1, 0, 0], .b 0, .c [1, 1, 1]], ⟨[], ⟨[], []⟩⟩, fun p => some (.inl ())⟩
abbrev great_l2_e1 : Leaf ((Unit) ⊕ (Int × Int × List Ll)) := ⟨[.c [1, 1, 0, 1, 0, 0, 1, 1, 1], .l [1, 1, 0, 1, 0, 0], .b 0, .c [1, 1, 1]], ⟨[33, 34, 35], ⟨[.ols 0, shI, shI], [.lst (.sl (.sl (.int .i64)))]⟩⟩, fun p => some (.inr (p.1.2.1, p.1.2.2.1, p.2.1))⟩
noncomputable def great_l2_L (N : Nat) : LoopS := { at_ := great_l2_at, sta := great_l2_st, exits := [([.c [1, 1, 0, 1, 0, 0, 1, 1, 0, 0, 1, 1, 0, 0, 1, 1, 0, 0, 1, 1, 0, 0], .c [1, 1, 0, 1, 0, 0, 1, 1, 0, 0, 1, 1, 0, 0, 1, 1, 0, 0, 1, 1, 0, 1], .b 3, .c [1, 1, 0, 1, 0, 0, 1, 1, 0, 0, 1, 1, 0, 0, 1, 1, 1], .l [1, 1, 0, 1, 0, 0, 1, 1, 0, 0, 1, 1, 0, 0], .b 2, .b 1, .c [1, 1, 0, 1, 0, 0, 1, 1, 1], .l [1, 1, 0, 1, 0, 0], .b 0, .c [1, 1, 1]], ⟨[], ⟨[], []⟩⟩), ([.c [1, 1, 0, 1, 0, 0, 1, 1, 1], .l [1, 1, 0, 1, 0, 0], .b 0, .c [1, 1, 1]], ⟨[33, 34, 35], ⟨[.ols 0, shI, shI], [.lst (.sl (.sl (.int .i64)))]⟩⟩)], run := fun p k => (great_l2 N N p.1.2.1 p.1.2.2.1 p.1.2.2.2.1 p.1.2.2.2.2.1 p.1.2.2.2.2.2.1 p.2.1).bind fun e => match e with | .inl x => k (.inl ((), ())) | .inr x => k (.inr (.inl (((), x.1, x.2.1, ()), (x.2.2, ())))) }
theorem great_l2_eq (N n_ : Nat) (u : Int) (u2 : Int) (u3 : Ll) (u4 : Int) (u5 : Int) (g : List Ll) : ev (Z := (Unit) ⊕ (Int × Int × List Ll)) Try.prog (great_sp N) great_B [] [great_l2_h (great_l2 N n_), great_l2_e0, great_l2_e1] none 400 true great_l2_at (stL great_l2_st (((), u, u2, u3, u4, u5, ()), (g, ()))) (stH great_l2_st (((), u, u2, u3, u4, u5, ()), (g, ()))) = great_l2 N (n_ + 1) u u2 u3 u4 u5 g := by kernel_rfl
theorem great_l2_ok (N : Nat) {top : Bool} : LoopOK Try.prog great_B.c great_B.n great_B.m0 top (great_l2_L N) := loop_of_ev (Z := (Unit) ⊕ (Int × Int × List Ll)) (N := N) (fun m p => great_l2 N m p.1.2.1 p.1.2.2.1 p.1.2.2.2.1 p.1.2.2.2.2.1 p.1.2.2.2.2.2.1 p.2.1) (fun e => match e with | .inl x => .inl ((), ()) | .inr x => .inr (.inl (((), x.1, x.2.1, ()), (x.2.2, ())))) (fun _ p k => bind_congr_ (great_l2 N N p.1.2.1 p.1.2.2.1 p.1.2.2.2.1 p.1.2.2.2.2.1 p.1.2.2.2.2.2.1 p.2.1) _ _ (fun e => by rcases e with x | x <;> rfl)) (fun _ => rfl) (fun m z E Xc hE hX hrec hx => leaf_of_ev (B := great_B) (loops := []) (leaves := [great_l2_h (great_l2 N m), great_l2_e0, great_l2_e1]) (great_all N) mixed trivial hE hX ⟨hrec, (fun p hp => by obtain rfl := Option.some.inj hp; exact hx), (fun p hp => by obtain rfl := Option.some.inj hp; exact hx), trivial⟩ RetOK.no (fun p => great_l2_eq N m p.1.2.1 p.1.2.2.1 p.1.2.2.2.1 p.1.2.2.2.2.1 p.1.2.2.2.2.2.1 p.2.1))
abbrev great_l1_at : List PI := [.c [1, 1, 0, 1, 0, 0, 0], .c [1, 1, 0, 1, 0, 0, 1], .l [1, 1, 0, 1, 0, 0], .b 0, .c [1, 1, 1]]
abbrev great_l1_st : Sta := ⟨[33, 34, 35], ⟨[.ols 0, shI, shI], [.lst (.sl (.sl (.int .i64)))]⟩⟩
abbrev great_l1_h (rec : Int → Int → (List Ll) → Option ((Unit) ⊕ (Unit))) : Leaf ((Unit) ⊕ (Unit)) := ⟨great_l1_at, great_l1_st, fun p => rec p.1.2.1 p.1.2.2.1 p.2.1⟩
abbrev great_l1_e0 : Leaf ((Unit) ⊕ (Unit)) := ⟨[.c [1, 1, 0, 1, 0, 0, 1, 1, 0, 0, 1, 1, 0, 0, 1, 1, 0, 0, 1, 1, 0, 0], .c [1, 1, 0, 1, 0, 0, 1, 1, 0, 0, 1, 1, 0, 0, 1, 1, 0, 0, 1, 1, 0, 1], .b 3, .c [1, 1, 0, 1, 0, 0, 1, 1, 0, 0, 1, 1, 0, 0, 1, 1, 1], .l [1, 1, 0, 1, 0, 0, 1, 1, 0, 0, 1, 1, 0, 0], .b 2, .b 1, .c [1, 1, 0, 1, 0, 0, 1, 1, 1], .l [1, 1, 0, 1, 0, 0], .b 0, .c [1, 1, 1]], ⟨[], ⟨[], []⟩⟩, fun p => some (.inl ())⟩
abbrev great_l1_e1 : Leaf ((Unit) ⊕ (Unit)) := ⟨[.c [1, 1, 1, 0], .c [1, 1, 1, 1]], ⟨[], ⟨[], []⟩⟩, fun p => some (.inr ())⟩
noncomputable def great_l1_L (N : Nat) : LoopS := { at_ := great_l1_at, sta := great_l1_st, exits := [([.c [1, 1, 0, 1, 0, 0, 1, 1, 0, 0, 1, 1, 0, 0, 1, 1, 0, 0, 1, 1, 0, 0], .c [1, 1, 0, 1, 0, 0, 1, 1, 0, 0, 1, 1, 0, 0, 1, 1, 0, 0, 1, 1, 0, 1], .b 3, .c [1, 1, 0, 1, 0, 0, 1, 1, 0, 0, 1, 1, 0, 0, 1, 1, 1], .l [1, 1, 0, 1, 0, 0, 1, 1, 0, 0, 1, 1, 0, 0], .b 2, .b 1, .c [1, 1, 0, 1, 0, 0, 1, 1, 1], .l [1, 1, 0, 1, 0, 0], .b 0, .c [1, 1, 1]], ⟨[], ⟨[], []⟩⟩), ([.c [1, 1, 1, 0], .c [1, 1, 1, 1]], ⟨[], ⟨[], []⟩⟩)], run := fun p k => (great_l1 N N p.1.2.1 p.1.2.2.1 p.2.1).bind fun e => match e with | .inl x => k (.inl ((), ())) | .inr x => k (.inr (.inl ((), ()))) }
theorem great_l1_eq (N n_ : Nat) (u : Int) (u2 : Int) (g : List Ll) : ev (Z := (Unit) ⊕ (Unit)) Try.prog (great_sp N) great_B [great_l2_L N] [great_l1_h (great_l1 N n_), great_l1_e0, great_l1_e1] none 400 true great_l1_at (stL great_l1_st (((), u, u2, ()), (g, ()))) (stH great_l1_st (((), u, u2, ()), (g, ()))) = great_l1 N (n_ + 1) u u2 g := by kernel_rfl
theorem great_l1_ok (N : Nat) {top : Bool} : LoopOK Try.prog great_B.c great_B.n great_B.m0 top (great_l1_L N) := loop_of_ev (Z := (Unit) ⊕ (Unit)) (N := N) (fun m p => great_l1 N m p.1.2.1 p.1.2.2.1 p.2.1) (fun e => match e with | .inl x => .inl ((), ()) | .inr x => .inr (.inl ((), ()))) (fun _ p k => bind_congr_ (great_l1 N N p.1.2.1 p.1.2.2.1 p.2.1) _ _ (fun e => by rcases e with x | x <;> rfl)) (fun _ => rfl) (fun m z E Xc hE hX hrec hx => leaf_of_ev (B := great_B) (loops := [great_l2_L N]) (leaves := [great_l1_h (great_l1 N m), great_l1_e0, great_l1_e1]) (great_all N) mixed ⟨great_l2_ok N, trivial⟩ hE hX ⟨hrec, (fun p hp => by obtain rfl := Option.some.inj hp; exact hx), (fun p hp => by obtain rfl := Option.some.inj hp; exact hx), trivial⟩ RetOK.no (fun p => great_l1_eq N m p.1.2.1 p.1.2.2.1 p.2.1))
abbrev great_st : Sta := ⟨[0], ⟨[shG], []⟩⟩
theorem great_eq (N : Nat) (d : Li) (d2 : Int) (d3 : Ll) (d4 : Ll) (d5 : Li) : ev (Z := Bool) Try.prog (great_sp N) great_B [great_l2_L N, great_l1_L N] [] (some great_rt) 400 false [.c [0], .c [1]] (stL great_st (((d, d2, d3, d4, d5, ()), ()), ())) (stH great_st (((d, d2, d3, d4, d5, ()), ()), ())) = great_S N d d2 d3 d4 d5 := by kernel_rfl
noncomputable def sp_great (N : Nat) : Spec := { f := 25, ins := ⟨[shG], []⟩, outs := [⟨[.b], []⟩], run := fun p k => (great_S N p.1.1.1 p.1.1.2.1 p.1.1.2.2.1 p.1.1.2.2.2.1 p.1.1.2.2.2.2.1).bind fun r => k ((r, ()), ()) }
theorem sp_great_ok (N : Nat) : SpecOK Try.prog (sp_great N) := fn_sound (B := great_B) (loops := [great_l2_L N, great_l1_L N]) (leaves := []) (fun p => great_S N p.1.1.1 p.1.1.2.1 p.1.1.2.2.1 p.1.1.2.2.2.1 p.1.1.2.2.2.2.1) (fun r => ((r, ()), ())) great_rt (fun _ _ _ => rfl) (fun r z h => by cases h; rfl) Try.func25 (by kernel_rfl) (by kernel_rfl) (by kernel_rfl) rfl rfl (by kernel_rfl) (fun args w => Sem.pv_run _ _ _ (by kernel_rfl) w) (great_all N) mixed ⟨great_l2_ok N, great_l1_ok N, trivial⟩ (fun z E Xc hE hX hret => trivial) (fun p => great_eq N p.1.1.1 p.1.1.2.1 p.1.1.2.2.1 p.1.1.2.2.2.1 p.1.1.2.2.2.2.1)

def off_S (N : Nat) (n : Int) (lo : Int) (hi : Int) : Option Bool :=
  br (decide (n < lo))
    (some true)
    (some (decide (hi < n)))
noncomputable def off_sp (N : Nat) : List Spec := []
theorem off_all (N : Nat) : AllP (SpecOK Try.prog) (off_sp N) := trivial
noncomputable def off_c : Code := (Try.f85.body).getD .skip
noncomputable abbrev off_B : Body := { c := off_c, n := 15, res := [.tmp 6], outs := [⟨[.b], []⟩], m0 := 0 }
abbrev off_rt : altD off_B.outs → Option Bool := fun r => some r.1.1
abbrev off_st : Sta := ⟨[0, 1, 2], ⟨[shI, shI, shI], []⟩⟩
theorem off_eq (N : Nat) (n : Int) (lo : Int) (hi : Int) : ev (Z := Bool) Try.prog (off_sp N) off_B [] [] (some off_rt) 400 false [.c [0], .c [1]] (stL off_st ((n, lo, hi, ()), ())) (stH off_st ((n, lo, hi, ()), ())) = off_S N n lo hi := by kernel_rfl
noncomputable def sp_off (N : Nat) : Spec := { f := 85, ins := ⟨[shI, shI, shI], []⟩, outs := [⟨[.b], []⟩], run := fun p k => (off_S N p.1.1 p.1.2.1 p.1.2.2.1).bind fun r => k ((r, ()), ()) }
theorem sp_off_ok (N : Nat) : SpecOK Try.prog (sp_off N) := fn_sound (B := off_B) (loops := []) (leaves := []) (fun p => off_S N p.1.1 p.1.2.1 p.1.2.2.1) (fun r => ((r, ()), ())) off_rt (fun _ _ _ => rfl) (fun r z h => by cases h; rfl) Try.func85 (by kernel_rfl) (by kernel_rfl) (by kernel_rfl) rfl rfl (by kernel_rfl) (fun args w => Sem.pv_run _ _ _ (by kernel_rfl) w) (off_all N) mixed trivial (fun z E Xc hE hX hret => trivial) (fun p => off_eq N p.1.1 p.1.2.1 p.1.2.2.1)

def described_l1 (N : Nat) : Nat → Ll → Int → Li → Int → Ll → Ll → Li → Option ((Unit) ⊕ (Unit))
  | 0, _, _, _, _, _, _, _ => none
  | n_ + 1, l, i, d, d2, d3, d4, d5 =>
    br (decide (i < (l.length : Int)))
      (idx l i fun x_1 =>
      br (!decide ((x_1.length : Int) = (d.length : Int)))
        (some (.inl ()))
        (chk (i + 1) <|
        described_l1 N n_ l (i + 1) d d2 d3 d4 d5))
      (some (.inr ()))
def described_S (N : Nat) (d : Li) (d2 : Int) (d3 : Ll) (d4 : Ll) (d5 : Li) (l : Ll) : Option Bool :=
  (described_l1 N N l 0 d d2 d3 d4 d5).bind fun e => match e with
  | .inl _ =>
    some false
  | .inr _ =>
    some true
noncomputable def described_sp (N : Nat) : List Spec := []
theorem described_all (N : Nat) : AllP (SpecOK Try.prog) (described_sp N) := trivial
noncomputable def described_c : Code := (Try.f100.body).getD .skip
noncomputable abbrev described_B : Body := { c := described_c, n := 21, res := [.tmp 4], outs := [⟨[.b], []⟩], m0 := 0 }
abbrev described_rt : altD described_B.outs → Option Bool := fun r => some r.1.1
abbrev described_l1_at : List PI := [.c [1, 0, 1, 0, 0, 0, 0], .c [1, 0, 1, 0, 0, 0, 1], .c [1, 0, 1, 0, 0, 1], .l [1, 0, 1, 0, 0], .b 0, .c [1, 1]]
abbrev described_l1_st : Sta := ⟨[1, 2, 5], ⟨[shQ, .own 0 0, shI], [.segs [shL, shI, shQ, shQ, shL]]⟩⟩
abbrev described_l1_h (rec : Ll → Int → Li → Int → Ll → Ll → Li → Option ((Unit) ⊕ (Unit))) : Leaf ((Unit) ⊕ (Unit)) := ⟨described_l1_at, described_l1_st, fun p => rec p.1.1 p.1.2.2.1 p.2.1.1 p.2.1.2.1 p.2.1.2.2.1 p.2.1.2.2.2.1 p.2.1.2.2.2.2.1⟩
abbrev described_l1_e0 : Leaf ((Unit) ⊕ (Unit)) := ⟨[.c [1, 0, 1, 0, 0, 1, 0, 0, 1, 0, 0], .c [1, 0, 1, 0, 0, 1, 0, 0, 1, 0, 1], .b 1, .c [1, 0, 1, 0, 0, 1, 1], .l [1, 0, 1, 0, 0], .b 0, .c [1, 1]], ⟨[], ⟨[], []⟩⟩, fun p => some (.inl ())⟩
abbrev described_l1_e1 : Leaf ((Unit) ⊕ (Unit)) := ⟨[.c [1, 1, 0], .c [1, 1, 1]], ⟨[], ⟨[], []⟩⟩, fun p => some (.inr ())⟩
noncomputable def described_l1_L (N : Nat) : LoopS := { at_ := described_l1_at, sta := described_l1_st, exits := [([.c [1, 0, 1, 0, 0, 1, 0, 0, 1, 0, 0], .c [1, 0, 1, 0, 0, 1, 0, 0, 1, 0, 1], .b 1, .c [1, 0, 1, 0, 0, 1, 1], .l [1, 0, 1, 0, 0], .b 0, .c [1, 1]], ⟨[], ⟨[], []⟩⟩), ([.c [1, 1, 0], .c [1, 1, 1]], ⟨[], ⟨[], []⟩⟩)], run := fun p k => (described_l1 N N p.1.1 p.1.2.2.1 p.2.1.1 p.2.1.2.1 p.2.1.2.2.1 p.2.1.2.2.2.1 p.2.1.2.2.2.2.1).bind fun e => match e with | .inl x => k (.inl ((), ())) | .inr x => k (.inr (.inl ((), ()))) }
theorem described_l1_eq (N n_ : Nat) (l : Ll) (i : Int) (d : Li) (d2 : Int) (d3 : Ll) (d4 : Ll) (d5 : Li) : ev (Z := (Unit) ⊕ (Unit)) Try.prog (described_sp N) described_B [] [described_l1_h (described_l1 N n_), described_l1_e0, described_l1_e1] none 400 true described_l1_at (stL described_l1_st ((l, (), i, ()), ((d, d2, d3, d4, d5, ()), ()))) (stH described_l1_st ((l, (), i, ()), ((d, d2, d3, d4, d5, ()), ()))) = described_l1 N (n_ + 1) l i d d2 d3 d4 d5 := by kernel_rfl
theorem described_l1_ok (N : Nat) {top : Bool} : LoopOK Try.prog described_B.c described_B.n described_B.m0 top (described_l1_L N) := loop_of_ev (Z := (Unit) ⊕ (Unit)) (N := N) (fun m p => described_l1 N m p.1.1 p.1.2.2.1 p.2.1.1 p.2.1.2.1 p.2.1.2.2.1 p.2.1.2.2.2.1 p.2.1.2.2.2.2.1) (fun e => match e with | .inl x => .inl ((), ()) | .inr x => .inr (.inl ((), ()))) (fun _ p k => bind_congr_ (described_l1 N N p.1.1 p.1.2.2.1 p.2.1.1 p.2.1.2.1 p.2.1.2.2.1 p.2.1.2.2.2.1 p.2.1.2.2.2.2.1) _ _ (fun e => by rcases e with x | x <;> rfl)) (fun _ => rfl) (fun m z E Xc hE hX hrec hx => leaf_of_ev (B := described_B) (loops := []) (leaves := [described_l1_h (described_l1 N m), described_l1_e0, described_l1_e1]) (described_all N) mixed trivial hE hX ⟨hrec, (fun p hp => by obtain rfl := Option.some.inj hp; exact hx), (fun p hp => by obtain rfl := Option.some.inj hp; exact hx), trivial⟩ RetOK.no (fun p => described_l1_eq N m p.1.1 p.1.2.2.1 p.2.1.1 p.2.1.2.1 p.2.1.2.2.1 p.2.1.2.2.2.1 p.2.1.2.2.2.2.1))
abbrev described_st : Sta := ⟨[0, 1], ⟨[shG, shQ], []⟩⟩
theorem described_eq (N : Nat) (d : Li) (d2 : Int) (d3 : Ll) (d4 : Ll) (d5 : Li) (l : Ll) : ev (Z := Bool) Try.prog (described_sp N) described_B [described_l1_L N] [] (some described_rt) 400 false [.c [0], .c [1]] (stL described_st (((d, d2, d3, d4, d5, ()), l, ()), ())) (stH described_st (((d, d2, d3, d4, d5, ()), l, ()), ())) = described_S N d d2 d3 d4 d5 l := by kernel_rfl
noncomputable def sp_described (N : Nat) : Spec := { f := 100, ins := ⟨[shG, shQ], []⟩, outs := [⟨[.b], []⟩], run := fun p k => (described_S N p.1.1.1 p.1.1.2.1 p.1.1.2.2.1 p.1.1.2.2.2.1 p.1.1.2.2.2.2.1 p.1.2.1).bind fun r => k ((r, ()), ()) }
theorem sp_described_ok (N : Nat) : SpecOK Try.prog (sp_described N) := fn_sound (B := described_B) (loops := [described_l1_L N]) (leaves := []) (fun p => described_S N p.1.1.1 p.1.1.2.1 p.1.1.2.2.1 p.1.1.2.2.2.1 p.1.1.2.2.2.2.1 p.1.2.1) (fun r => ((r, ()), ())) described_rt (fun _ _ _ => rfl) (fun r z h => by cases h; rfl) Try.func100 (by kernel_rfl) (by kernel_rfl) (by kernel_rfl) rfl rfl (by kernel_rfl) (fun args w => Sem.pv_run _ _ _ (by kernel_rfl) w) (described_all N) mixed ⟨described_l1_ok N, trivial⟩ (fun z E Xc hE hX hret => trivial) (fun p => described_eq N p.1.1.1 p.1.1.2.1 p.1.1.2.2.1 p.1.1.2.2.2.1 p.1.1.2.2.2.2.1 p.1.2.1)

def valued_l2 (N : Nat) : Nat → Ll → Int → Int → Option ((Unit) ⊕ (Ll × Int))
  | 0, _, _, _ => none
  | n_ + 1, l, i, t =>
    idx l i fun x_1 =>
    br (decide (t < (x_1.length : Int)))
      (idx l i fun x_2 =>
      idx x_2 t fun x_3 =>
      (off_S N x_3 (-1) 5).bind fun x_4 =>
      br x_4
        (some (.inl ()))
        (chk (t + 1) <|
        valued_l2 N n_ l i (t + 1)))
      (some (.inr (l, i)))
def valued_l1 (N : Nat) : Nat → Ll → Int → Option ((Unit) ⊕ (Unit))
  | 0, _, _ => none
  | n_ + 1, l, i =>
    br (decide (i < (l.length : Int)))
      ((valued_l2 N N l i 0).bind fun e => match e with
      | .inl _ =>
        some (.inl ())
      | .inr (l_5, i_6) =>
        chk (i_6 + 1) <|
        valued_l1 N n_ l_5 (i_6 + 1))
      (some (.inr ()))
def valued_S (N : Nat) (l : Ll) : Option Bool :=
  (valued_l1 N N l 0).bind fun e => match e with
  | .inl _ =>
    some false
  | .inr _ =>
    some true
noncomputable def valued_sp (N : Nat) : List Spec := [sp_off N]
theorem valued_all (N : Nat) : AllP (SpecOK Try.prog) (valued_sp N) := ⟨sp_off_ok N, trivial⟩
noncomputable def valued_c : Code := (Try.f101.body).getD .skip
noncomputable abbrev valued_B : Body := { c := valued_c, n := 28, res := [.tmp 2], outs := [⟨[.b], []⟩], m0 := 0 }
abbrev valued_rt : altD valued_B.outs → Option Bool := fun r => some r.1.1
abbrev valued_l2_at : List PI := [.c [1, 0, 1, 0, 0, 1, 0, 0, 1, 0, 0, 0, 0], .c [1, 0, 1, 0, 0, 1, 0, 0, 1, 0, 0, 0, 1], .c [1, 0, 1, 0, 0, 1, 0, 0, 1, 0, 0, 1], .l [1, 0, 1, 0, 0, 1, 0, 0, 1, 0, 0], .b 2, .b 1, .c [1, 0, 1, 0, 0, 1, 1], .l [1, 0, 1, 0, 0], .b 0, .c [1, 1]]
abbrev valued_l2_st : Sta := ⟨[0, 3, 4], ⟨[shQ, shI, shI], []⟩⟩
abbrev valued_l2_h (rec : Ll → Int → Int → Option ((Unit) ⊕ (Ll × Int))) : Leaf ((Unit) ⊕ (Ll × Int)) := ⟨valued_l2_at, valued_l2_st, fun p => rec p.1.1 p.1.2.1 p.1.2.2.1⟩
abbrev valued_l2_e0 : Leaf ((Unit) ⊕ (Ll × Int)) := ⟨[.c [1, 0, 1, 0, 0, 1, 0, 0, 1, 0, 0, 1, 0, 0, 1, 0, 0], .c [1, 0, 1, 0, 0, 1, 0, 0, 1, 0, 0, 1, 0, 0, 1, 0, 1], .b 3, .c [1, 0, 1, 0, 0, 1, 0, 0, 1, 0, 0, 1, 1], .l [1, 0, 1, 0, 0, 1, 0, 0, 1, 0, 0], .b 2, .b 1, .c [1, 0, 1, 0, 0, 1, 1], .l [1, 0, 1, 0, 0], .b 0, .c [1, 1]], ⟨[], ⟨[], []⟩⟩, fun p => some (.inl ())⟩
abbrev valued_l2_e1 : Leaf ((Unit) ⊕ (Ll × Int)) := ⟨[.c [1, 0, 1, 0, 0, 1, 1], .l [1, 0, 1, 0, 0], .b 0, .c [1, 1]], ⟨[0, 3], ⟨[shQ, shI], []⟩⟩, fun p => some (.inr (p.1.1, p.1.2.1))⟩
noncomputable def valued_l2_L (N : Nat) : LoopS := { at_ := valued_l2_at, sta := valued_l2_st, exits := [([.c [1, 0, 1, 0, 0, 1, 0, 0, 1, 0, 0, 1, 0, 0, 1, 0, 0], .c [1, 0, 1, 0, 0, 1, 0, 0, 1, 0, 0, 1, 0, 0, 1, 0, 1], .b 3, .c [1, 0, 1, 0, 0, 1, 0, 0, 1, 0, 0, 1, 1], .l [1, 0, 1, 0, 0, 1, 0, 0, 1, 0, 0], .b 2, .b 1, .c [1, 0, 1, 0, 0, 1, 1], .l [1, 0, 1, 0, 0], .b 0, .c [1, 1]], ⟨[], ⟨[], []⟩⟩), ([.c [1, 0, 1, 0, 0, 1, 1], .l [1, 0, 1, 0, 0], .b 0, .c [1, 1]], ⟨[0, 3], ⟨[shQ, shI], []⟩⟩)], run := fun p k => (valued_l2 N N p.1.1 p.1.2.1 p.1.2.2.1).bind fun e => match e with | .inl x => k (.inl ((), ())) | .inr x => k (.inr (.inl ((x.1, x.2, ()), ()))) }
theorem valued_l2_eq (N n_ : Nat) (l : Ll) (i : Int) (t : Int) : ev (Z := (Unit) ⊕ (Ll × Int)) Try.prog (valued_sp N) valued_B [] [valued_l2_h (valued_l2 N n_), valued_l2_e0, valued_l2_e1] none 400 true valued_l2_at (stL valued_l2_st ((l, i, t, ()), ())) (stH valued_l2_st ((l, i, t, ()), ())) = valued_l2 N (n_ + 1) l i t := by kernel_rfl
theorem valued_l2_ok (N : Nat) {top : Bool} : LoopOK Try.prog valued_B.c valued_B.n valued_B.m0 top (valued_l2_L N) := loop_of_ev (Z := (Unit) ⊕ (Ll × Int)) (N := N) (fun m p => valued_l2 N m p.1.1 p.1.2.1 p.1.2.2.1) (fun e => match e with | .inl x => .inl ((), ()) | .inr x => .inr (.inl ((x.1, x.2, ()), ()))) (fun _ p k => bind_congr_ (valued_l2 N N p.1.1 p.1.2.1 p.1.2.2.1) _ _ (fun e => by rcases e with x | x <;> rfl)) (fun _ => rfl) (fun m z E Xc hE hX hrec hx => leaf_of_ev (B := valued_B) (loops := []) (leaves := [valued_l2_h (valued_l2 N m), valued_l2_e0, valued_l2_e1]) (valued_all N) mixed trivial hE hX ⟨hrec, (fun p hp => by obtain rfl := Option.some.inj hp; exact hx), (fun p hp => by obtain rfl := Option.some.inj hp; exact hx), trivial⟩ RetOK.no (fun p => valued_l2_eq N m p.1.1 p.1.2.1 p.1.2.2.1))
abbrev valued_l1_at : List PI := [.c [1, 0, 1, 0, 0, 0, 0], .c [1, 0, 1, 0, 0, 0, 1], .c [1, 0, 1, 0, 0, 1], .l [1, 0, 1, 0, 0], .b 0, .c [1, 1]]
abbrev valued_l1_st : Sta := ⟨[0, 3], ⟨[shQ, shI], []⟩⟩
abbrev valued_l1_h (rec : Ll → Int → Option ((Unit) ⊕ (Unit))) : Leaf ((Unit) ⊕ (Unit)) := ⟨valued_l1_at, valued_l1_st, fun p => rec p.1.1 p.1.2.1⟩
abbrev valued_l1_e0 : Leaf ((Unit) ⊕ (Unit)) := ⟨[.c [1, 0, 1, 0, 0, 1, 0, 0, 1, 0, 0, 1, 0, 0, 1, 0, 0], .c [1, 0, 1, 0, 0, 1, 0, 0, 1, 0, 0, 1, 0, 0, 1, 0, 1], .b 3, .c [1, 0, 1, 0, 0, 1, 0, 0, 1, 0, 0, 1, 1], .l [1, 0, 1, 0, 0, 1, 0, 0, 1, 0, 0], .b 2, .b 1, .c [1, 0, 1, 0, 0, 1, 1], .l [1, 0, 1, 0, 0], .b 0, .c [1, 1]], ⟨[], ⟨[], []⟩⟩, fun p => some (.inl ())⟩
abbrev valued_l1_e1 : Leaf ((Unit) ⊕ (Unit)) := ⟨[.c [1, 1, 0], .c [1, 1, 1]], ⟨[], ⟨[], []⟩⟩, fun p => some (.inr ())⟩
noncomputable def valued_l1_L (N : Nat) : LoopS := { at_ := valued_l1_at, sta := valued_l1_st, exits := [([.c [1, 0, 1, 0, 0, 1, 0, 0, 1, 0, 0, 1, 0, 0, 1, 0, 0], .c [1, 0, 1, 0, 0, 1, 0, 0, 1, 0, 0, 1, 0, 0, 1, 0, 1], .b 3, .c [1, 0, 1, 0, 0, 1, 0, 0, 1, 0, 0, 1, 1], .l [1, 0, 1, 0, 0, 1, 0, 0, 1, 0, 0], .b 2, .b 1, .c [1, 0, 1, 0, 0, 1, 1], .l [1, 0, 1, 0, 0], .b 0, .c [1, 1]], ⟨[], ⟨[], []⟩⟩), ([.c [1, 1, 0], .c [1, 1, 1]], ⟨[], ⟨[], []⟩⟩)], run := fun p k => (valued_l1 N N p.1.1 p.1.2.1).bind fun e => match e with | .inl x => k (.inl ((), ())) | .inr x => k (.inr (.inl ((), ()))) }
theorem valued_l1_eq (N n_ : Nat) (l : Ll) (i : Int) : ev (Z := (Unit) ⊕ (Unit)) Try.prog (valued_sp N) valued_B [valued_l2_L N] [valued_l1_h (valued_l1 N n_), valued_l1_e0, valued_l1_e1] none 400 true valued_l1_at (stL valued_l1_st ((l, i, ()), ())) (stH valued_l1_st ((l, i, ()), ())) = valued_l1 N (n_ + 1) l i := by kernel_rfl
theorem valued_l1_ok (N : Nat) {top : Bool} : LoopOK Try.prog valued_B.c valued_B.n valued_B.m0 top (valued_l1_L N) := loop_of_ev (Z := (Unit) ⊕ (Unit)) (N := N) (fun m p => valued_l1 N m p.1.1 p.1.2.1) (fun e => match e with | .inl x => .inl ((), ()) | .inr x => .inr (.inl ((), ()))) (fun _ p k => bind_congr_ (valued_l1 N N p.1.1 p.1.2.1) _ _ (fun e => by rcases e with x | x <;> rfl)) (fun _ => rfl) (fun m z E Xc hE hX hrec hx => leaf_of_ev (B := valued_B) (loops := [valued_l2_L N]) (leaves := [valued_l1_h (valued_l1 N m), valued_l1_e0, valued_l1_e1]) (valued_all N) mixed ⟨valued_l2_ok N, trivial⟩ hE hX ⟨hrec, (fun p hp => by obtain rfl := Option.some.inj hp; exact hx), (fun p hp => by obtain rfl := Option.some.inj hp; exact hx), trivial⟩ RetOK.no (fun p => valued_l1_eq N m p.1.1 p.1.2.1))
abbrev valued_st : Sta := ⟨[0], ⟨[shQ], []⟩⟩
theorem valued_eq (N : Nat) (l : Ll) : ev (Z := Bool) Try.prog (valued_sp N) valued_B [valued_l2_L N, valued_l1_L N] [] (some valued_rt) 400 false [.c [0], .c [1]] (stL valued_st ((l, ()), ())) (stH valued_st ((l, ()), ())) = valued_S N l := by kernel_rfl
noncomputable def sp_valued (N : Nat) : Spec := { f := 101, ins := ⟨[shQ], []⟩, outs := [⟨[.b], []⟩], run := fun p k => (valued_S N p.1.1).bind fun r => k ((r, ()), ()) }
theorem sp_valued_ok (N : Nat) : SpecOK Try.prog (sp_valued N) := fn_sound (B := valued_B) (loops := [valued_l2_L N, valued_l1_L N]) (leaves := []) (fun p => valued_S N p.1.1) (fun r => ((r, ()), ())) valued_rt (fun _ _ _ => rfl) (fun r z h => by cases h; rfl) Try.func101 (by kernel_rfl) (by kernel_rfl) (by kernel_rfl) rfl rfl (by kernel_rfl) (fun args w => Sem.pv_run _ _ _ (by kernel_rfl) w) (valued_all N) mixed ⟨valued_l2_ok N, valued_l1_ok N, trivial⟩ (fun z E Xc hE hX hret => trivial) (fun p => valued_eq N p.1.1)

def rcheck_l1 (N : Nat) : Nat → Int → Li → Int → Ll → Ll → Li → Option ((Unit) ⊕ (Li × Int × Ll × Ll × Li))
  | 0, _, _, _, _, _, _ => none
  | n_ + 1, t, d, d2, d3, d4, d5 =>
    br (decide (t < (d.length : Int)))
      (idx d t fun x_4 =>
      (off_S N x_4 1 9).bind fun x_5 =>
      br x_5
        (some (.inl ()))
        (chk (t + 1) <|
        rcheck_l1 N n_ (t + 1) d d2 d3 d4 d5))
      (some (.inr (d, d2, d3, d4, d5)))
def rcheck_l2 (N : Nat) : Nat → Int → Li → Int → Ll → Ll → Li → Option ((Unit) ⊕ (Li × Int × Ll × Ll × Li))
  | 0, _, _, _, _, _, _ => none
  | n_ + 1, i, d, d2, d3, d4, d5 =>
    br (decide (i < (d5.length : Int)))
      (idx d5 i fun x_11 =>
      (off_S N x_11 0 99).bind fun x_12 =>
      br x_12
        (some (.inl ()))
        (chk (i + 1) <|
        rcheck_l2 N n_ (i + 1) d d2 d3 d4 d5))
      (some (.inr (d, d2, d3, d4, d5)))
def rcheck_S (N : Nat) (d : Li) (d2 : Int) (d3 : Ll) (d4 : Ll) (d5 : Li) : Option Int :=
  (off_S N (d.length : Int) 1 5).bind fun x_1 =>
  br x_1
    (some 2)
    (br (decide (6 < (d3.length : Int)))
      (some 2)
      (br (decide (6 < (d4.length : Int)))
        (some 2)
        ((described_S N d d2 d3 d4 d5 d3).bind fun x_2 =>
        br (!x_2)
          (some 2)
          ((described_S N d d2 d3 d4 d5 d4).bind fun x_3 =>
          br (!x_3)
            (some 2)
            (br (!decide ((d5.length : Int) = (d3.length : Int)))
              (some 2)
              ((rcheck_l1 N N 0 d d2 d3 d4 d5).bind fun e => match e with
              | .inl _ =>
                some 3
              | .inr (d_6, d2_7, d3_8, d4_9, d5_10) =>
                (rcheck_l2 N N 0 d_6 d2_7 d3_8 d4_9 d5_10).bind fun e => match e with
                | .inl _ =>
                  some 3
                | .inr (d_13, d2_14, d3_15, d4_16, d5_17) =>
                  (off_S N d2_14 0 3).bind fun x_18 =>
                  br x_18
                    (some 3)
                    ((valued_S N d3_15).bind fun x_19 =>
                    br (!x_19)
                      (some 3)
                      ((valued_S N d4_16).bind fun x_20 =>
                      br (!x_20)
                        (some 3)
                        (some 0)))))))))
noncomputable def rcheck_sp (N : Nat) : List Spec := [sp_off N, sp_described N, sp_valued N]
theorem rcheck_all (N : Nat) : AllP (SpecOK Try.prog) (rcheck_sp N) := ⟨sp_off_ok N, sp_described_ok N, sp_valued_ok N, trivial⟩
noncomputable def rcheck_c : Code := (Try.f57.body).getD .skip
noncomputable abbrev rcheck_B : Body := { c := rcheck_c, n := 83, res := [.tmp 2], outs := [⟨[shI], []⟩], m0 := 0 }
abbrev rcheck_rt : altD rcheck_B.outs → Option Int := fun r => some r.1.1
abbrev rcheck_l1_at : List PI := [.c [1, 1, 1, 0, 1, 0, 0, 0, 0], .c [1, 1, 1, 0, 1, 0, 0, 0, 1], .c [1, 1, 1, 0, 1, 0, 0, 1], .l [1, 1, 1, 0, 1, 0, 0], .b 0, .c [1, 1, 1, 1]]
abbrev rcheck_l1_st : Sta := ⟨[1, 3], ⟨[.own 0 0, shI], [.segs [shL, shI, shQ, shQ, shL]]⟩⟩
abbrev rcheck_l1_h (rec : Int → Li → Int → Ll → Ll → Li → Option ((Unit) ⊕ (Li × Int × Ll × Ll × Li))) : Leaf ((Unit) ⊕ (Li × Int × Ll × Ll × Li)) := ⟨rcheck_l1_at, rcheck_l1_st, fun p => rec p.1.2.1 p.2.1.1 p.2.1.2.1 p.2.1.2.2.1 p.2.1.2.2.2.1 p.2.1.2.2.2.2.1⟩
abbrev rcheck_l1_e0 : Leaf ((Unit) ⊕ (Li × Int × Ll × Ll × Li)) := ⟨[.c [1, 1, 1, 0, 1, 0, 0, 1, 0, 0, 1, 0, 0], .c [1, 1, 1, 0, 1, 0, 0, 1, 0, 0, 1, 0, 1], .b 1, .c [1, 1, 1, 0, 1, 0, 0, 1, 1], .l [1, 1, 1, 0, 1, 0, 0], .b 0, .c [1, 1, 1, 1]], ⟨[], ⟨[], []⟩⟩, fun p => some (.inl ())⟩
abbrev rcheck_l1_e1 : Leaf ((Unit) ⊕ (Li × Int × Ll × Ll × Li)) := ⟨[.c [1, 1, 1, 1, 0, 0], .c [1, 1, 1, 1, 0, 1], .c [1, 1, 1, 1, 1]], ⟨[1], ⟨[.own 0 0], [.segs [shL, shI, shQ, shQ, shL]]⟩⟩, fun p => some (.inr (p.2.1.1, p.2.1.2.1, p.2.1.2.2.1, p.2.1.2.2.2.1, p.2.1.2.2.2.2.1))⟩
noncomputable def rcheck_l1_L (N : Nat) : LoopS := { at_ := rcheck_l1_at, sta := rcheck_l1_st, exits := [([.c [1, 1, 1, 0, 1, 0, 0, 1, 0, 0, 1, 0, 0], .c [1, 1, 1, 0, 1, 0, 0, 1, 0, 0, 1, 0, 1], .b 1, .c [1, 1, 1, 0, 1, 0, 0, 1, 1], .l [1, 1, 1, 0, 1, 0, 0], .b 0, .c [1, 1, 1, 1]], ⟨[], ⟨[], []⟩⟩), ([.c [1, 1, 1, 1, 0, 0], .c [1, 1, 1, 1, 0, 1], .c [1, 1, 1, 1, 1]], ⟨[1], ⟨[.own 0 0], [.segs [shL, shI, shQ, shQ, shL]]⟩⟩)], run := fun p k => (rcheck_l1 N N p.1.2.1 p.2.1.1 p.2.1.2.1 p.2.1.2.2.1 p.2.1.2.2.2.1 p.2.1.2.2.2.2.1).bind fun e => match e with | .inl x => k (.inl ((), ())) | .inr x => k (.inr (.inl (((), ()), ((x.1, x.2.1, x.2.2.1, x.2.2.2.1, x.2.2.2.2, ()), ())))) }
theorem rcheck_l1_eq (N n_ : Nat) (t : Int) (d : Li) (d2 : Int) (d3 : Ll) (d4 : Ll) (d5 : Li) : ev (Z := (Unit) ⊕ (Li × Int × Ll × Ll × Li)) Try.prog (rcheck_sp N) rcheck_B [] [rcheck_l1_h (rcheck_l1 N n_), rcheck_l1_e0, rcheck_l1_e1] none 400 true rcheck_l1_at (stL rcheck_l1_st (((), t, ()), ((d, d2, d3, d4, d5, ()), ()))) (stH rcheck_l1_st (((), t, ()), ((d, d2, d3, d4, d5, ()), ()))) = rcheck_l1 N (n_ + 1) t d d2 d3 d4 d5 := by kernel_rfl
theorem rcheck_l1_ok (N : Nat) {top : Bool} : LoopOK Try.prog rcheck_B.c rcheck_B.n rcheck_B.m0 top (rcheck_l1_L N) := loop_of_ev (Z := (Unit) ⊕ (Li × Int × Ll × Ll × Li)) (N := N) (fun m p => rcheck_l1 N m p.1.2.1 p.2.1.1 p.2.1.2.1 p.2.1.2.2.1 p.2.1.2.2.2.1 p.2.1.2.2.2.2.1) (fun e => match e with | .inl x => .inl ((), ()) | .inr x => .inr (.inl (((), ()), ((x.1, x.2.1, x.2.2.1, x.2.2.2.1, x.2.2.2.2, ()), ())))) (fun _ p k => bind_congr_ (rcheck_l1 N N p.1.2.1 p.2.1.1 p.2.1.2.1 p.2.1.2.2.1 p.2.1.2.2.2.1 p.2.1.2.2.2.2.1) _ _ (fun e => by rcases e with x | x <;> rfl)) (fun _ => rfl) (fun m z E Xc hE hX hrec hx => leaf_of_ev (B := rcheck_B) (loops := []) (leaves := [rcheck_l1_h (rcheck_l1 N m), rcheck_l1_e0, rcheck_l1_e1]) (rcheck_all N) mixed trivial hE hX ⟨hrec, (fun p hp => by obtain rfl := Option.some.inj hp; exact hx), (fun p hp => by obtain rfl := Option.some.inj hp; exact hx), trivial⟩ RetOK.no (fun p => rcheck_l1_eq N m p.1.2.1 p.2.1.1 p.2.1.2.1 p.2.1.2.2.1 p.2.1.2.2.2.1 p.2.1.2.2.2.2.1))
abbrev rcheck_l2_at : List PI := [.c [1, 1, 1, 1, 0, 1, 0, 0, 0, 0], .c [1, 1, 1, 1, 0, 1, 0, 0, 0, 1], .c [1, 1, 1, 1, 0, 1, 0, 0, 1], .l [1, 1, 1, 1, 0, 1, 0, 0], .b 2, .c [1, 1, 1, 1, 1]]
abbrev rcheck_l2_st : Sta := ⟨[1, 4], ⟨[.own 0 0, shI], [.segs [shL, shI, shQ, shQ, shL]]⟩⟩
abbrev rcheck_l2_h (rec : Int → Li → Int → Ll → Ll → Li → Option ((Unit) ⊕ (Li × Int × Ll × Ll × Li))) : Leaf ((Unit) ⊕ (Li × Int × Ll × Ll × Li)) := ⟨rcheck_l2_at, rcheck_l2_st, fun p => rec p.1.2.1 p.2.1.1 p.2.1.2.1 p.2.1.2.2.1 p.2.1.2.2.2.1 p.2.1.2.2.2.2.1⟩
abbrev rcheck_l2_e0 : Leaf ((Unit) ⊕ (Li × Int × Ll × Ll × Li)) := ⟨[.c [1, 1, 1, 1, 0, 1, 0, 0, 1, 0, 0, 1, 0, 0], .c [1, 1, 1, 1, 0, 1, 0, 0, 1, 0, 0, 1, 0, 1], .b 3, .c [1, 1, 1, 1, 0, 1, 0, 0, 1, 1], .l [1, 1, 1, 1, 0, 1, 0, 0], .b 2, .c [1, 1, 1, 1, 1]], ⟨[], ⟨[], []⟩⟩, fun p => some (.inl ())⟩
abbrev rcheck_l2_e1 : Leaf ((Unit) ⊕ (Li × Int × Ll × Ll × Li)) := ⟨[.c [1, 1, 1, 1, 1, 0, 0], .c [1, 1, 1, 1, 1, 0, 1], .c [1, 1, 1, 1, 1, 1]], ⟨[1], ⟨[.own 0 0], [.segs [shL, shI, shQ, shQ, shL]]⟩⟩, fun p => some (.inr (p.2.1.1, p.2.1.2.1, p.2.1.2.2.1, p.2.1.2.2.2.1, p.2.1.2.2.2.2.1))⟩
noncomputable def rcheck_l2_L (N : Nat) : LoopS := { at_ := rcheck_l2_at, sta := rcheck_l2_st, exits := [([.c [1, 1, 1, 1, 0, 1, 0, 0, 1, 0, 0, 1, 0, 0], .c [1, 1, 1, 1, 0, 1, 0, 0, 1, 0, 0, 1, 0, 1], .b 3, .c [1, 1, 1, 1, 0, 1, 0, 0, 1, 1], .l [1, 1, 1, 1, 0, 1, 0, 0], .b 2, .c [1, 1, 1, 1, 1]], ⟨[], ⟨[], []⟩⟩), ([.c [1, 1, 1, 1, 1, 0, 0], .c [1, 1, 1, 1, 1, 0, 1], .c [1, 1, 1, 1, 1, 1]], ⟨[1], ⟨[.own 0 0], [.segs [shL, shI, shQ, shQ, shL]]⟩⟩)], run := fun p k => (rcheck_l2 N N p.1.2.1 p.2.1.1 p.2.1.2.1 p.2.1.2.2.1 p.2.1.2.2.2.1 p.2.1.2.2.2.2.1).bind fun e => match e with | .inl x => k (.inl ((), ())) | .inr x => k (.inr (.inl (((), ()), ((x.1, x.2.1, x.2.2.1, x.2.2.2.1, x.2.2.2.2, ()), ())))) }
theorem rcheck_l2_eq (N n_ : Nat) (i : Int) (d : Li) (d2 : Int) (d3 : Ll) (d4 : Ll) (d5 : Li) : ev (Z := (Unit) ⊕ (Li × Int × Ll × Ll × Li)) Try.prog (rcheck_sp N) rcheck_B [rcheck_l1_L N] [rcheck_l2_h (rcheck_l2 N n_), rcheck_l2_e0, rcheck_l2_e1] none 400 true rcheck_l2_at (stL rcheck_l2_st (((), i, ()), ((d, d2, d3, d4, d5, ()), ()))) (stH rcheck_l2_st (((), i, ()), ((d, d2, d3, d4, d5, ()), ()))) = rcheck_l2 N (n_ + 1) i d d2 d3 d4 d5 := by kernel_rfl
theorem rcheck_l2_ok (N : Nat) {top : Bool} : LoopOK Try.prog rcheck_B.c rcheck_B.n rcheck_B.m0 top (rcheck_l2_L N) := loop_of_ev (Z := (Unit) ⊕ (Li × Int × Ll × Ll × Li)) (N := N) (fun m p => rcheck_l2 N m p.1.2.1 p.2.1.1 p.2.1.2.1 p.2.1.2.2.1 p.2.1.2.2.2.1 p.2.1.2.2.2.2.1) (fun e => match e with | .inl x => .inl ((), ()) | .inr x => .inr (.inl (((), ()), ((x.1, x.2.1, x.2.2.1, x.2.2.2.1, x.2.2.2.2, ()), ())))) (fun _ p k => bind_congr_ (rcheck_l2 N N p.1.2.1 p.2.1.1 p.2.1.2.1 p.2.1.2.2.1 p.2.1.2.2.2.1 p.2.1.2.2.2.2.1) _ _ (fun e => by rcases e with x | x <;> rfl)) (fun _ => rfl) (fun m z E Xc hE hX hrec hx => leaf_of_ev (B := rcheck_B) (loops := [rcheck_l1_L N]) (leaves := [rcheck_l2_h (rcheck_l2 N m), rcheck_l2_e0, rcheck_l2_e1]) (rcheck_all N) mixed ⟨rcheck_l1_ok N, trivial⟩ hE hX ⟨hrec, (fun p hp => by obtain rfl := Option.some.inj hp; exact hx), (fun p hp => by obtain rfl := Option.some.inj hp; exact hx), trivial⟩ RetOK.no (fun p => rcheck_l2_eq N m p.1.2.1 p.2.1.1 p.2.1.2.1 p.2.1.2.2.1 p.2.1.2.2.2.1 p.2.1.2.2.2.2.1))
abbrev rcheck_st : Sta := ⟨[0], ⟨[shG], []⟩⟩
theorem rcheck_eq (N : Nat) (d : Li) (d2 : Int) (d3 : Ll) (d4 : Ll) (d5 : Li) : ev (Z := Int) Try.prog (rcheck_sp N) rcheck_B [rcheck_l1_L N, rcheck_l2_L N] [] (some rcheck_rt) 400 false [.c [0], .c [1]] (stL rcheck_st (((d, d2, d3, d4, d5, ()), ()), ())) (stH rcheck_st (((d, d2, d3, d4, d5, ()), ()), ())) = rcheck_S N d d2 d3 d4 d5 := by kernel_rfl
noncomputable def sp_rcheck (N : Nat) : Spec := { f := 57, ins := ⟨[shG], []⟩, outs := [⟨[shI], []⟩], run := fun p k => (rcheck_S N p.1.1.1 p.1.1.2.1 p.1.1.2.2.1 p.1.1.2.2.2.1 p.1.1.2.2.2.2.1).bind fun r => k ((r, ()), ()) }
theorem sp_rcheck_ok (N : Nat) : SpecOK Try.prog (sp_rcheck N) := fn_sound (B := rcheck_B) (loops := [rcheck_l1_L N, rcheck_l2_L N]) (leaves := []) (fun p => rcheck_S N p.1.1.1 p.1.1.2.1 p.1.1.2.2.1 p.1.1.2.2.2.1 p.1.1.2.2.2.2.1) (fun r => ((r, ()), ())) rcheck_rt (fun _ _ _ => rfl) (fun r z h => by cases h; rfl) Try.func57 (by kernel_rfl) (by kernel_rfl) (by kernel_rfl) rfl rfl (by kernel_rfl) (fun args w => Sem.pv_run _ _ _ (by kernel_rfl) w) (rcheck_all N) mixed ⟨rcheck_l1_ok N, rcheck_l2_ok N, trivial⟩ (fun z E Xc hE hX hret => trivial) (fun p => rcheck_eq N p.1.1.1 p.1.1.2.1 p.1.1.2.2.1 p.1.1.2.2.2.1 p.1.1.2.2.2.2.1)

end Go.Proofs.Ythncjilcflilcaa

namespace Go.Proofs.Ythncjilcflilcaa
set_option linter.all false
open Go

end Go.Proofs.Ythncjilcflilcaa

namespace Go.Proofs.Ythncjilcflilcaa
set_option linter.all false
open Go

end Go.Proofs.Ythncjilcflilcaa

/-
  Parts of a proof, put together: E9, Pl35, Pl36, Pl37.
  Conditions: none.
-/
import Derived.Test.YtfcnhnbnjdccfaaZg
namespace Go.Proofs.Ytfcnhnbnjdccfaa
set_option linter.all false
open Go

def proves1_S (N : Nat) (k : List Int) (u : Qe) : Option Bool :=
 chk ((u.length : Int) + 1) <|
 some (!decide ((k.length : Int) = ((u.length : Int) + 1)))
noncomputable def proves1_sp (N : Nat) : List Spec := []
theorem proves1_all (N : Nat) : AllP (SpecOK Try.prog) (proves1_sp N) := trivial
noncomputable def proves1_c : Code := (Try.f116.body).getD .skip
noncomputable abbrev proves1_B : Body := { c := proves1_c, n := 10, res := [.tmp 3], outs := [⟨[.b], []⟩], m0 := 0 }
abbrev proves1_rt : altD proves1_B.outs → Option Bool := fun r => some r.1.1
abbrev proves1_st : Sta := ⟨[0, 1], ⟨[.sl (.int .i64), .fe Qf], []⟩⟩
theorem proves1_eq (N : Nat) (k : List Int) (u : Qe) : ev (Z := Bool) Try.prog (proves1_sp N) proves1_B [] [] (some proves1_rt) 400 false [.c [0], .c [1]] (stL proves1_st ((k, u, ()), ())) (stH proves1_st ((k, u, ()), ())) = proves1_S N k u := by kernel_rfl
noncomputable def sp_proves1 (N : Nat) : Spec := { f := 116, ins := ⟨[.sl (.int .i64), .fe Qf], []⟩, outs := [⟨[.b], []⟩], run := fun p k => (proves1_S N p.1.1 p.1.2.1).bind fun r => k ((r, ()), ()) }
theorem sp_proves1_ok (N : Nat) : SpecOK Try.prog (sp_proves1 N) := fn_sound (B := proves1_B) (loops := []) (leaves := []) (fun p => proves1_S N p.1.1 p.1.2.1) (fun r => ((r, ()), ())) proves1_rt (fun _ _ _ => rfl) (fun r z h => by cases h; rfl) Try.func116 (by kernel_rfl) (by kernel_rfl) (by kernel_rfl) rfl rfl (by kernel_rfl) (fun args w => Sem.pv_run _ _ _ (by kernel_rfl) w) (proves1_all N) mixed trivial (fun z E Xc hE hX hret => trivial) (fun p => proves1_eq N p.1.1 p.1.2.1)

def ixfpv_l1 (N : Nat) : Nat → Qj → (Qe) → Int → Int → Option ((Int) ⊕ (Unit))
 | 0, _, _, _, _ => none
 | n_ + 1, s, f, u, u2 =>
  br (decide (u2 < u))
   (idx s u2 fun x_1 =>
   (proves1_S N x_1 f).bind fun x_2 =>
   br x_2
    (some (.inl u2))
    (chk (u2 + 1) <|
    ixfpv_l1 N n_ s f u (u2 + 1)))
   (some (.inr ()))
def ixfpv_S (N : Nat) (s : List Qe) (f : Qe) : Option Int :=
 (ixfpv_l1 N N s f (s.length : Int) 0).bind fun e => match e with
 | .inl i_3 =>
  some i_3
 | .inr _ =>
  some (-1)
noncomputable def ixfpv_sp (N : Nat) : List Spec := [sp_proves1 N]
theorem ixfpv_all (N : Nat) : AllP (SpecOK Try.prog) (ixfpv_sp N) := ⟨sp_proves1_ok N, trivial⟩
noncomputable def ixfpv_c : Code := (Try.f132.body).getD .skip
noncomputable abbrev ixfpv_B : Body := { c := ixfpv_c, n := 19, res := [.tmp 4], outs := [⟨[.i .i64], []⟩], m0 := 0 }
abbrev ixfpv_rt : altD ixfpv_B.outs → Option Int := fun r => some r.1.1
abbrev ixfpv_l1_at : List PI := [.c [1, 0, 1, 0, 0, 0], .c [1, 0, 1, 0, 0, 1], .l [1, 0, 1, 0, 0], .b 0, .c [1, 1]]
abbrev ixfpv_l1_st : Sta := ⟨[0, 1, 7, 8], ⟨[.sl Qf, .fn 116 [] [.fe Qf], .i .i64, .i .i64], []⟩⟩
abbrev ixfpv_l1_h (rec : Qj → (Qe) → Int → Int → Option ((Int) ⊕ (Unit))) : Leaf ((Int) ⊕ (Unit)) := ⟨ixfpv_l1_at, ixfpv_l1_st, fun p => rec p.1.1 p.1.2.1.2.1 p.1.2.2.1 p.1.2.2.2.1⟩
abbrev ixfpv_l1_e0 : Leaf ((Int) ⊕ (Unit)) := ⟨[.c [1, 0, 1, 0, 0, 1, 1, 0, 0, 1, 1, 0, 0], .c [1, 0, 1, 0, 0, 1, 1, 0, 0, 1, 1, 0, 1], .b 1, .c [1, 0, 1, 0, 0, 1, 1, 1], .l [1, 0, 1, 0, 0], .b 0, .c [1, 1]], ⟨[5], ⟨[.i .i64], []⟩⟩, fun p => some (.inl p.1.1)⟩
abbrev ixfpv_l1_e1 : Leaf ((Int) ⊕ (Unit)) := ⟨[.c [1, 1, 0], .c [1, 1, 1]], ⟨[], ⟨[], []⟩⟩, fun p => some (.inr ())⟩
noncomputable def ixfpv_l1_L (N : Nat) : LoopS := { at_ := ixfpv_l1_at, sta := ixfpv_l1_st, exits := [([.c [1, 0, 1, 0, 0, 1, 1, 0, 0, 1, 1, 0, 0], .c [1, 0, 1, 0, 0, 1, 1, 0, 0, 1, 1, 0, 1], .b 1, .c [1, 0, 1, 0, 0, 1, 1, 1], .l [1, 0, 1, 0, 0], .b 0, .c [1, 1]], ⟨[5], ⟨[.i .i64], []⟩⟩), ([.c [1, 1, 0], .c [1, 1, 1]], ⟨[], ⟨[], []⟩⟩)], run := fun p k => (ixfpv_l1 N N p.1.1 p.1.2.1.2.1 p.1.2.2.1 p.1.2.2.2.1).bind fun e => match e with | .inl x => k (.inl ((x, ()), ())) | .inr x => k (.inr (.inl ((), ()))) }
theorem ixfpv_l1_eq (N n_ : Nat) (s : List Qe) (f : Qe) (u : Int) (u2 : Int) : ev (Z := (Int) ⊕ (Unit)) Try.prog (ixfpv_sp N) ixfpv_B [] [ixfpv_l1_h (ixfpv_l1 N n_), ixfpv_l1_e0, ixfpv_l1_e1] none 400 true ixfpv_l1_at (stL ixfpv_l1_st ((s, ((), (f, ())), u, u2, ()), ())) (stH ixfpv_l1_st ((s, ((), (f, ())), u, u2, ()), ())) = ixfpv_l1 N (n_ + 1) s f u u2 := by kernel_rfl
theorem ixfpv_l1_ok (N : Nat) {top : Bool} : LoopOK Try.prog ixfpv_B.c ixfpv_B.n ixfpv_B.m0 top (ixfpv_l1_L N) := loop_of_ev (Z := (Int) ⊕ (Unit)) (N := N) (fun m p => ixfpv_l1 N m p.1.1 p.1.2.1.2.1 p.1.2.2.1 p.1.2.2.2.1) (fun e => match e with | .inl x => .inl ((x, ()), ()) | .inr x => .inr (.inl ((), ()))) (fun _ p k => bind_congr_ (ixfpv_l1 N N p.1.1 p.1.2.1.2.1 p.1.2.2.1 p.1.2.2.2.1) _ _ (fun e => by rcases e with x | x <;> rfl)) (fun _ => rfl) (fun m z E Xc hE hX hrec hx => leaf_of_ev (B := ixfpv_B) (loops := []) (leaves := [ixfpv_l1_h (ixfpv_l1 N m), ixfpv_l1_e0, ixfpv_l1_e1]) (ixfpv_all N) mixed trivial hE hX ⟨hrec, (fun p hp => by obtain rfl := Option.some.inj hp; exact hx), (fun p hp => by obtain rfl := Option.some.inj hp; exact hx), trivial⟩ RetOK.no (fun p => ixfpv_l1_eq N m p.1.1 p.1.2.1.2.1 p.1.2.2.1 p.1.2.2.2.1))
abbrev ixfpv_st : Sta := ⟨[0, 1], ⟨[.sl Qf, .fn 116 [] [.fe Qf]], []⟩⟩
theorem ixfpv_eq (N : Nat) (s : List Qe) (f : Qe) : ev (Z := Int) Try.prog (ixfpv_sp N) ixfpv_B [ixfpv_l1_L N] [] (some ixfpv_rt) 400 false [.c [0], .c [1]] (stL ixfpv_st ((s, ((), (f, ())), ()), ())) (stH ixfpv_st ((s, ((), (f, ())), ()), ())) = ixfpv_S N s f := by kernel_rfl
noncomputable def sp_ixfpv (N : Nat) : Spec := { f := 132, ins := ⟨[.sl Qf, .fn 116 [] [.fe Qf]], []⟩, outs := [⟨[.i .i64], []⟩], run := fun p k => (ixfpv_S N p.1.1 p.1.2.1.2.1).bind fun r => k ((r, ()), ()) }
theorem sp_ixfpv_ok (N : Nat) : SpecOK Try.prog (sp_ixfpv N) := fn_sound (B := ixfpv_B) (loops := [ixfpv_l1_L N]) (leaves := []) (fun p => ixfpv_S N p.1.1 p.1.2.1.2.1) (fun r => ((r, ()), ())) ixfpv_rt (fun _ _ _ => rfl) (fun r z h => by cases h; rfl) Try.func132 (by kernel_rfl) (by kernel_rfl) (by kernel_rfl) rfl rfl (by kernel_rfl) (fun args w => Sem.pv_run _ _ _ (by kernel_rfl) w) (ixfpv_all N) mixed ⟨ixfpv_l1_ok N, trivial⟩ (fun z E Xc hE hX hret => trivial) (fun p => ixfpv_eq N p.1.1 p.1.2.1.2.1)

def cofpv_S (N : Nat) (s : List Qe) (f : Qe) : Option Bool :=
 (ixfpv_S N s f).bind fun x_1 =>
 some (decide (0 ≤ x_1))
noncomputable def cofpv_sp (N : Nat) : List Spec := [sp_ixfpv N]
theorem cofpv_all (N : Nat) : AllP (SpecOK Try.prog) (cofpv_sp N) := ⟨sp_ixfpv_ok N, trivial⟩
noncomputable def cofpv_c : Code := (Try.f115.body).getD .skip
noncomputable abbrev cofpv_B : Body := { c := cofpv_c, n := 9, res := [.tmp 4], outs := [⟨[.b], []⟩], m0 := 0 }
abbrev cofpv_rt : altD cofpv_B.outs → Option Bool := fun r => some r.1.1
abbrev cofpv_st : Sta := ⟨[0, 1], ⟨[.sl Qf, .fn 116 [] [.fe Qf]], []⟩⟩
theorem cofpv_eq (N : Nat) (s : List Qe) (f : Qe) : ev (Z := Bool) Try.prog (cofpv_sp N) cofpv_B [] [] (some cofpv_rt) 400 false [.c [0], .c [1]] (stL cofpv_st ((s, ((), (f, ())), ()), ())) (stH cofpv_st ((s, ((), (f, ())), ()), ())) = cofpv_S N s f := by kernel_rfl
noncomputable def sp_cofpv (N : Nat) : Spec := { f := 115, ins := ⟨[.sl Qf, .fn 116 [] [.fe Qf]], []⟩, outs := [⟨[.b], []⟩], run := fun p k => (cofpv_S N p.1.1 p.1.2.1.2.1).bind fun r => k ((r, ()), ()) }
theorem sp_cofpv_ok (N : Nat) : SpecOK Try.prog (sp_cofpv N) := fn_sound (B := cofpv_B) (loops := []) (leaves := []) (fun p => cofpv_S N p.1.1 p.1.2.1.2.1) (fun r => ((r, ()), ())) cofpv_rt (fun _ _ _ => rfl) (fun r z h => by cases h; rfl) Try.func115 (by kernel_rfl) (by kernel_rfl) (by kernel_rfl) rfl rfl (by kernel_rfl) (fun args w => Sem.pv_run _ _ _ (by kernel_rfl) w) (cofpv_all N) mixed trivial (fun z E Xc hE hX hret => trivial) (fun p => cofpv_eq N p.1.1 p.1.2.1.2.1)

def proves_l1 (N : Nat) : Nat → (List Qj) → Int → Qe → (List Qj) → Int → Int → Qj → Qe → Int → Qe → Option ((Unit) ⊕ Ql)
 | 0, _, _, _, _, _, _, _, _, _, _ => none
 | n_ + 1, m, last, a, u, u2, u3, x, x2, x3, b =>
  br (decide (u3 < u2))
   (idx u u3 fun x_3 =>
   chk ((a.length : Int) + 1) <|
   br (!decide ((x_3.length : Int) = ((a.length : Int) + 1)))
    (some (.inl ()))
    ((cofpv_S N x_3 b).bind fun x_4 =>
    br x_4
     (some (.inl ()))
     (chk (u3 + 1) <|
     proves_l1 N n_ m last a u u2 (u3 + 1) x x2 x3 b)))
   (some (.inr (m, last, a, x, x2, x3, b)))
def proves_j1 (N : Nat) (rec : (List Qj) → Int → Qe → Int → Int → Int → Int → Int → Int → Qe → Int → Int → Qj → Qe → Int → Qe → Option ((Unit) ⊕ ((Unit) ⊕ Qh))) (m : List Qj) (last : Int) (a : List Int) (i : Int) (k : Int) (n : Int) (now : Int) (u : Int) (u2 : Int) (u3 : Int) (u4 : Int) (u5 : List Int) (u6 : Int) (u7 : Int) (x : List Qe) (x2 : List Int) (x3 : Int) (b : List Int) : Option ((Unit) ⊕ ((Unit) ⊕ Qh)) :=
 br (decide (0 < i))
  (br (decide (0 < k))
   (chk (i - 1) <|
   idx x2 (i - 1) fun x_25 =>
   chk (k - 1) <|
   idx a (k - 1) fun x_26 =>
   br (decide (x_25 = x_26))
    (chk (i - 1) <|
    idx m (i - 1) fun x_27 =>
    chk (k - 1) <|
    idx x_27 (k - 1) fun x_28 =>
    idx x_28 n fun x_29 =>
    br (decide (x_29 < now))
     (some (.inr (.inl ())))
     (br (decide (0 < n))
      (chk (i - 1) <|
      idx x2 (i - 1) fun x_30 =>
      chk (n - 1) <|
      idx b (n - 1) fun x_31 =>
      br (decide (x_30 = x_31))
       (chk (i - 1) <|
       idx m (i - 1) fun x_32 =>
       idx x_32 k fun x_33 =>
       chk (n - 1) <|
       idx x_33 (n - 1) fun x_34 =>
       br (decide (x_34 < now))
        (some (.inr (.inl ())))
        (chk (u7 + 1) <|
        rec m last a i k u u2 u3 u4 u5 u6 (u7 + 1) x x2 x3 b))
       (chk (u7 + 1) <|
       rec m last a i k u u2 u3 u4 u5 u6 (u7 + 1) x x2 x3 b))
      (chk (u7 + 1) <|
      rec m last a i k u u2 u3 u4 u5 u6 (u7 + 1) x x2 x3 b)))
    (br (decide (0 < n))
     (chk (i - 1) <|
     idx x2 (i - 1) fun x_35 =>
     chk (n - 1) <|
     idx b (n - 1) fun x_36 =>
     br (decide (x_35 = x_36))
      (chk (i - 1) <|
      idx m (i - 1) fun x_37 =>
      idx x_37 k fun x_38 =>
      chk (n - 1) <|
      idx x_38 (n - 1) fun x_39 =>
      br (decide (x_39 < now))
       (some (.inr (.inl ())))
       (chk (u7 + 1) <|
       rec m last a i k u u2 u3 u4 u5 u6 (u7 + 1) x x2 x3 b))
      (chk (u7 + 1) <|
      rec m last a i k u u2 u3 u4 u5 u6 (u7 + 1) x x2 x3 b))
     (chk (u7 + 1) <|
     rec m last a i k u u2 u3 u4 u5 u6 (u7 + 1) x x2 x3 b)))
   (br (decide (0 < n))
    (chk (i - 1) <|
    idx x2 (i - 1) fun x_40 =>
    chk (n - 1) <|
    idx b (n - 1) fun x_41 =>
    br (decide (x_40 = x_41))
     (chk (i - 1) <|
     idx m (i - 1) fun x_42 =>
     idx x_42 k fun x_43 =>
     chk (n - 1) <|
     idx x_43 (n - 1) fun x_44 =>
     br (decide (x_44 < now))
      (some (.inr (.inl ())))
      (chk (u7 + 1) <|
      rec m last a i k u u2 u3 u4 u5 u6 (u7 + 1) x x2 x3 b))
     (chk (u7 + 1) <|
     rec m last a i k u u2 u3 u4 u5 u6 (u7 + 1) x x2 x3 b))
    (chk (u7 + 1) <|
    rec m last a i k u u2 u3 u4 u5 u6 (u7 + 1) x x2 x3 b)))
  (chk (u7 + 1) <|
  rec m last a i k u u2 u3 u4 u5 u6 (u7 + 1) x x2 x3 b)
def proves_l4 (N : Nat) : Nat → (List Qj) → Int → Qe → Int → Int → Int → Int → Int → Int → Qe → Int → Int → Qj → Qe → Int → Qe → Option ((Unit) ⊕ ((Unit) ⊕ Qh))
 | 0, _, _, _, _, _, _, _, _, _, _, _, _, _, _, _, _ => none
 | n_ + 1, m, last, a, i, k, u, u2, u3, u4, u5, u6, u7, x, x2, x3, b =>
  br (decide (u7 < u6))
   (idx u5 u7 fun x_15 =>
   br (decide (x_15 < 0))
    (some (.inl ()))
    (br (decide (99 < x_15))
     (some (.inl ()))
     (chk (i + k) <|
     chk ((i + k) + u7) <|
     br (decide (((i + k) + u7) = 0))
      (br (!decide (x_15 = 0))
       (some (.inl ()))
       (br (decide (0 < i))
        (chk (i - 1) <|
        idx m (i - 1) fun x_16 =>
        idx x_16 k fun x_17 =>
        idx x_17 u7 fun x_18 =>
        chk (x_18 + 1) <|
        br (decide ((x_18 + 1) < x_15))
         (some (.inl ()))
         (br (decide (0 < k))
          (idx m i fun x_19 =>
          chk (k - 1) <|
          idx x_19 (k - 1) fun x_20 =>
          idx x_20 u7 fun x_21 =>
          chk (x_21 + 1) <|
          br (decide ((x_21 + 1) < x_15))
           (some (.inl ()))
           (br (decide (0 < u7))
            (idx m i fun x_22 =>
            idx x_22 k fun x_23 =>
            chk (u7 - 1) <|
            idx x_23 (u7 - 1) fun x_24 =>
            chk (x_24 + 1) <|
            br (decide ((x_24 + 1) < x_15))
             (some (.inl ()))
             (proves_j1 N (proves_l4 N n_) m last a i k u7 x_15 u u2 u3 u4 u5 u6 u7 x x2 x3 b))
            (proves_j1 N (proves_l4 N n_) m last a i k u7 x_15 u u2 u3 u4 u5 u6 u7 x x2 x3 b)))
          (br (decide (0 < u7))
           (idx m i fun x_45 =>
           idx x_45 k fun x_46 =>
           chk (u7 - 1) <|
           idx x_46 (u7 - 1) fun x_47 =>
           chk (x_47 + 1) <|
           br (decide ((x_47 + 1) < x_15))
            (some (.inl ()))
            (proves_j1 N (proves_l4 N n_) m last a i k u7 x_15 u u2 u3 u4 u5 u6 u7 x x2 x3 b))
           (proves_j1 N (proves_l4 N n_) m last a i k u7 x_15 u u2 u3 u4 u5 u6 u7 x x2 x3 b))))
        (br (decide (0 < k))
         (idx m i fun x_48 =>
         chk (k - 1) <|
         idx x_48 (k - 1) fun x_49 =>
         idx x_49 u7 fun x_50 =>
         chk (x_50 + 1) <|
         br (decide ((x_50 + 1) < x_15))
          (some (.inl ()))
          (br (decide (0 < u7))
           (idx m i fun x_51 =>
           idx x_51 k fun x_52 =>
           chk (u7 - 1) <|
           idx x_52 (u7 - 1) fun x_53 =>
           chk (x_53 + 1) <|
           br (decide ((x_53 + 1) < x_15))
            (some (.inl ()))
            (proves_j1 N (proves_l4 N n_) m last a i k u7 x_15 u u2 u3 u4 u5 u6 u7 x x2 x3 b))
           (proves_j1 N (proves_l4 N n_) m last a i k u7 x_15 u u2 u3 u4 u5 u6 u7 x x2 x3 b)))
         (br (decide (0 < u7))
          (idx m i fun x_54 =>
          idx x_54 k fun x_55 =>
          chk (u7 - 1) <|
          idx x_55 (u7 - 1) fun x_56 =>
          chk (x_56 + 1) <|
          br (decide ((x_56 + 1) < x_15))
           (some (.inl ()))
           (proves_j1 N (proves_l4 N n_) m last a i k u7 x_15 u u2 u3 u4 u5 u6 u7 x x2 x3 b))
          (proves_j1 N (proves_l4 N n_) m last a i k u7 x_15 u u2 u3 u4 u5 u6 u7 x x2 x3 b)))))
      (br (decide (0 < i))
       (chk (i - 1) <|
       idx m (i - 1) fun x_57 =>
       idx x_57 k fun x_58 =>
       idx x_58 u7 fun x_59 =>
       chk (x_59 + 1) <|
       br (decide ((x_59 + 1) < x_15))
        (some (.inl ()))
        (br (decide (0 < k))
         (idx m i fun x_60 =>
         chk (k - 1) <|
         idx x_60 (k - 1) fun x_61 =>
         idx x_61 u7 fun x_62 =>
         chk (x_62 + 1) <|
         br (decide ((x_62 + 1) < x_15))
          (some (.inl ()))
          (br (decide (0 < u7))
           (idx m i fun x_63 =>
           idx x_63 k fun x_64 =>
           chk (u7 - 1) <|
           idx x_64 (u7 - 1) fun x_65 =>
           chk (x_65 + 1) <|
           br (decide ((x_65 + 1) < x_15))
            (some (.inl ()))
            (proves_j1 N (proves_l4 N n_) m last a i k u7 x_15 u u2 u3 u4 u5 u6 u7 x x2 x3 b))
           (proves_j1 N (proves_l4 N n_) m last a i k u7 x_15 u u2 u3 u4 u5 u6 u7 x x2 x3 b)))
         (br (decide (0 < u7))
          (idx m i fun x_66 =>
          idx x_66 k fun x_67 =>
          chk (u7 - 1) <|
          idx x_67 (u7 - 1) fun x_68 =>
          chk (x_68 + 1) <|
          br (decide ((x_68 + 1) < x_15))
           (some (.inl ()))
           (proves_j1 N (proves_l4 N n_) m last a i k u7 x_15 u u2 u3 u4 u5 u6 u7 x x2 x3 b))
          (proves_j1 N (proves_l4 N n_) m last a i k u7 x_15 u u2 u3 u4 u5 u6 u7 x x2 x3 b))))
       (br (decide (0 < k))
        (idx m i fun x_69 =>
        chk (k - 1) <|
        idx x_69 (k - 1) fun x_70 =>
        idx x_70 u7 fun x_71 =>
        chk (x_71 + 1) <|
        br (decide ((x_71 + 1) < x_15))
         (some (.inl ()))
         (br (decide (0 < u7))
          (idx m i fun x_72 =>
          idx x_72 k fun x_73 =>
          chk (u7 - 1) <|
          idx x_73 (u7 - 1) fun x_74 =>
          chk (x_74 + 1) <|
          br (decide ((x_74 + 1) < x_15))
           (some (.inl ()))
           (proves_j1 N (proves_l4 N n_) m last a i k u7 x_15 u u2 u3 u4 u5 u6 u7 x x2 x3 b))
          (proves_j1 N (proves_l4 N n_) m last a i k u7 x_15 u u2 u3 u4 u5 u6 u7 x x2 x3 b)))
        (br (decide (0 < u7))
         (idx m i fun x_75 =>
         idx x_75 k fun x_76 =>
         chk (u7 - 1) <|
         idx x_76 (u7 - 1) fun x_77 =>
         chk (x_77 + 1) <|
         br (decide ((x_77 + 1) < x_15))
          (some (.inl ()))
          (proves_j1 N (proves_l4 N n_) m last a i k u7 x_15 u u2 u3 u4 u5 u6 u7 x x2 x3 b))
         (proves_j1 N (proves_l4 N n_) m last a i k u7 x_15 u u2 u3 u4 u5 u6 u7 x x2 x3 b)))))))
   (some (.inr (.inr (m, last, a, i, u, u2, u3, u4, x, x2, x3, b))))
def proves_l3 (N : Nat) : Nat → (List Qj) → Int → Qe → Int → Int → Int → Int → Int → Qj → Qe → Int → Qe → Option ((Unit) ⊕ ((Unit) ⊕ Qo))
 | 0, _, _, _, _, _, _, _, _, _, _, _, _ => none
 | n_ + 1, m, last, a, i, u, u2, u3, u4, x, x2, x3, b =>
  br (decide (u4 < u3))
   (idx m i fun x_13 =>
   idx x_13 u4 fun x_14 =>
   (proves_l4 N N m last a i u4 u u2 u3 u4 x_14 (x_14.length : Int) 0 x x2 x3 b).bind fun e => match e with
   | .inl _ =>
    some (.inl ())
   | .inr (.inl _) =>
    some (.inr (.inl ()))
   | .inr (.inr (m_78, last_79, a_80, i_81, u_82, u2_83, u3_84, u4_85, x_86, x2_87, x3_88, b_89)) =>
    chk (u4_85 + 1) <|
    proves_l3 N n_ m_78 last_79 a_80 i_81 u_82 u2_83 u3_84 (u4_85 + 1) x_86 x2_87 x3_88 b_89)
   (some (.inr (.inr (m, last, a, u, u2, x, x2, x3, b))))
def proves_l2 (N : Nat) : Nat → (List Qj) → Int → Qe → Int → Int → Qj → Qe → Int → Qe → Option ((Unit) ⊕ ((Unit) ⊕ Ql))
 | 0, _, _, _, _, _, _, _, _, _ => none
 | n_ + 1, m, last, a, u, u2, x, x2, x3, b =>
  br (decide (u2 < u))
   (idx m u2 fun x_12 =>
   (proves_l3 N N m last a u2 u u2 (x_12.length : Int) 0 x x2 x3 b).bind fun e => match e with
   | .inl _ =>
    some (.inl ())
   | .inr (.inl _) =>
    some (.inr (.inl ()))
   | .inr (.inr (m_90, last_91, a_92, u_93, u2_94, x_95, x2_96, x3_97, b_98)) =>
    chk (u2_94 + 1) <|
    proves_l2 N n_ m_90 last_91 a_92 u_93 (u2_94 + 1) x_95 x2_96 x3_97 b_98)
   (some (.inr (.inr (m, last, a, x, x2, x3, b))))
def proves_S (N : Nat) (x : List Qe) (x2 : List Int) (x3 : Int) (p : Int) (p2 : Int) (m : List Qj) (last : Int) : Option Bool :=
 idx x p fun x_1 =>
 idx x p2 fun x_2 =>
 chk ((x2.length : Int) + 1) <|
 br (!decide ((m.length : Int) = ((x2.length : Int) + 1)))
  (some false)
  ((proves_l1 N N m last x_1 m (m.length : Int) 0 x x2 x3 x_2).bind fun e => match e with
  | .inl _ =>
   some false
  | .inr (m_5, last_6, a_7, x_8, x2_9, x3_10, b_11) =>
   (proves_l2 N N m_5 last_6 a_7 (m_5.length : Int) 0 x_8 x2_9 x3_10 b_11).bind fun e => match e with
   | .inl _ =>
    some false
   | .inr (.inl _) =>
    some false
   | .inr (.inr (m_99, last_100, a_101, x_102, x2_103, x3_104, b_105)) =>
    idx m_99 (x2_103.length : Int) fun x_106 =>
    idx x_106 (a_101.length : Int) fun x_107 =>
    idx x_107 (b_105.length : Int) fun x_108 =>
    some (decide (x_108 = last_100)))
noncomputable def proves_sp (N : Nat) : List Spec := [sp_cofpv N]
theorem proves_all (N : Nat) : AllP (SpecOK Try.prog) (proves_sp N) := ⟨sp_cofpv_ok N, trivial⟩
noncomputable def proves_c : Code := (Try.f70.body).getD .skip
noncomputable abbrev proves_B : Body := { c := proves_c, n := 247, res := [.tmp 8], outs := [⟨[.b], []⟩], m0 := 0 }
abbrev proves_rt : altD proves_B.outs → Option Bool := fun r => some r.1.1
abbrev proves_l1_at : List PI := [.c [1, 1, 1, 0, 1, 0, 0, 0], .c [1, 1, 1, 0, 1, 0, 0, 1], .l [1, 1, 1, 0, 1, 0, 0], .b 0, .c [1, 1, 1, 1]]
abbrev proves_l1_st : Sta := ⟨[2, 3, 4, 9, 10, 36, 37, 38], ⟨[.sl (.sl Qf), .i .i64, .own 0 0, .sl (.int .i64), .own 1 0, .sl (.sl Qf), .i .i64, .i .i64], [.segs [.sl Qf, .sl (.int .i64), .i .i64], .segs [.sl (.int .i64)]]⟩⟩
abbrev proves_l1_h (rec : (List Qj) → Int → Qe → (List Qj) → Int → Int → Qj → Qe → Int → Qe → Option ((Unit) ⊕ Ql)) : Leaf ((Unit) ⊕ Ql) := ⟨proves_l1_at, proves_l1_st, fun p => rec p.1.1 p.1.2.1 p.1.2.2.2.1 p.1.2.2.2.2.2.1 p.1.2.2.2.2.2.2.1 p.1.2.2.2.2.2.2.2.1 p.2.1.1 p.2.1.2.1 p.2.1.2.2.1 p.2.2.1.1⟩
abbrev proves_l1_e0 : Leaf ((Unit) ⊕ Ql) := ⟨[.c [1, 1, 1, 0, 1, 0, 0, 1, 1, 0, 0, 1, 1, 0, 0], .c [1, 1, 1, 0, 1, 0, 0, 1, 1, 0, 0, 1, 1, 0, 1], .b 1, .c [1, 1, 1, 0, 1, 0, 0, 1, 1, 1], .l [1, 1, 1, 0, 1, 0, 0], .b 0, .c [1, 1, 1, 1]], ⟨[], ⟨[], []⟩⟩, fun p => some (.inl ())⟩
abbrev proves_l1_e1 : Leaf ((Unit) ⊕ Ql) := ⟨[.c [1, 1, 1, 1, 0, 0], .c [1, 1, 1, 1, 0, 1], .c [1, 1, 1, 1, 1]], ⟨[2, 3, 4, 9, 10], ⟨[.sl (.sl Qf), .i .i64, .own 0 0, .sl (.int .i64), .own 1 0], [.segs [.sl Qf, .sl (.int .i64), .i .i64], .segs [.sl (.int .i64)]]⟩⟩, fun p => some (.inr (p.1.1, p.1.2.1, p.1.2.2.2.1, p.2.1.1, p.2.1.2.1, p.2.1.2.2.1, p.2.2.1.1))⟩
noncomputable def proves_l1_L (N : Nat) : LoopS := { at_ := proves_l1_at, sta := proves_l1_st, exits := [([.c [1, 1, 1, 0, 1, 0, 0, 1, 1, 0, 0, 1, 1, 0, 0], .c [1, 1, 1, 0, 1, 0, 0, 1, 1, 0, 0, 1, 1, 0, 1], .b 1, .c [1, 1, 1, 0, 1, 0, 0, 1, 1, 1], .l [1, 1, 1, 0, 1, 0, 0], .b 0, .c [1, 1, 1, 1]], ⟨[], ⟨[], []⟩⟩), ([.c [1, 1, 1, 1, 0, 0], .c [1, 1, 1, 1, 0, 1], .c [1, 1, 1, 1, 1]], ⟨[2, 3, 4, 9, 10], ⟨[.sl (.sl Qf), .i .i64, .own 0 0, .sl (.int .i64), .own 1 0], [.segs [.sl Qf, .sl (.int .i64), .i .i64], .segs [.sl (.int .i64)]]⟩⟩)], run := fun p k => (proves_l1 N N p.1.1 p.1.2.1 p.1.2.2.2.1 p.1.2.2.2.2.2.1 p.1.2.2.2.2.2.2.1 p.1.2.2.2.2.2.2.2.1 p.2.1.1 p.2.1.2.1 p.2.1.2.2.1 p.2.2.1.1).bind fun e => match e with | .inl x => k (.inl ((), ())) | .inr x => k (.inr (.inl ((x.1, x.2.1, (), x.2.2.1, (), ()), ((x.2.2.2.1, x.2.2.2.2.1, x.2.2.2.2.2.1, ()), (x.2.2.2.2.2.2, ()), ())))) }
theorem proves_l1_eq (N n_ : Nat) (m : List Qj) (last : Int) (a : List Int) (u : List Qj) (u2 : Int) (u3 : Int) (x : List Qe) (x2 : List Int) (x3 : Int) (b : List Int) : ev (Z := (Unit) ⊕ Ql) Try.prog (proves_sp N) proves_B [] [proves_l1_h (proves_l1 N n_), proves_l1_e0, proves_l1_e1] none 400 true proves_l1_at (stL proves_l1_st ((m, last, (), a, (), u, u2, u3, ()), ((x, x2, x3, ()), (b, ()), ()))) (stH proves_l1_st ((m, last, (), a, (), u, u2, u3, ()), ((x, x2, x3, ()), (b, ()), ()))) = proves_l1 N (n_ + 1) m last a u u2 u3 x x2 x3 b := by kernel_rfl
theorem proves_l1_ok (N : Nat) {top : Bool} : LoopOK Try.prog proves_B.c proves_B.n proves_B.m0 top (proves_l1_L N) := loop_of_ev (Z := (Unit) ⊕ Ql) (N := N) (fun m p => proves_l1 N m p.1.1 p.1.2.1 p.1.2.2.2.1 p.1.2.2.2.2.2.1 p.1.2.2.2.2.2.2.1 p.1.2.2.2.2.2.2.2.1 p.2.1.1 p.2.1.2.1 p.2.1.2.2.1 p.2.2.1.1) (fun e => match e with | .inl x => .inl ((), ()) | .inr x => .inr (.inl ((x.1, x.2.1, (), x.2.2.1, (), ()), ((x.2.2.2.1, x.2.2.2.2.1, x.2.2.2.2.2.1, ()), (x.2.2.2.2.2.2, ()), ())))) (fun _ p k => bind_congr_ (proves_l1 N N p.1.1 p.1.2.1 p.1.2.2.2.1 p.1.2.2.2.2.2.1 p.1.2.2.2.2.2.2.1 p.1.2.2.2.2.2.2.2.1 p.2.1.1 p.2.1.2.1 p.2.1.2.2.1 p.2.2.1.1) _ _ (fun e => by rcases e with x | x <;> rfl)) (fun _ => rfl) (fun m z E Xc hE hX hrec hx => leaf_of_ev (B := proves_B) (loops := []) (leaves := [proves_l1_h (proves_l1 N m), proves_l1_e0, proves_l1_e1]) (proves_all N) mixed trivial hE hX ⟨hrec, (fun p hp => by obtain rfl := Option.some.inj hp; exact hx), (fun p hp => by obtain rfl := Option.some.inj hp; exact hx), trivial⟩ RetOK.no (fun p => proves_l1_eq N m p.1.1 p.1.2.1 p.1.2.2.2.1 p.1.2.2.2.2.2.1 p.1.2.2.2.2.2.2.1 p.1.2.2.2.2.2.2.2.1 p.2.1.1 p.2.1.2.1 p.2.1.2.2.1 p.2.2.1.1))
abbrev proves_l4_at : List PI := [.c [1, 1, 1, 1, 0, 1, 0, 0, 1, 1, 0, 0, 1, 1, 0, 0, 1, 1, 0, 0, 1, 1, 0, 0, 0], .c [1, 1, 1, 1, 0, 1, 0, 0, 1, 1, 0, 0, 1, 1, 0, 0, 1, 1, 0, 0, 1, 1, 0, 0, 1], .l [1, 1, 1, 1, 0, 1, 0, 0, 1, 1, 0, 0, 1, 1, 0, 0, 1, 1, 0, 0, 1, 1, 0, 0], .b 6, .b 5, .c [1, 1, 1, 1, 0, 1, 0, 0, 1, 1, 0, 0, 1, 1, 0, 0, 1, 1, 1], .l [1, 1, 1, 1, 0, 1, 0, 0, 1, 1, 0, 0, 1, 1, 0, 0], .b 4, .b 3, .c [1, 1, 1, 1, 0, 1, 0, 0, 1, 1, 1], .l [1, 1, 1, 1, 0, 1, 0, 0], .b 2, .c [1, 1, 1, 1, 1]]
abbrev proves_l4_st : Sta := ⟨[2, 3, 4, 9, 10, 13, 14, 55, 56, 63, 64, 73, 74, 75], ⟨[.sl (.sl Qf), .i .i64, .own 0 0, .sl (.int .i64), .own 1 0, .i .i64, .i .i64, .i .i64, .i .i64, .i .i64, .i .i64, .sl (.int .i64), .i .i64, .i .i64], [.segs [.sl Qf, .sl (.int .i64), .i .i64], .segs [.sl (.int .i64)]]⟩⟩
abbrev proves_l4_h (rec : (List Qj) → Int → Qe → Int → Int → Int → Int → Int → Int → Qe → Int → Int → Qj → Qe → Int → Qe → Option ((Unit) ⊕ ((Unit) ⊕ Qh))) : Leaf ((Unit) ⊕ ((Unit) ⊕ Qh)) := ⟨proves_l4_at, proves_l4_st, fun p => rec p.1.1 p.1.2.1 p.1.2.2.2.1 p.1.2.2.2.2.2.1 p.1.2.2.2.2.2.2.1 p.1.2.2.2.2.2.2.2.1 p.1.2.2.2.2.2.2.2.2.1 p.1.2.2.2.2.2.2.2.2.2.1 p.1.2.2.2.2.2.2.2.2.2.2.1 p.1.2.2.2.2.2.2.2.2.2.2.2.1 p.1.2.2.2.2.2.2.2.2.2.2.2.2.1 p.1.2.2.2.2.2.2.2.2.2.2.2.2.2.1 p.2.1.1 p.2.1.2.1 p.2.1.2.2.1 p.2.2.1.1⟩
abbrev proves_l4_e0 : Leaf ((Unit) ⊕ ((Unit) ⊕ Qh)) := ⟨[.c [1, 1, 1, 1, 0, 1, 0, 0, 1, 1, 0, 0, 1, 1, 0, 0, 1, 1, 0, 0, 1, 1, 0, 0, 1, 1, 0, 0, 1, 0, 1, 0, 0], .c [1, 1, 1, 1, 0, 1, 0, 0, 1, 1, 0, 0, 1, 1, 0, 0, 1, 1, 0, 0, 1, 1, 0, 0, 1, 1, 0, 0, 1, 0, 1, 0, 1], .c [1, 1, 1, 1, 0, 1, 0, 0, 1, 1, 0, 0, 1, 1, 0, 0, 1, 1, 0, 0, 1, 1, 0, 0, 1, 1, 0, 0, 1, 1], .b 7, .c [1, 1, 1, 1, 0, 1, 0, 0, 1, 1, 0, 0, 1, 1, 0, 0, 1, 1, 0, 0, 1, 1, 0, 0, 1, 1, 1], .l [1, 1, 1, 1, 0, 1, 0, 0, 1, 1, 0, 0, 1, 1, 0, 0, 1, 1, 0, 0, 1, 1, 0, 0], .b 6, .b 5, .c [1, 1, 1, 1, 0, 1, 0, 0, 1, 1, 0, 0, 1, 1, 0, 0, 1, 1, 1], .l [1, 1, 1, 1, 0, 1, 0, 0, 1, 1, 0, 0, 1, 1, 0, 0], .b 4, .b 3, .c [1, 1, 1, 1, 0, 1, 0, 0, 1, 1, 1], .l [1, 1, 1, 1, 0, 1, 0, 0], .b 2, .c [1, 1, 1, 1, 1]], ⟨[], ⟨[], []⟩⟩, fun p => some (.inl ())⟩
abbrev proves_l4_e1 : Leaf ((Unit) ⊕ ((Unit) ⊕ Qh)) := ⟨[.c [1, 1, 1, 1, 0, 1, 0, 0, 1, 1, 0, 0, 1, 1, 0, 0, 1, 1, 0, 0, 1, 1, 0, 0, 1, 1, 0, 0, 1, 1, 1, 0, 0], .c [1, 1, 1, 1, 0, 1, 0, 0, 1, 1, 0, 0, 1, 1, 0, 0, 1, 1, 0, 0, 1, 1, 0, 0, 1, 1, 0, 0, 1, 1, 1, 0, 1], .b 7, .c [1, 1, 1, 1, 0, 1, 0, 0, 1, 1, 0, 0, 1, 1, 0, 0, 1, 1, 0, 0, 1, 1, 0, 0, 1, 1, 1], .l [1, 1, 1, 1, 0, 1, 0, 0, 1, 1, 0, 0, 1, 1, 0, 0, 1, 1, 0, 0, 1, 1, 0, 0], .b 6, .b 5, .c [1, 1, 1, 1, 0, 1, 0, 0, 1, 1, 0, 0, 1, 1, 0, 0, 1, 1, 1], .l [1, 1, 1, 1, 0, 1, 0, 0, 1, 1, 0, 0, 1, 1, 0, 0], .b 4, .b 3, .c [1, 1, 1, 1, 0, 1, 0, 0, 1, 1, 1], .l [1, 1, 1, 1, 0, 1, 0, 0], .b 2, .c [1, 1, 1, 1, 1]], ⟨[], ⟨[], []⟩⟩, fun p => some (.inr (.inl ()))⟩
abbrev proves_l4_e2 : Leaf ((Unit) ⊕ ((Unit) ⊕ Qh)) := ⟨[.c [1, 1, 1, 1, 0, 1, 0, 0, 1, 1, 0, 0, 1, 1, 0, 0, 1, 1, 1], .l [1, 1, 1, 1, 0, 1, 0, 0, 1, 1, 0, 0, 1, 1, 0, 0], .b 4, .b 3, .c [1, 1, 1, 1, 0, 1, 0, 0, 1, 1, 1], .l [1, 1, 1, 1, 0, 1, 0, 0], .b 2, .c [1, 1, 1, 1, 1]], ⟨[2, 3, 4, 9, 10, 13, 55, 56, 63, 64], ⟨[.sl (.sl Qf), .i .i64, .own 0 0, .sl (.int .i64), .own 1 0, .i .i64, .i .i64, .i .i64, .i .i64, .i .i64], [.segs [.sl Qf, .sl (.int .i64), .i .i64], .segs [.sl (.int .i64)]]⟩⟩, fun p => some (.inr (.inr (p.1.1, p.1.2.1, p.1.2.2.2.1, p.1.2.2.2.2.2.1, p.1.2.2.2.2.2.2.1, p.1.2.2.2.2.2.2.2.1, p.1.2.2.2.2.2.2.2.2.1, p.1.2.2.2.2.2.2.2.2.2.1, p.2.1.1, p.2.1.2.1, p.2.1.2.2.1, p.2.2.1.1)))⟩
abbrev proves_j1_at : List PI := [.c [1, 1, 1, 1, 0, 1, 0, 0, 1, 1, 0, 0, 1, 1, 0, 0, 1, 1, 0, 0, 1, 1, 0, 0, 1, 1, 0, 0, 1, 1, 0], .c [1, 1, 1, 1, 0, 1, 0, 0, 1, 1, 0, 0, 1, 1, 0, 0, 1, 1, 0, 0, 1, 1, 0, 0, 1, 1, 0, 0, 1, 1, 1], .b 7, .c [1, 1, 1, 1, 0, 1, 0, 0, 1, 1, 0, 0, 1, 1, 0, 0, 1, 1, 0, 0, 1, 1, 0, 0, 1, 1, 1], .l [1, 1, 1, 1, 0, 1, 0, 0, 1, 1, 0, 0, 1, 1, 0, 0, 1, 1, 0, 0, 1, 1, 0, 0], .b 6, .b 5, .c [1, 1, 1, 1, 0, 1, 0, 0, 1, 1, 0, 0, 1, 1, 0, 0, 1, 1, 1], .l [1, 1, 1, 1, 0, 1, 0, 0, 1, 1, 0, 0, 1, 1, 0, 0], .b 4, .b 3, .c [1, 1, 1, 1, 0, 1, 0, 0, 1, 1, 1], .l [1, 1, 1, 1, 0, 1, 0, 0], .b 2, .c [1, 1, 1, 1, 1]]
abbrev proves_j1_st : Sta := ⟨[2, 3, 4, 9, 10, 13, 14, 15, 16, 55, 56, 63, 64, 73, 74, 75], ⟨[.sl (.sl Qf), .i .i64, .own 0 0, .sl (.int .i64), .own 1 0, .i .i64, .i .i64, .i .i64, .i .i64, .i .i64, .i .i64, .i .i64, .i .i64, .sl (.int .i64), .i .i64, .i .i64], [.segs [.sl Qf, .sl (.int .i64), .i .i64], .segs [.sl (.int .i64)]]⟩⟩
abbrev proves_j1_k (N : Nat) (rec : (List Qj) → Int → Qe → Int → Int → Int → Int → Int → Int → Qe → Int → Int → Qj → Qe → Int → Qe → Option ((Unit) ⊕ ((Unit) ⊕ Qh))) : Leaf ((Unit) ⊕ ((Unit) ⊕ Qh)) := ⟨proves_j1_at, proves_j1_st, fun p => proves_j1 N rec p.1.1 p.1.2.1 p.1.2.2.2.1 p.1.2.2.2.2.2.1 p.1.2.2.2.2.2.2.1 p.1.2.2.2.2.2.2.2.1 p.1.2.2.2.2.2.2.2.2.1 p.1.2.2.2.2.2.2.2.2.2.1 p.1.2.2.2.2.2.2.2.2.2.2.1 p.1.2.2.2.2.2.2.2.2.2.2.2.1 p.1.2.2.2.2.2.2.2.2.2.2.2.2.1 p.1.2.2.2.2.2.2.2.2.2.2.2.2.2.1 p.1.2.2.2.2.2.2.2.2.2.2.2.2.2.2.1 p.1.2.2.2.2.2.2.2.2.2.2.2.2.2.2.2.1 p.2.1.1 p.2.1.2.1 p.2.1.2.2.1 p.2.2.1.1⟩
theorem proves_j1_eq (N : Nat) (rec : (List Qj) → Int → Qe → Int → Int → Int → Int → Int → Int → Qe → Int → Int → Qj → Qe → Int → Qe → Option ((Unit) ⊕ ((Unit) ⊕ Qh))) (m : List Qj) (last : Int) (a : List Int) (i : Int) (k : Int) (n : Int) (now : Int) (u : Int) (u2 : Int) (u3 : Int) (u4 : Int) (u5 : List Int) (u6 : Int) (u7 : Int) (x : List Qe) (x2 : List Int) (x3 : Int) (b : List Int) : ev (Z := (Unit) ⊕ ((Unit) ⊕ Qh)) Try.prog (proves_sp N) proves_B [proves_l1_L N] [proves_l4_h rec, proves_l4_e0, proves_l4_e1, proves_l4_e2] none 400 true proves_j1_at (stL proves_j1_st ((m, last, (), a, (), i, k, n, now, u, u2, u3, u4, u5, u6, u7, ()), ((x, x2, x3, ()), (b, ()), ()))) (stH proves_j1_st ((m, last, (), a, (), i, k, n, now, u, u2, u3, u4, u5, u6, u7, ()), ((x, x2, x3, ()), (b, ()), ()))) = proves_j1 N rec m last a i k n now u u2 u3 u4 u5 u6 u7 x x2 x3 b := by kernel_rfl
theorem proves_j1_lf (N : Nat) (rec : (List Qj) → Int → Qe → Int → Int → Int → Int → Int → Int → Qe → Int → Int → Qj → Qe → Int → Qe → Option ((Unit) ⊕ ((Unit) ⊕ Qh))) {z : (Unit) ⊕ ((Unit) ⊕ Qh)} {top : Bool} {E : EE} {Xc : Ctx} (hE : EOK proves_B.m0 E) (hX : CxOK top Xc) (hrec : LeafOK Try.prog proves_B.c proves_B.n proves_B.m0 E Xc z (proves_l4_h rec)) (h0 : LeafOK Try.prog proves_B.c proves_B.n proves_B.m0 E Xc z proves_l4_e0) (h1 : LeafOK Try.prog proves_B.c proves_B.n proves_B.m0 E Xc z proves_l4_e1) (h2 : LeafOK Try.prog proves_B.c proves_B.n proves_B.m0 E Xc z proves_l4_e2) : LeafOK Try.prog proves_B.c proves_B.n proves_B.m0 E Xc z (proves_j1_k N rec) := leaf_of_ev (B := proves_B) (loops := [proves_l1_L N]) (leaves := [proves_l4_h rec, proves_l4_e0, proves_l4_e1, proves_l4_e2]) (proves_all N) mixed ⟨proves_l1_ok N, trivial⟩ hE hX ⟨hrec, h0, h1, h2, trivial⟩ RetOK.no (fun p => proves_j1_eq N rec p.1.1 p.1.2.1 p.1.2.2.2.1 p.1.2.2.2.2.2.1 p.1.2.2.2.2.2.2.1 p.1.2.2.2.2.2.2.2.1 p.1.2.2.2.2.2.2.2.2.1 p.1.2.2.2.2.2.2.2.2.2.1 p.1.2.2.2.2.2.2.2.2.2.2.1 p.1.2.2.2.2.2.2.2.2.2.2.2.1 p.1.2.2.2.2.2.2.2.2.2.2.2.2.1 p.1.2.2.2.2.2.2.2.2.2.2.2.2.2.1 p.1.2.2.2.2.2.2.2.2.2.2.2.2.2.2.1 p.1.2.2.2.2.2.2.2.2.2.2.2.2.2.2.2.1 p.2.1.1 p.2.1.2.1 p.2.1.2.2.1 p.2.2.1.1)
noncomputable def proves_l4_L (N : Nat) : LoopS := { at_ := proves_l4_at, sta := proves_l4_st, exits := [([.c [1, 1, 1, 1, 0, 1, 0, 0, 1, 1, 0, 0, 1, 1, 0, 0, 1, 1, 0, 0, 1, 1, 0, 0, 1, 1, 0, 0, 1, 0, 1, 0, 0], .c [1, 1, 1, 1, 0, 1, 0, 0, 1, 1, 0, 0, 1, 1, 0, 0, 1, 1, 0, 0, 1, 1, 0, 0, 1, 1, 0, 0, 1, 0, 1, 0, 1], .c [1, 1, 1, 1, 0, 1, 0, 0, 1, 1, 0, 0, 1, 1, 0, 0, 1, 1, 0, 0, 1, 1, 0, 0, 1, 1, 0, 0, 1, 1], .b 7, .c [1, 1, 1, 1, 0, 1, 0, 0, 1, 1, 0, 0, 1, 1, 0, 0, 1, 1, 0, 0, 1, 1, 0, 0, 1, 1, 1], .l [1, 1, 1, 1, 0, 1, 0, 0, 1, 1, 0, 0, 1, 1, 0, 0, 1, 1, 0, 0, 1, 1, 0, 0], .b 6, .b 5, .c [1, 1, 1, 1, 0, 1, 0, 0, 1, 1, 0, 0, 1, 1, 0, 0, 1, 1, 1], .l [1, 1, 1, 1, 0, 1, 0, 0, 1, 1, 0, 0, 1, 1, 0, 0], .b 4, .b 3, .c [1, 1, 1, 1, 0, 1, 0, 0, 1, 1, 1], .l [1, 1, 1, 1, 0, 1, 0, 0], .b 2, .c [1, 1, 1, 1, 1]], ⟨[], ⟨[], []⟩⟩), ([.c [1, 1, 1, 1, 0, 1, 0, 0, 1, 1, 0, 0, 1, 1, 0, 0, 1, 1, 0, 0, 1, 1, 0, 0, 1, 1, 0, 0, 1, 1, 1, 0, 0], .c [1, 1, 1, 1, 0, 1, 0, 0, 1, 1, 0, 0, 1, 1, 0, 0, 1, 1, 0, 0, 1, 1, 0, 0, 1, 1, 0, 0, 1, 1, 1, 0, 1], .b 7, .c [1, 1, 1, 1, 0, 1, 0, 0, 1, 1, 0, 0, 1, 1, 0, 0, 1, 1, 0, 0, 1, 1, 0, 0, 1, 1, 1], .l [1, 1, 1, 1, 0, 1, 0, 0, 1, 1, 0, 0, 1, 1, 0, 0, 1, 1, 0, 0, 1, 1, 0, 0], .b 6, .b 5, .c [1, 1, 1, 1, 0, 1, 0, 0, 1, 1, 0, 0, 1, 1, 0, 0, 1, 1, 1], .l [1, 1, 1, 1, 0, 1, 0, 0, 1, 1, 0, 0, 1, 1, 0, 0], .b 4, .b 3, .c [1, 1, 1, 1, 0, 1, 0, 0, 1, 1, 1], .l [1, 1, 1, 1, 0, 1, 0, 0], .b 2, .c [1, 1, 1, 1, 1]], ⟨[], ⟨[], []⟩⟩), ([.c [1, 1, 1, 1, 0, 1, 0, 0, 1, 1, 0, 0, 1, 1, 0, 0, 1, 1, 1], .l [1, 1, 1, 1, 0, 1, 0, 0, 1, 1, 0, 0, 1, 1, 0, 0], .b 4, .b 3, .c [1, 1, 1, 1, 0, 1, 0, 0, 1, 1, 1], .l [1, 1, 1, 1, 0, 1, 0, 0], .b 2, .c [1, 1, 1, 1, 1]], ⟨[2, 3, 4, 9, 10, 13, 55, 56, 63, 64], ⟨[.sl (.sl Qf), .i .i64, .own 0 0, .sl (.int .i64), .own 1 0, .i .i64, .i .i64, .i .i64, .i .i64, .i .i64], [.segs [.sl Qf, .sl (.int .i64), .i .i64], .segs [.sl (.int .i64)]]⟩⟩)], run := fun p k => (proves_l4 N N p.1.1 p.1.2.1 p.1.2.2.2.1 p.1.2.2.2.2.2.1 p.1.2.2.2.2.2.2.1 p.1.2.2.2.2.2.2.2.1 p.1.2.2.2.2.2.2.2.2.1 p.1.2.2.2.2.2.2.2.2.2.1 p.1.2.2.2.2.2.2.2.2.2.2.1 p.1.2.2.2.2.2.2.2.2.2.2.2.1 p.1.2.2.2.2.2.2.2.2.2.2.2.2.1 p.1.2.2.2.2.2.2.2.2.2.2.2.2.2.1 p.2.1.1 p.2.1.2.1 p.2.1.2.2.1 p.2.2.1.1).bind fun e => match e with | .inl x => k (.inl ((), ())) | .inr (.inl x) => k (.inr (.inl ((), ()))) | .inr (.inr x) => k (.inr (.inr (.inl ((x.1, x.2.1, (), x.2.2.1, (), x.2.2.2.1, x.2.2.2.2.1, x.2.2.2.2.2.1, x.2.2.2.2.2.2.1, x.2.2.2.2.2.2.2.1, ()), ((x.2.2.2.2.2.2.2.2.1, x.2.2.2.2.2.2.2.2.2.1, x.2.2.2.2.2.2.2.2.2.2.1, ()), (x.2.2.2.2.2.2.2.2.2.2.2, ()), ()))))) }
theorem proves_l4_eq (N n_ : Nat) (m : List Qj) (last : Int) (a : List Int) (i : Int) (k : Int) (u : Int) (u2 : Int) (u3 : Int) (u4 : Int) (u5 : List Int) (u6 : Int) (u7 : Int) (x : List Qe) (x2 : List Int) (x3 : Int) (b : List Int) : ev (Z := (Unit) ⊕ ((Unit) ⊕ Qh)) Try.prog (proves_sp N) proves_B [proves_l1_L N] [proves_l4_h (proves_l4 N n_), proves_l4_e0, proves_l4_e1, proves_l4_e2, proves_j1_k N (proves_l4 N n_)] none 400 true proves_l4_at (stL proves_l4_st ((m, last, (), a, (), i, k, u, u2, u3, u4, u5, u6, u7, ()), ((x, x2, x3, ()), (b, ()), ()))) (stH proves_l4_st ((m, last, (), a, (), i, k, u, u2, u3, u4, u5, u6, u7, ()), ((x, x2, x3, ()), (b, ()), ()))) = proves_l4 N (n_ + 1) m last a i k u u2 u3 u4 u5 u6 u7 x x2 x3 b := by kernel_rfl
theorem proves_l4_ok (N : Nat) {top : Bool} : LoopOK Try.prog proves_B.c proves_B.n proves_B.m0 top (proves_l4_L N) := loop_of_ev (Z := (Unit) ⊕ ((Unit) ⊕ Qh)) (N := N) (fun m p => proves_l4 N m p.1.1 p.1.2.1 p.1.2.2.2.1 p.1.2.2.2.2.2.1 p.1.2.2.2.2.2.2.1 p.1.2.2.2.2.2.2.2.1 p.1.2.2.2.2.2.2.2.2.1 p.1.2.2.2.2.2.2.2.2.2.1 p.1.2.2.2.2.2.2.2.2.2.2.1 p.1.2.2.2.2.2.2.2.2.2.2.2.1 p.1.2.2.2.2.2.2.2.2.2.2.2.2.1 p.1.2.2.2.2.2.2.2.2.2.2.2.2.2.1 p.2.1.1 p.2.1.2.1 p.2.1.2.2.1 p.2.2.1.1) (fun e => match e with | .inl x => .inl ((), ()) | .inr (.inl x) => .inr (.inl ((), ())) | .inr (.inr x) => .inr (.inr (.inl ((x.1, x.2.1, (), x.2.2.1, (), x.2.2.2.1, x.2.2.2.2.1, x.2.2.2.2.2.1, x.2.2.2.2.2.2.1, x.2.2.2.2.2.2.2.1, ()), ((x.2.2.2.2.2.2.2.2.1, x.2.2.2.2.2.2.2.2.2.1, x.2.2.2.2.2.2.2.2.2.2.1, ()), (x.2.2.2.2.2.2.2.2.2.2.2, ()), ()))))) (fun _ p k => bind_congr_ (proves_l4 N N p.1.1 p.1.2.1 p.1.2.2.2.1 p.1.2.2.2.2.2.1 p.1.2.2.2.2.2.2.1 p.1.2.2.2.2.2.2.2.1 p.1.2.2.2.2.2.2.2.2.1 p.1.2.2.2.2.2.2.2.2.2.1 p.1.2.2.2.2.2.2.2.2.2.2.1 p.1.2.2.2.2.2.2.2.2.2.2.2.1 p.1.2.2.2.2.2.2.2.2.2.2.2.2.1 p.1.2.2.2.2.2.2.2.2.2.2.2.2.2.1 p.2.1.1 p.2.1.2.1 p.2.1.2.2.1 p.2.2.1.1) _ _ (fun e => by rcases e with x | x | x <;> rfl)) (fun _ => rfl) (fun m z E Xc hE hX hrec hx => leaf_of_ev (B := proves_B) (loops := [proves_l1_L N]) (leaves := [proves_l4_h (proves_l4 N m), proves_l4_e0, proves_l4_e1, proves_l4_e2, proves_j1_k N (proves_l4 N m)]) (proves_all N) mixed ⟨proves_l1_ok N, trivial⟩ hE hX ⟨hrec, (fun p hp => by obtain rfl := Option.some.inj hp; exact hx), (fun p hp => by obtain rfl := Option.some.inj hp; exact hx), (fun p hp => by obtain rfl := Option.some.inj hp; exact hx), proves_j1_lf N _ hE hX hrec (fun p hp => by obtain rfl := Option.some.inj hp; exact hx) (fun p hp => by obtain rfl := Option.some.inj hp; exact hx) (fun p hp => by obtain rfl := Option.some.inj hp; exact hx), trivial⟩ RetOK.no (fun p => proves_l4_eq N m p.1.1 p.1.2.1 p.1.2.2.2.1 p.1.2.2.2.2.2.1 p.1.2.2.2.2.2.2.1 p.1.2.2.2.2.2.2.2.1 p.1.2.2.2.2.2.2.2.2.1 p.1.2.2.2.2.2.2.2.2.2.1 p.1.2.2.2.2.2.2.2.2.2.2.1 p.1.2.2.2.2.2.2.2.2.2.2.2.1 p.1.2.2.2.2.2.2.2.2.2.2.2.2.1 p.1.2.2.2.2.2.2.2.2.2.2.2.2.2.1 p.2.1.1 p.2.1.2.1 p.2.1.2.2.1 p.2.2.1.1))
abbrev proves_l3_at : List PI := [.c [1, 1, 1, 1, 0, 1, 0, 0, 1, 1, 0, 0, 1, 1, 0, 0, 0], .c [1, 1, 1, 1, 0, 1, 0, 0, 1, 1, 0, 0, 1, 1, 0, 0, 1], .l [1, 1, 1, 1, 0, 1, 0, 0, 1, 1, 0, 0, 1, 1, 0, 0], .b 4, .b 3, .c [1, 1, 1, 1, 0, 1, 0, 0, 1, 1, 1], .l [1, 1, 1, 1, 0, 1, 0, 0], .b 2, .c [1, 1, 1, 1, 1]]
abbrev proves_l3_st : Sta := ⟨[2, 3, 4, 9, 10, 13, 55, 56, 63, 64], ⟨[.sl (.sl Qf), .i .i64, .own 0 0, .sl (.int .i64), .own 1 0, .i .i64, .i .i64, .i .i64, .i .i64, .i .i64], [.segs [.sl Qf, .sl (.int .i64), .i .i64], .segs [.sl (.int .i64)]]⟩⟩
abbrev proves_l3_h (rec : (List Qj) → Int → Qe → Int → Int → Int → Int → Int → Qj → Qe → Int → Qe → Option ((Unit) ⊕ ((Unit) ⊕ Qo))) : Leaf ((Unit) ⊕ ((Unit) ⊕ Qo)) := ⟨proves_l3_at, proves_l3_st, fun p => rec p.1.1 p.1.2.1 p.1.2.2.2.1 p.1.2.2.2.2.2.1 p.1.2.2.2.2.2.2.1 p.1.2.2.2.2.2.2.2.1 p.1.2.2.2.2.2.2.2.2.1 p.1.2.2.2.2.2.2.2.2.2.1 p.2.1.1 p.2.1.2.1 p.2.1.2.2.1 p.2.2.1.1⟩
abbrev proves_l3_e0 : Leaf ((Unit) ⊕ ((Unit) ⊕ Qo)) := ⟨[.c [1, 1, 1, 1, 0, 1, 0, 0, 1, 1, 0, 0, 1, 1, 0, 0, 1, 1, 0, 0, 1, 1, 0, 0, 1, 1, 0, 0, 1, 0, 1, 0, 0], .c [1, 1, 1, 1, 0, 1, 0, 0, 1, 1, 0, 0, 1, 1, 0, 0, 1, 1, 0, 0, 1, 1, 0, 0, 1, 1, 0, 0, 1, 0, 1, 0, 1], .c [1, 1, 1, 1, 0, 1, 0, 0, 1, 1, 0, 0, 1, 1, 0, 0, 1, 1, 0, 0, 1, 1, 0, 0, 1, 1, 0, 0, 1, 1], .b 7, .c [1, 1, 1, 1, 0, 1, 0, 0, 1, 1, 0, 0, 1, 1, 0, 0, 1, 1, 0, 0, 1, 1, 0, 0, 1, 1, 1], .l [1, 1, 1, 1, 0, 1, 0, 0, 1, 1, 0, 0, 1, 1, 0, 0, 1, 1, 0, 0, 1, 1, 0, 0], .b 6, .b 5, .c [1, 1, 1, 1, 0, 1, 0, 0, 1, 1, 0, 0, 1, 1, 0, 0, 1, 1, 1], .l [1, 1, 1, 1, 0, 1, 0, 0, 1, 1, 0, 0, 1, 1, 0, 0], .b 4, .b 3, .c [1, 1, 1, 1, 0, 1, 0, 0, 1, 1, 1], .l [1, 1, 1, 1, 0, 1, 0, 0], .b 2, .c [1, 1, 1, 1, 1]], ⟨[], ⟨[], []⟩⟩, fun p => some (.inl ())⟩
abbrev proves_l3_e1 : Leaf ((Unit) ⊕ ((Unit) ⊕ Qo)) := ⟨[.c [1, 1, 1, 1, 0, 1, 0, 0, 1, 1, 0, 0, 1, 1, 0, 0, 1, 1, 0, 0, 1, 1, 0, 0, 1, 1, 0, 0, 1, 1, 1, 0, 0], .c [1, 1, 1, 1, 0, 1, 0, 0, 1, 1, 0, 0, 1, 1, 0, 0, 1, 1, 0, 0, 1, 1, 0, 0, 1, 1, 0, 0, 1, 1, 1, 0, 1], .b 7, .c [1, 1, 1, 1, 0, 1, 0, 0, 1, 1, 0, 0, 1, 1, 0, 0, 1, 1, 0, 0, 1, 1, 0, 0, 1, 1, 1], .l [1, 1, 1, 1, 0, 1, 0, 0, 1, 1, 0, 0, 1, 1, 0, 0, 1, 1, 0, 0, 1, 1, 0, 0], .b 6, .b 5, .c [1, 1, 1, 1, 0, 1, 0, 0, 1, 1, 0, 0, 1, 1, 0, 0, 1, 1, 1], .l [1, 1, 1, 1, 0, 1, 0, 0, 1, 1, 0, 0, 1, 1, 0, 0], .b 4, .b 3, .c [1, 1, 1, 1, 0, 1, 0, 0, 1, 1, 1], .l [1, 1, 1, 1, 0, 1, 0, 0], .b 2, .c [1, 1, 1, 1, 1]], ⟨[], ⟨[], []⟩⟩, fun p => some (.inr (.inl ()))⟩
abbrev proves_l3_e2 : Leaf ((Unit) ⊕ ((Unit) ⊕ Qo)) := ⟨[.c [1, 1, 1, 1, 0, 1, 0, 0, 1, 1, 1], .l [1, 1, 1, 1, 0, 1, 0, 0], .b 2, .c [1, 1, 1, 1, 1]], ⟨[2, 3, 4, 9, 10, 55, 56], ⟨[.sl (.sl Qf), .i .i64, .own 0 0, .sl (.int .i64), .own 1 0, .i .i64, .i .i64], [.segs [.sl Qf, .sl (.int .i64), .i .i64], .segs [.sl (.int .i64)]]⟩⟩, fun p => some (.inr (.inr (p.1.1, p.1.2.1, p.1.2.2.2.1, p.1.2.2.2.2.2.1, p.1.2.2.2.2.2.2.1, p.2.1.1, p.2.1.2.1, p.2.1.2.2.1, p.2.2.1.1)))⟩
noncomputable def proves_l3_L (N : Nat) : LoopS := { at_ := proves_l3_at, sta := proves_l3_st, exits := [([.c [1, 1, 1, 1, 0, 1, 0, 0, 1, 1, 0, 0, 1, 1, 0, 0, 1, 1, 0, 0, 1, 1, 0, 0, 1, 1, 0, 0, 1, 0, 1, 0, 0], .c [1, 1, 1, 1, 0, 1, 0, 0, 1, 1, 0, 0, 1, 1, 0, 0, 1, 1, 0, 0, 1, 1, 0, 0, 1, 1, 0, 0, 1, 0, 1, 0, 1], .c [1, 1, 1, 1, 0, 1, 0, 0, 1, 1, 0, 0, 1, 1, 0, 0, 1, 1, 0, 0, 1, 1, 0, 0, 1, 1, 0, 0, 1, 1], .b 7, .c [1, 1, 1, 1, 0, 1, 0, 0, 1, 1, 0, 0, 1, 1, 0, 0, 1, 1, 0, 0, 1, 1, 0, 0, 1, 1, 1], .l [1, 1, 1, 1, 0, 1, 0, 0, 1, 1, 0, 0, 1, 1, 0, 0, 1, 1, 0, 0, 1, 1, 0, 0], .b 6, .b 5, .c [1, 1, 1, 1, 0, 1, 0, 0, 1, 1, 0, 0, 1, 1, 0, 0, 1, 1, 1], .l [1, 1, 1, 1, 0, 1, 0, 0, 1, 1, 0, 0, 1, 1, 0, 0], .b 4, .b 3, .c [1, 1, 1, 1, 0, 1, 0, 0, 1, 1, 1], .l [1, 1, 1, 1, 0, 1, 0, 0], .b 2, .c [1, 1, 1, 1, 1]], ⟨[], ⟨[], []⟩⟩), ([.c [1, 1, 1, 1, 0, 1, 0, 0, 1, 1, 0, 0, 1, 1, 0, 0, 1, 1, 0, 0, 1, 1, 0, 0, 1, 1, 0, 0, 1, 1, 1, 0, 0], .c [1, 1, 1, 1, 0, 1, 0, 0, 1, 1, 0, 0, 1, 1, 0, 0, 1, 1, 0, 0, 1, 1, 0, 0, 1, 1, 0, 0, 1, 1, 1, 0, 1], .b 7, .c [1, 1, 1, 1, 0, 1, 0, 0, 1, 1, 0, 0, 1, 1, 0, 0, 1, 1, 0, 0, 1, 1, 0, 0, 1, 1, 1], .l [1, 1, 1, 1, 0, 1, 0, 0, 1, 1, 0, 0, 1, 1, 0, 0, 1, 1, 0, 0, 1, 1, 0, 0], .b 6, .b 5, .c [1, 1, 1, 1, 0, 1, 0, 0, 1, 1, 0, 0, 1, 1, 0, 0, 1, 1, 1], .l [1, 1, 1, 1, 0, 1, 0, 0, 1, 1, 0, 0, 1, 1, 0, 0], .b 4, .b 3, .c [1, 1, 1, 1, 0, 1, 0, 0, 1, 1, 1], .l [1, 1, 1, 1, 0, 1, 0, 0], .b 2, .c [1, 1, 1, 1, 1]], ⟨[], ⟨[], []⟩⟩), ([.c [1, 1, 1, 1, 0, 1, 0, 0, 1, 1, 1], .l [1, 1, 1, 1, 0, 1, 0, 0], .b 2, .c [1, 1, 1, 1, 1]], ⟨[2, 3, 4, 9, 10, 55, 56], ⟨[.sl (.sl Qf), .i .i64, .own 0 0, .sl (.int .i64), .own 1 0, .i .i64, .i .i64], [.segs [.sl Qf, .sl (.int .i64), .i .i64], .segs [.sl (.int .i64)]]⟩⟩)], run := fun p k => (proves_l3 N N p.1.1 p.1.2.1 p.1.2.2.2.1 p.1.2.2.2.2.2.1 p.1.2.2.2.2.2.2.1 p.1.2.2.2.2.2.2.2.1 p.1.2.2.2.2.2.2.2.2.1 p.1.2.2.2.2.2.2.2.2.2.1 p.2.1.1 p.2.1.2.1 p.2.1.2.2.1 p.2.2.1.1).bind fun e => match e with | .inl x => k (.inl ((), ())) | .inr (.inl x) => k (.inr (.inl ((), ()))) | .inr (.inr x) => k (.inr (.inr (.inl ((x.1, x.2.1, (), x.2.2.1, (), x.2.2.2.1, x.2.2.2.2.1, ()), ((x.2.2.2.2.2.1, x.2.2.2.2.2.2.1, x.2.2.2.2.2.2.2.1, ()), (x.2.2.2.2.2.2.2.2, ()), ()))))) }
theorem proves_l3_eq (N n_ : Nat) (m : List Qj) (last : Int) (a : List Int) (i : Int) (u : Int) (u2 : Int) (u3 : Int) (u4 : Int) (x : List Qe) (x2 : List Int) (x3 : Int) (b : List Int) : ev (Z := (Unit) ⊕ ((Unit) ⊕ Qo)) Try.prog (proves_sp N) proves_B [proves_l1_L N, proves_l4_L N] [proves_l3_h (proves_l3 N n_), proves_l3_e0, proves_l3_e1, proves_l3_e2] none 400 true proves_l3_at (stL proves_l3_st ((m, last, (), a, (), i, u, u2, u3, u4, ()), ((x, x2, x3, ()), (b, ()), ()))) (stH proves_l3_st ((m, last, (), a, (), i, u, u2, u3, u4, ()), ((x, x2, x3, ()), (b, ()), ()))) = proves_l3 N (n_ + 1) m last a i u u2 u3 u4 x x2 x3 b := by kernel_rfl
theorem proves_l3_ok (N : Nat) {top : Bool} : LoopOK Try.prog proves_B.c proves_B.n proves_B.m0 top (proves_l3_L N) := loop_of_ev (Z := (Unit) ⊕ ((Unit) ⊕ Qo)) (N := N) (fun m p => proves_l3 N m p.1.1 p.1.2.1 p.1.2.2.2.1 p.1.2.2.2.2.2.1 p.1.2.2.2.2.2.2.1 p.1.2.2.2.2.2.2.2.1 p.1.2.2.2.2.2.2.2.2.1 p.1.2.2.2.2.2.2.2.2.2.1 p.2.1.1 p.2.1.2.1 p.2.1.2.2.1 p.2.2.1.1) (fun e => match e with | .inl x => .inl ((), ()) | .inr (.inl x) => .inr (.inl ((), ())) | .inr (.inr x) => .inr (.inr (.inl ((x.1, x.2.1, (), x.2.2.1, (), x.2.2.2.1, x.2.2.2.2.1, ()), ((x.2.2.2.2.2.1, x.2.2.2.2.2.2.1, x.2.2.2.2.2.2.2.1, ()), (x.2.2.2.2.2.2.2.2, ()), ()))))) (fun _ p k => bind_congr_ (proves_l3 N N p.1.1 p.1.2.1 p.1.2.2.2.1 p.1.2.2.2.2.2.1 p.1.2.2.2.2.2.2.1 p.1.2.2.2.2.2.2.2.1 p.1.2.2.2.2.2.2.2.2.1 p.1.2.2.2.2.2.2.2.2.2.1 p.2.1.1 p.2.1.2.1 p.2.1.2.2.1 p.2.2.1.1) _ _ (fun e => by rcases e with x | x | x <;> rfl)) (fun _ => rfl) (fun m z E Xc hE hX hrec hx => leaf_of_ev (B := proves_B) (loops := [proves_l1_L N, proves_l4_L N]) (leaves := [proves_l3_h (proves_l3 N m), proves_l3_e0, proves_l3_e1, proves_l3_e2]) (proves_all N) mixed ⟨proves_l1_ok N, proves_l4_ok N, trivial⟩ hE hX ⟨hrec, (fun p hp => by obtain rfl := Option.some.inj hp; exact hx), (fun p hp => by obtain rfl := Option.some.inj hp; exact hx), (fun p hp => by obtain rfl := Option.some.inj hp; exact hx), trivial⟩ RetOK.no (fun p => proves_l3_eq N m p.1.1 p.1.2.1 p.1.2.2.2.1 p.1.2.2.2.2.2.1 p.1.2.2.2.2.2.2.1 p.1.2.2.2.2.2.2.2.1 p.1.2.2.2.2.2.2.2.2.1 p.1.2.2.2.2.2.2.2.2.2.1 p.2.1.1 p.2.1.2.1 p.2.1.2.2.1 p.2.2.1.1))
abbrev proves_l2_at : List PI := [.c [1, 1, 1, 1, 0, 1, 0, 0, 0], .c [1, 1, 1, 1, 0, 1, 0, 0, 1], .l [1, 1, 1, 1, 0, 1, 0, 0], .b 2, .c [1, 1, 1, 1, 1]]
abbrev proves_l2_st : Sta := ⟨[2, 3, 4, 9, 10, 55, 56], ⟨[.sl (.sl Qf), .i .i64, .own 0 0, .sl (.int .i64), .own 1 0, .i .i64, .i .i64], [.segs [.sl Qf, .sl (.int .i64), .i .i64], .segs [.sl (.int .i64)]]⟩⟩
abbrev proves_l2_h (rec : (List Qj) → Int → Qe → Int → Int → Qj → Qe → Int → Qe → Option ((Unit) ⊕ ((Unit) ⊕ Ql))) : Leaf ((Unit) ⊕ ((Unit) ⊕ Ql)) := ⟨proves_l2_at, proves_l2_st, fun p => rec p.1.1 p.1.2.1 p.1.2.2.2.1 p.1.2.2.2.2.2.1 p.1.2.2.2.2.2.2.1 p.2.1.1 p.2.1.2.1 p.2.1.2.2.1 p.2.2.1.1⟩
abbrev proves_l2_e0 : Leaf ((Unit) ⊕ ((Unit) ⊕ Ql)) := ⟨[.c [1, 1, 1, 1, 0, 1, 0, 0, 1, 1, 0, 0, 1, 1, 0, 0, 1, 1, 0, 0, 1, 1, 0, 0, 1, 1, 0, 0, 1, 0, 1, 0, 0], .c [1, 1, 1, 1, 0, 1, 0, 0, 1, 1, 0, 0, 1, 1, 0, 0, 1, 1, 0, 0, 1, 1, 0, 0, 1, 1, 0, 0, 1, 0, 1, 0, 1], .c [1, 1, 1, 1, 0, 1, 0, 0, 1, 1, 0, 0, 1, 1, 0, 0, 1, 1, 0, 0, 1, 1, 0, 0, 1, 1, 0, 0, 1, 1], .b 7, .c [1, 1, 1, 1, 0, 1, 0, 0, 1, 1, 0, 0, 1, 1, 0, 0, 1, 1, 0, 0, 1, 1, 0, 0, 1, 1, 1], .l [1, 1, 1, 1, 0, 1, 0, 0, 1, 1, 0, 0, 1, 1, 0, 0, 1, 1, 0, 0, 1, 1, 0, 0], .b 6, .b 5, .c [1, 1, 1, 1, 0, 1, 0, 0, 1, 1, 0, 0, 1, 1, 0, 0, 1, 1, 1], .l [1, 1, 1, 1, 0, 1, 0, 0, 1, 1, 0, 0, 1, 1, 0, 0], .b 4, .b 3, .c [1, 1, 1, 1, 0, 1, 0, 0, 1, 1, 1], .l [1, 1, 1, 1, 0, 1, 0, 0], .b 2, .c [1, 1, 1, 1, 1]], ⟨[], ⟨[], []⟩⟩, fun p => some (.inl ())⟩
abbrev proves_l2_e1 : Leaf ((Unit) ⊕ ((Unit) ⊕ Ql)) := ⟨[.c [1, 1, 1, 1, 0, 1, 0, 0, 1, 1, 0, 0, 1, 1, 0, 0, 1, 1, 0, 0, 1, 1, 0, 0, 1, 1, 0, 0, 1, 1, 1, 0, 0], .c [1, 1, 1, 1, 0, 1, 0, 0, 1, 1, 0, 0, 1, 1, 0, 0, 1, 1, 0, 0, 1, 1, 0, 0, 1, 1, 0, 0, 1, 1, 1, 0, 1], .b 7, .c [1, 1, 1, 1, 0, 1, 0, 0, 1, 1, 0, 0, 1, 1, 0, 0, 1, 1, 0, 0, 1, 1, 0, 0, 1, 1, 1], .l [1, 1, 1, 1, 0, 1, 0, 0, 1, 1, 0, 0, 1, 1, 0, 0, 1, 1, 0, 0, 1, 1, 0, 0], .b 6, .b 5, .c [1, 1, 1, 1, 0, 1, 0, 0, 1, 1, 0, 0, 1, 1, 0, 0, 1, 1, 1], .l [1, 1, 1, 1, 0, 1, 0, 0, 1, 1, 0, 0, 1, 1, 0, 0], .b 4, .b 3, .c [1, 1, 1, 1, 0, 1, 0, 0, 1, 1, 1], .l [1, 1, 1, 1, 0, 1, 0, 0], .b 2, .c [1, 1, 1, 1, 1]], ⟨[], ⟨[], []⟩⟩, fun p => some (.inr (.inl ()))⟩
abbrev proves_l2_e2 : Leaf ((Unit) ⊕ ((Unit) ⊕ Ql)) := ⟨[.c [1, 1, 1, 1, 1, 0], .c [1, 1, 1, 1, 1, 1]], ⟨[2, 3, 4, 9, 10], ⟨[.sl (.sl Qf), .i .i64, .own 0 0, .sl (.int .i64), .own 1 0], [.segs [.sl Qf, .sl (.int .i64), .i .i64], .segs [.sl (.int .i64)]]⟩⟩, fun p => some (.inr (.inr (p.1.1, p.1.2.1, p.1.2.2.2.1, p.2.1.1, p.2.1.2.1, p.2.1.2.2.1, p.2.2.1.1)))⟩
noncomputable def proves_l2_L (N : Nat) : LoopS := { at_ := proves_l2_at, sta := proves_l2_st, exits := [([.c [1, 1, 1, 1, 0, 1, 0, 0, 1, 1, 0, 0, 1, 1, 0, 0, 1, 1, 0, 0, 1, 1, 0, 0, 1, 1, 0, 0, 1, 0, 1, 0, 0], .c [1, 1, 1, 1, 0, 1, 0, 0, 1, 1, 0, 0, 1, 1, 0, 0, 1, 1, 0, 0, 1, 1, 0, 0, 1, 1, 0, 0, 1, 0, 1, 0, 1], .c [1, 1, 1, 1, 0, 1, 0, 0, 1, 1, 0, 0, 1, 1, 0, 0, 1, 1, 0, 0, 1, 1, 0, 0, 1, 1, 0, 0, 1, 1], .b 7, .c [1, 1, 1, 1, 0, 1, 0, 0, 1, 1, 0, 0, 1, 1, 0, 0, 1, 1, 0, 0, 1, 1, 0, 0, 1, 1, 1], .l [1, 1, 1, 1, 0, 1, 0, 0, 1, 1, 0, 0, 1, 1, 0, 0, 1, 1, 0, 0, 1, 1, 0, 0], .b 6, .b 5, .c [1, 1, 1, 1, 0, 1, 0, 0, 1, 1, 0, 0, 1, 1, 0, 0, 1, 1, 1], .l [1, 1, 1, 1, 0, 1, 0, 0, 1, 1, 0, 0, 1, 1, 0, 0], .b 4, .b 3, .c [1, 1, 1, 1, 0, 1, 0, 0, 1, 1, 1], .l [1, 1, 1, 1, 0, 1, 0, 0], .b 2, .c [1, 1, 1, 1, 1]], ⟨[], ⟨[], []⟩⟩), ([.c [1, 1, 1, 1, 0, 1, 0, 0, 1, 1, 0, 0, 1, 1, 0, 0, 1, 1, 0, 0, 1, 1, 0, 0, 1, 1, 0, 0, 1, 1, 1, 0, 0], .c [1, 1, 1, 1, 0, 1, 0, 0, 1, 1, 0, 0, 1, 1, 0, 0, 1, 1, 0, 0, 1, 1, 0, 0, 1, 1, 0, 0, 1, 1, 1, 0, 1], .b 7, .c [1, 1, 1, 1, 0, 1, 0, 0, 1, 1, 0, 0, 1, 1, 0, 0, 1, 1, 0, 0, 1, 1, 0, 0, 1, 1, 1], .l [1, 1, 1, 1, 0, 1, 0, 0, 1, 1, 0, 0, 1, 1, 0, 0, 1, 1, 0, 0, 1, 1, 0, 0], .b 6, .b 5, .c [1, 1, 1, 1, 0, 1, 0, 0, 1, 1, 0, 0, 1, 1, 0, 0, 1, 1, 1], .l [1, 1, 1, 1, 0, 1, 0, 0, 1, 1, 0, 0, 1, 1, 0, 0], .b 4, .b 3, .c [1, 1, 1, 1, 0, 1, 0, 0, 1, 1, 1], .l [1, 1, 1, 1, 0, 1, 0, 0], .b 2, .c [1, 1, 1, 1, 1]], ⟨[], ⟨[], []⟩⟩), ([.c [1, 1, 1, 1, 1, 0], .c [1, 1, 1, 1, 1, 1]], ⟨[2, 3, 4, 9, 10], ⟨[.sl (.sl Qf), .i .i64, .own 0 0, .sl (.int .i64), .own 1 0], [.segs [.sl Qf, .sl (.int .i64), .i .i64], .segs [.sl (.int .i64)]]⟩⟩)], run := fun p k => (proves_l2 N N p.1.1 p.1.2.1 p.1.2.2.2.1 p.1.2.2.2.2.2.1 p.1.2.2.2.2.2.2.1 p.2.1.1 p.2.1.2.1 p.2.1.2.2.1 p.2.2.1.1).bind fun e => match e with | .inl x => k (.inl ((), ())) | .inr (.inl x) => k (.inr (.inl ((), ()))) | .inr (.inr x) => k (.inr (.inr (.inl ((x.1, x.2.1, (), x.2.2.1, (), ()), ((x.2.2.2.1, x.2.2.2.2.1, x.2.2.2.2.2.1, ()), (x.2.2.2.2.2.2, ()), ()))))) }
theorem proves_l2_eq (N n_ : Nat) (m : List Qj) (last : Int) (a : List Int) (u : Int) (u2 : Int) (x : List Qe) (x2 : List Int) (x3 : Int) (b : List Int) : ev (Z := (Unit) ⊕ ((Unit) ⊕ Ql)) Try.prog (proves_sp N) proves_B [proves_l1_L N, proves_l4_L N, proves_l3_L N] [proves_l2_h (proves_l2 N n_), proves_l2_e0, proves_l2_e1, proves_l2_e2] none 400 true proves_l2_at (stL proves_l2_st ((m, last, (), a, (), u, u2, ()), ((x, x2, x3, ()), (b, ()), ()))) (stH proves_l2_st ((m, last, (), a, (), u, u2, ()), ((x, x2, x3, ()), (b, ()), ()))) = proves_l2 N (n_ + 1) m last a u u2 x x2 x3 b := by kernel_rfl
theorem proves_l2_ok (N : Nat) {top : Bool} : LoopOK Try.prog proves_B.c proves_B.n proves_B.m0 top (proves_l2_L N) := loop_of_ev (Z := (Unit) ⊕ ((Unit) ⊕ Ql)) (N := N) (fun m p => proves_l2 N m p.1.1 p.1.2.1 p.1.2.2.2.1 p.1.2.2.2.2.2.1 p.1.2.2.2.2.2.2.1 p.2.1.1 p.2.1.2.1 p.2.1.2.2.1 p.2.2.1.1) (fun e => match e with | .inl x => .inl ((), ()) | .inr (.inl x) => .inr (.inl ((), ())) | .inr (.inr x) => .inr (.inr (.inl ((x.1, x.2.1, (), x.2.2.1, (), ()), ((x.2.2.2.1, x.2.2.2.2.1, x.2.2.2.2.2.1, ()), (x.2.2.2.2.2.2, ()), ()))))) (fun _ p k => bind_congr_ (proves_l2 N N p.1.1 p.1.2.1 p.1.2.2.2.1 p.1.2.2.2.2.2.1 p.1.2.2.2.2.2.2.1 p.2.1.1 p.2.1.2.1 p.2.1.2.2.1 p.2.2.1.1) _ _ (fun e => by rcases e with x | x | x <;> rfl)) (fun _ => rfl) (fun m z E Xc hE hX hrec hx => leaf_of_ev (B := proves_B) (loops := [proves_l1_L N, proves_l4_L N, proves_l3_L N]) (leaves := [proves_l2_h (proves_l2 N m), proves_l2_e0, proves_l2_e1, proves_l2_e2]) (proves_all N) mixed ⟨proves_l1_ok N, proves_l4_ok N, proves_l3_ok N, trivial⟩ hE hX ⟨hrec, (fun p hp => by obtain rfl := Option.some.inj hp; exact hx), (fun p hp => by obtain rfl := Option.some.inj hp; exact hx), (fun p hp => by obtain rfl := Option.some.inj hp; exact hx), trivial⟩ RetOK.no (fun p => proves_l2_eq N m p.1.1 p.1.2.1 p.1.2.2.2.1 p.1.2.2.2.2.2.1 p.1.2.2.2.2.2.2.1 p.2.1.1 p.2.1.2.1 p.2.1.2.2.1 p.2.2.1.1))
abbrev proves_st : Sta := ⟨[0, 1, 2, 3], ⟨[.agg [.sl Qf, .sl (.int .i64), .i .i64], .agg [.i .i64, .i .i64], .sl (.sl Qf), .i .i64], []⟩⟩
theorem proves_eq (N : Nat) (x : List Qe) (x2 : List Int) (x3 : Int) (p : Int) (p2 : Int) (m : List Qj) (last : Int) : ev (Z := Bool) Try.prog (proves_sp N) proves_B [proves_l1_L N, proves_l4_L N, proves_l3_L N, proves_l2_L N] [] (some proves_rt) 400 false [.c [0], .c [1]] (stL proves_st (((x, x2, x3, ()), (p, p2, ()), m, last, ()), ())) (stH proves_st (((x, x2, x3, ()), (p, p2, ()), m, last, ()), ())) = proves_S N x x2 x3 p p2 m last := by kernel_rfl
noncomputable def sp_proves (N : Nat) : Spec := { f := 70, ins := ⟨[.agg [.sl Qf, .sl (.int .i64), .i .i64], .agg [.i .i64, .i .i64], .sl (.sl Qf), .i .i64], []⟩, outs := [⟨[.b], []⟩], run := fun p k => (proves_S N p.1.1.1 p.1.1.2.1 p.1.1.2.2.1 p.1.2.1.1 p.1.2.1.2.1 p.1.2.2.1 p.1.2.2.2.1).bind fun r => k ((r, ()), ()) }
theorem sp_proves_ok (N : Nat) : SpecOK Try.prog (sp_proves N) := fn_sound (B := proves_B) (loops := [proves_l1_L N, proves_l4_L N, proves_l3_L N, proves_l2_L N]) (leaves := []) (fun p => proves_S N p.1.1.1 p.1.1.2.1 p.1.1.2.2.1 p.1.2.1.1 p.1.2.1.2.1 p.1.2.2.1 p.1.2.2.2.1) (fun r => ((r, ()), ())) proves_rt (fun _ _ _ => rfl) (fun r z h => by cases h; rfl) Try.func70 (by kernel_rfl) (by kernel_rfl) (by kernel_rfl) rfl rfl (by kernel_rfl) (fun args w => Sem.pv_run _ _ _ (by kernel_rfl) w) (proves_all N) mixed ⟨proves_l1_ok N, proves_l4_ok N, proves_l3_ok N, proves_l2_ok N, trivial⟩ (fun z E Xc hE hX hret => trivial) (fun p => proves_eq N p.1.1.1 p.1.1.2.1 p.1.1.2.2.1 p.1.2.1.1 p.1.2.1.2.1 p.1.2.2.1 p.1.2.2.2.1)

def etold_l2 (N : Nat) : Nat → Qi → Int → Qi → Int → Int → Int → Qj → Qe → Int → Qe → Int → Int → Int → Int → Option ((Unit) ⊕ Qs)
 | 0, _, _, _, _, _, _, _, _, _, _, _, _, _, _ => none
 | n_ + 1, can, n, u, u2, u3, u4, x, x2, x3, q, q2, q3, p, p2 =>
  br (decide (u4 < 4))
   ((tried_S N x x2 x3 p p2 q q2 q3).bind fun (x_30, y_31, y_32, y_33) =>
   (lfaults_S N x x2 x3 p p2 x_30).bind fun (x_34, y_35) =>
   (faults_S N x x2 x3 p p2 x_30).bind fun (x_36, y_37) =>
   br (!y_35)
    (some (.inl ()))
    (br (!decide (y_37 = 0))
     (some (.inl ()))
     (br (!decide (x_36 = x_34))
      (some (.inl ()))
      (br (decide (x_34 < n))
       (some (.inl ()))
       (chk (u4 + 1) <|
       etold_l2 N n_ can n u u2 u3 (u4 + 1) x x2 x3 y_31 y_32 y_33 p p2)))))
   (some (.inr (can, u, u2, u3, x, x2, x3, q, q2, q3)))
def etold_l1 (N : Nat) : Nat → Qi → Qi → Int → Int → Qj → Qe → Int → Qe → Int → Int → Option ((Unit) ⊕ ((Unit) ⊕ ((Unit) ⊕ ((Unit) ⊕ (Unit)))))
 | 0, _, _, _, _, _, _, _, _, _, _ => none
 | n_ + 1, can, u, u2, u3, x, x2, x3, q, q2, q3 =>
  br (decide (u3 < u2))
   (idx u u3 fun x_17 =>
   (least_S N x x2 x3 x_17.1 x_17.2).bind fun (x_18, y_19) =>
   (reading_S N x x2 x3 x_17.1 x_17.2).bind fun (x_20, y_21) =>
   (marks_S N x x2 x3 x_17.1 x_17.2).bind fun (x_22, y_23) =>
   br (!decide (y_19 = 0))
    (some (.inl ()))
    (br (!decide (y_21 = 0))
     (some (.inl ()))
     (br (!decide (y_23 = 0))
      (some (.inl ()))
      ((containsp_S N can x_17.1 x_17.2).bind fun x_24 =>
      br (!((decide (x_18 ≤ x3)) == x_24))
       (some (.inl ()))
       ((lfaults_S N x x2 x3 x_17.1 x_17.2 x_20).bind fun (x_25, y_26) =>
       br (!y_26)
        (some (.inr (.inl ())))
        (br (!decide (x_25 = x_18))
         (some (.inr (.inl ())))
         ((shows_S N x x2 x3 x_17.1 x_17.2 x_22).bind fun (x_27, y_28) =>
         br (!decide (y_28 = 0))
          (some (.inr (.inr (.inl ()))))
          (br (!decide (x_27 = x_18))
           (some (.inr (.inr (.inl ()))))
           ((proves_S N x x2 x3 x_17.1 x_17.2 x_22 x_18).bind fun x_29 =>
           br (!x_29)
            (some (.inr (.inr (.inl ()))))
            ((etold_l2 N N can x_18 u u2 u3 0 x x2 x3 q q2 q3 x_17.1 x_17.2).bind fun e => match e with
            | .inl _ =>
             some (.inr (.inr (.inr (.inl ()))))
            | .inr (can_38, u_39, u2_40, u3_41, x_42, x2_43, x3_44, q_45, q2_46, q3_47) =>
             chk (u3_41 + 1) <|
             etold_l1 N n_ can_38 u_39 u2_40 (u3_41 + 1) x_42 x2_43 x3_44 q_45 q2_46 q3_47))))))))))
   (some (.inr (.inr (.inr (.inr ())))))
def etold_S (N : Nat) (numbers : List Int) (tries : List Int) : Option Bool :=
 (hang_S N numbers).bind fun (x_1, y_2, y_3) =>
 (made_S N 4 6 10 x_1 y_2 y_3).bind fun (x_4, y_5, y_6, y_7, y_8, y_9) =>
 (hang_S N tries).bind fun (x_10, y_11, y_12) =>
 (pairs_S N x_4 y_5 y_6).bind fun (x_13, y_14) =>
 (check_S N x_4 y_5 y_6).bind fun x_15 =>
 br (!decide (x_15 = 0))
  (some false)
  (br (!decide (y_14 = 0))
   (some false)
   ((lpairs_S N x_4 y_5 y_6).bind fun x_16 =>
   (etold_l1 N N x_13 x_16 (x_16.length : Int) 0 x_4 y_5 y_6 x_10 y_11 y_12).bind fun e => match e with
   | .inl _ =>
    some false
   | .inr (.inl _) =>
    some false
   | .inr (.inr (.inl _)) =>
    some false
   | .inr (.inr (.inr (.inl _))) =>
    some false
   | .inr (.inr (.inr (.inr _))) =>
    (awake_S N).bind fun x_48 =>
    some x_48))
noncomputable def etold_sp (N : Nat) : List Spec := [sp_hang N, sp_check N, sp_least N, sp_pairs N, sp_faults N, sp_containsp N, sp_awake N, sp_made N, sp_lpairs N, sp_lfaults N, sp_tried N, sp_reading N, sp_shows N, sp_marks N, sp_proves N]
theorem etold_all (N : Nat) : AllP (SpecOK Try.prog) (etold_sp N) := ⟨sp_hang_ok N, sp_check_ok N, sp_least_ok N, sp_pairs_ok N, sp_faults_ok N, sp_containsp_ok N, sp_awake_ok N, sp_made_ok N, sp_lpairs_ok N, sp_lfaults_ok N, sp_tried_ok N, sp_reading_ok N, sp_shows_ok N, sp_marks_ok N, sp_proves_ok N, trivial⟩
noncomputable def etold_c : Code := (Try.f14.body).getD .skip
noncomputable abbrev etold_B : Body := { c := etold_c, n := 163, res := [.tmp 4], outs := [⟨[.b], []⟩], m0 := 0 }
abbrev etold_rt : altD etold_B.outs → Option Bool := fun r => some r.1.1
abbrev etold_l2_at : List PI := [.c [1, 1, 1, 1, 1, 0, 1, 0, 0, 1, 1, 0, 0, 1, 1, 1, 1, 1, 1, 1, 1, 0, 0, 0], .c [1, 1, 1, 1, 1, 0, 1, 0, 0, 1, 1, 0, 0, 1, 1, 1, 1, 1, 1, 1, 1, 0, 0, 1], .l [1, 1, 1, 1, 1, 0, 1, 0, 0, 1, 1, 0, 0, 1, 1, 1, 1, 1, 1, 1, 1, 0, 0], .b 2, .b 1, .c [1, 1, 1, 1, 1, 0, 1, 0, 0, 1, 1, 1], .l [1, 1, 1, 1, 1, 0, 1, 0, 0], .b 0, .c [1, 1, 1, 1, 1, 1]]
abbrev etold_l2_st : Sta := ⟨[5, 6, 7, 10, 11, 44, 45, 46, 124], ⟨[.own 0 0, .own 1 0, .sl Qd, .own 2 0, .i .i64, .sl Qd, .i .i64, .i .i64, .i .i64], [.segs [.sl Qf, .sl (.int .i64), .i .i64], .segs [.sl (.int .u8), .i .i64, .i .u32], .segs [.i .i64, .i .i64]]⟩⟩
abbrev etold_l2_h (rec : Qi → Int → Qi → Int → Int → Int → Qj → Qe → Int → Qe → Int → Int → Int → Int → Option ((Unit) ⊕ Qs)) : Leaf ((Unit) ⊕ Qs) := ⟨etold_l2_at, etold_l2_st, fun p => rec p.1.2.2.1 p.1.2.2.2.2.1 p.1.2.2.2.2.2.1 p.1.2.2.2.2.2.2.1 p.1.2.2.2.2.2.2.2.1 p.1.2.2.2.2.2.2.2.2.1 p.2.1.1 p.2.1.2.1 p.2.1.2.2.1 p.2.2.1.1 p.2.2.1.2.1 p.2.2.1.2.2.1 p.2.2.2.1.1 p.2.2.2.1.2.1⟩
abbrev etold_l2_e0 : Leaf ((Unit) ⊕ Qs) := ⟨[.c [1, 1, 1, 1, 1, 0, 1, 0, 0, 1, 1, 0, 0, 1, 1, 1, 1, 1, 1, 1, 1, 0, 0, 1, 1, 0, 0, 1, 1, 1, 1, 0, 0], .c [1, 1, 1, 1, 1, 0, 1, 0, 0, 1, 1, 0, 0, 1, 1, 1, 1, 1, 1, 1, 1, 0, 0, 1, 1, 0, 0, 1, 1, 1, 1, 0, 1], .b 3, .c [1, 1, 1, 1, 1, 0, 1, 0, 0, 1, 1, 0, 0, 1, 1, 1, 1, 1, 1, 1, 1, 0, 0, 1, 1, 1], .l [1, 1, 1, 1, 1, 0, 1, 0, 0, 1, 1, 0, 0, 1, 1, 1, 1, 1, 1, 1, 1, 0, 0], .b 2, .b 1, .c [1, 1, 1, 1, 1, 0, 1, 0, 0, 1, 1, 1], .l [1, 1, 1, 1, 1, 0, 1, 0, 0], .b 0, .c [1, 1, 1, 1, 1, 1]], ⟨[], ⟨[], []⟩⟩, fun p => some (.inl ())⟩
abbrev etold_l2_e1 : Leaf ((Unit) ⊕ Qs) := ⟨[.c [1, 1, 1, 1, 1, 0, 1, 0, 0, 1, 1, 1], .l [1, 1, 1, 1, 1, 0, 1, 0, 0], .b 0, .c [1, 1, 1, 1, 1, 1]], ⟨[5, 6, 7, 44, 45, 46], ⟨[.own 0 0, .own 1 0, .sl Qd, .sl Qd, .i .i64, .i .i64], [.segs [.sl Qf, .sl (.int .i64), .i .i64], .segs [.sl (.int .u8), .i .i64, .i .u32]]⟩⟩, fun p => some (.inr (p.1.2.2.1, p.1.2.2.2.1, p.1.2.2.2.2.1, p.1.2.2.2.2.2.1, p.2.1.1, p.2.1.2.1, p.2.1.2.2.1, p.2.2.1.1, p.2.2.1.2.1, p.2.2.1.2.2.1))⟩
noncomputable def etold_l2_L (N : Nat) : LoopS := { at_ := etold_l2_at, sta := etold_l2_st, exits := [([.c [1, 1, 1, 1, 1, 0, 1, 0, 0, 1, 1, 0, 0, 1, 1, 1, 1, 1, 1, 1, 1, 0, 0, 1, 1, 0, 0, 1, 1, 1, 1, 0, 0], .c [1, 1, 1, 1, 1, 0, 1, 0, 0, 1, 1, 0, 0, 1, 1, 1, 1, 1, 1, 1, 1, 0, 0, 1, 1, 0, 0, 1, 1, 1, 1, 0, 1], .b 3, .c [1, 1, 1, 1, 1, 0, 1, 0, 0, 1, 1, 0, 0, 1, 1, 1, 1, 1, 1, 1, 1, 0, 0, 1, 1, 1], .l [1, 1, 1, 1, 1, 0, 1, 0, 0, 1, 1, 0, 0, 1, 1, 1, 1, 1, 1, 1, 1, 0, 0], .b 2, .b 1, .c [1, 1, 1, 1, 1, 0, 1, 0, 0, 1, 1, 1], .l [1, 1, 1, 1, 1, 0, 1, 0, 0], .b 0, .c [1, 1, 1, 1, 1, 1]], ⟨[], ⟨[], []⟩⟩), ([.c [1, 1, 1, 1, 1, 0, 1, 0, 0, 1, 1, 1], .l [1, 1, 1, 1, 1, 0, 1, 0, 0], .b 0, .c [1, 1, 1, 1, 1, 1]], ⟨[5, 6, 7, 44, 45, 46], ⟨[.own 0 0, .own 1 0, .sl Qd, .sl Qd, .i .i64, .i .i64], [.segs [.sl Qf, .sl (.int .i64), .i .i64], .segs [.sl (.int .u8), .i .i64, .i .u32]]⟩⟩)], run := fun p k => (etold_l2 N N p.1.2.2.1 p.1.2.2.2.2.1 p.1.2.2.2.2.2.1 p.1.2.2.2.2.2.2.1 p.1.2.2.2.2.2.2.2.1 p.1.2.2.2.2.2.2.2.2.1 p.2.1.1 p.2.1.2.1 p.2.1.2.2.1 p.2.2.1.1 p.2.2.1.2.1 p.2.2.1.2.2.1 p.2.2.2.1.1 p.2.2.2.1.2.1).bind fun e => match e with | .inl x => k (.inl ((), ())) | .inr x => k (.inr (.inl (((), (), x.1, x.2.1, x.2.2.1, x.2.2.2.1, ()), ((x.2.2.2.2.1, x.2.2.2.2.2.1, x.2.2.2.2.2.2.1, ()), (x.2.2.2.2.2.2.2.1, x.2.2.2.2.2.2.2.2.1, x.2.2.2.2.2.2.2.2.2, ()), ())))) }
theorem etold_l2_eq (N n_ : Nat) (can : List Qc) (n : Int) (u : List Qc) (u2 : Int) (u3 : Int) (u4 : Int) (x : List Qe) (x2 : List Int) (x3 : Int) (q : List Int) (q2 : Int) (q3 : Int) (p : Int) (p2 : Int) : ev (Z := (Unit) ⊕ Qs) Try.prog (etold_sp N) etold_B [] [etold_l2_h (etold_l2 N n_), etold_l2_e0, etold_l2_e1] none 400 true etold_l2_at (stL etold_l2_st (((), (), can, (), n, u, u2, u3, u4, ()), ((x, x2, x3, ()), (q, q2, q3, ()), (p, p2, ()), ()))) (stH etold_l2_st (((), (), can, (), n, u, u2, u3, u4, ()), ((x, x2, x3, ()), (q, q2, q3, ()), (p, p2, ()), ()))) = etold_l2 N (n_ + 1) can n u u2 u3 u4 x x2 x3 q q2 q3 p p2 := by kernel_rfl
theorem etold_l2_ok (N : Nat) {top : Bool} : LoopOK Try.prog etold_B.c etold_B.n etold_B.m0 top (etold_l2_L N) := loop_of_ev (Z := (Unit) ⊕ Qs) (N := N) (fun m p => etold_l2 N m p.1.2.2.1 p.1.2.2.2.2.1 p.1.2.2.2.2.2.1 p.1.2.2.2.2.2.2.1 p.1.2.2.2.2.2.2.2.1 p.1.2.2.2.2.2.2.2.2.1 p.2.1.1 p.2.1.2.1 p.2.1.2.2.1 p.2.2.1.1 p.2.2.1.2.1 p.2.2.1.2.2.1 p.2.2.2.1.1 p.2.2.2.1.2.1) (fun e => match e with | .inl x => .inl ((), ()) | .inr x => .inr (.inl (((), (), x.1, x.2.1, x.2.2.1, x.2.2.2.1, ()), ((x.2.2.2.2.1, x.2.2.2.2.2.1, x.2.2.2.2.2.2.1, ()), (x.2.2.2.2.2.2.2.1, x.2.2.2.2.2.2.2.2.1, x.2.2.2.2.2.2.2.2.2, ()), ())))) (fun _ p k => bind_congr_ (etold_l2 N N p.1.2.2.1 p.1.2.2.2.2.1 p.1.2.2.2.2.2.1 p.1.2.2.2.2.2.2.1 p.1.2.2.2.2.2.2.2.1 p.1.2.2.2.2.2.2.2.2.1 p.2.1.1 p.2.1.2.1 p.2.1.2.2.1 p.2.2.1.1 p.2.2.1.2.1 p.2.2.1.2.2.1 p.2.2.2.1.1 p.2.2.2.1.2.1) _ _ (fun e => by rcases e with x | x <;> rfl)) (fun _ => rfl) (fun m z E Xc hE hX hrec hx => leaf_of_ev (B := etold_B) (loops := []) (leaves := [etold_l2_h (etold_l2 N m), etold_l2_e0, etold_l2_e1]) (etold_all N) mixed trivial hE hX ⟨hrec, (fun p hp => by obtain rfl := Option.some.inj hp; exact hx), (fun p hp => by obtain rfl := Option.some.inj hp; exact hx), trivial⟩ RetOK.no (fun p => etold_l2_eq N m p.1.2.2.1 p.1.2.2.2.2.1 p.1.2.2.2.2.2.1 p.1.2.2.2.2.2.2.1 p.1.2.2.2.2.2.2.2.1 p.1.2.2.2.2.2.2.2.2.1 p.2.1.1 p.2.1.2.1 p.2.1.2.2.1 p.2.2.1.1 p.2.2.1.2.1 p.2.2.1.2.2.1 p.2.2.2.1.1 p.2.2.2.1.2.1))
abbrev etold_l1_at : List PI := [.c [1, 1, 1, 1, 1, 0, 1, 0, 0, 0], .c [1, 1, 1, 1, 1, 0, 1, 0, 0, 1], .l [1, 1, 1, 1, 1, 0, 1, 0, 0], .b 0, .c [1, 1, 1, 1, 1, 1]]
abbrev etold_l1_st : Sta := ⟨[5, 6, 7, 44, 45, 46], ⟨[.own 0 0, .own 1 0, .sl Qd, .sl Qd, .i .i64, .i .i64], [.segs [.sl Qf, .sl (.int .i64), .i .i64], .segs [.sl (.int .u8), .i .i64, .i .u32]]⟩⟩
abbrev etold_l1_h (rec : Qi → Qi → Int → Int → Qj → Qe → Int → Qe → Int → Int → Option ((Unit) ⊕ ((Unit) ⊕ ((Unit) ⊕ ((Unit) ⊕ (Unit)))))) : Leaf ((Unit) ⊕ ((Unit) ⊕ ((Unit) ⊕ ((Unit) ⊕ (Unit))))) := ⟨etold_l1_at, etold_l1_st, fun p => rec p.1.2.2.1 p.1.2.2.2.1 p.1.2.2.2.2.1 p.1.2.2.2.2.2.1 p.2.1.1 p.2.1.2.1 p.2.1.2.2.1 p.2.2.1.1 p.2.2.1.2.1 p.2.2.1.2.2.1⟩
abbrev etold_l1_e0 : Leaf ((Unit) ⊕ ((Unit) ⊕ ((Unit) ⊕ ((Unit) ⊕ (Unit))))) := ⟨[.c [1, 1, 1, 1, 1, 0, 1, 0, 0, 1, 1, 0, 0, 1, 1, 1, 1, 0, 1, 0, 0], .c [1, 1, 1, 1, 1, 0, 1, 0, 0, 1, 1, 0, 0, 1, 1, 1, 1, 0, 1, 0, 1], .c [1, 1, 1, 1, 1, 0, 1, 0, 0, 1, 1, 0, 0, 1, 1, 1, 1, 1], .b 1, .c [1, 1, 1, 1, 1, 0, 1, 0, 0, 1, 1, 1], .l [1, 1, 1, 1, 1, 0, 1, 0, 0], .b 0, .c [1, 1, 1, 1, 1, 1]], ⟨[], ⟨[], []⟩⟩, fun p => some (.inl ())⟩
abbrev etold_l1_e1 : Leaf ((Unit) ⊕ ((Unit) ⊕ ((Unit) ⊕ ((Unit) ⊕ (Unit))))) := ⟨[.c [1, 1, 1, 1, 1, 0, 1, 0, 0, 1, 1, 0, 0, 1, 1, 1, 1, 1, 0, 1, 1, 0, 0], .c [1, 1, 1, 1, 1, 0, 1, 0, 0, 1, 1, 0, 0, 1, 1, 1, 1, 1, 0, 1, 1, 0, 1], .c [1, 1, 1, 1, 1, 0, 1, 0, 0, 1, 1, 0, 0, 1, 1, 1, 1, 1, 1], .b 1, .c [1, 1, 1, 1, 1, 0, 1, 0, 0, 1, 1, 1], .l [1, 1, 1, 1, 1, 0, 1, 0, 0], .b 0, .c [1, 1, 1, 1, 1, 1]], ⟨[], ⟨[], []⟩⟩, fun p => some (.inr (.inl ()))⟩
abbrev etold_l1_e2 : Leaf ((Unit) ⊕ ((Unit) ⊕ ((Unit) ⊕ ((Unit) ⊕ (Unit))))) := ⟨[.c [1, 1, 1, 1, 1, 0, 1, 0, 0, 1, 1, 0, 0, 1, 1, 1, 1, 1, 1, 0, 1, 1, 0, 0], .c [1, 1, 1, 1, 1, 0, 1, 0, 0, 1, 1, 0, 0, 1, 1, 1, 1, 1, 1, 0, 1, 1, 0, 1], .c [1, 1, 1, 1, 1, 0, 1, 0, 0, 1, 1, 0, 0, 1, 1, 1, 1, 1, 1, 1], .b 1, .c [1, 1, 1, 1, 1, 0, 1, 0, 0, 1, 1, 1], .l [1, 1, 1, 1, 1, 0, 1, 0, 0], .b 0, .c [1, 1, 1, 1, 1, 1]], ⟨[], ⟨[], []⟩⟩, fun p => some (.inr (.inr (.inl ())))⟩
abbrev etold_l1_e3 : Leaf ((Unit) ⊕ ((Unit) ⊕ ((Unit) ⊕ ((Unit) ⊕ (Unit))))) := ⟨[.c [1, 1, 1, 1, 1, 0, 1, 0, 0, 1, 1, 0, 0, 1, 1, 1, 1, 1, 1, 1, 1, 0, 0, 1, 1, 0, 0, 1, 1, 1, 1, 0, 0], .c [1, 1, 1, 1, 1, 0, 1, 0, 0, 1, 1, 0, 0, 1, 1, 1, 1, 1, 1, 1, 1, 0, 0, 1, 1, 0, 0, 1, 1, 1, 1, 0, 1], .b 3, .c [1, 1, 1, 1, 1, 0, 1, 0, 0, 1, 1, 0, 0, 1, 1, 1, 1, 1, 1, 1, 1, 0, 0, 1, 1, 1], .l [1, 1, 1, 1, 1, 0, 1, 0, 0, 1, 1, 0, 0, 1, 1, 1, 1, 1, 1, 1, 1, 0, 0], .b 2, .b 1, .c [1, 1, 1, 1, 1, 0, 1, 0, 0, 1, 1, 1], .l [1, 1, 1, 1, 1, 0, 1, 0, 0], .b 0, .c [1, 1, 1, 1, 1, 1]], ⟨[], ⟨[], []⟩⟩, fun p => some (.inr (.inr (.inr (.inl ()))))⟩
abbrev etold_l1_e4 : Leaf ((Unit) ⊕ ((Unit) ⊕ ((Unit) ⊕ ((Unit) ⊕ (Unit))))) := ⟨[.c [1, 1, 1, 1, 1, 1, 0], .c [1, 1, 1, 1, 1, 1, 1]], ⟨[], ⟨[], []⟩⟩, fun p => some (.inr (.inr (.inr (.inr ()))))⟩
noncomputable def etold_l1_L (N : Nat) : LoopS := { at_ := etold_l1_at, sta := etold_l1_st, exits := [([.c [1, 1, 1, 1, 1, 0, 1, 0, 0, 1, 1, 0, 0, 1, 1, 1, 1, 0, 1, 0, 0], .c [1, 1, 1, 1, 1, 0, 1, 0, 0, 1, 1, 0, 0, 1, 1, 1, 1, 0, 1, 0, 1], .c [1, 1, 1, 1, 1, 0, 1, 0, 0, 1, 1, 0, 0, 1, 1, 1, 1, 1], .b 1, .c [1, 1, 1, 1, 1, 0, 1, 0, 0, 1, 1, 1], .l [1, 1, 1, 1, 1, 0, 1, 0, 0], .b 0, .c [1, 1, 1, 1, 1, 1]], ⟨[], ⟨[], []⟩⟩), ([.c [1, 1, 1, 1, 1, 0, 1, 0, 0, 1, 1, 0, 0, 1, 1, 1, 1, 1, 0, 1, 1, 0, 0], .c [1, 1, 1, 1, 1, 0, 1, 0, 0, 1, 1, 0, 0, 1, 1, 1, 1, 1, 0, 1, 1, 0, 1], .c [1, 1, 1, 1, 1, 0, 1, 0, 0, 1, 1, 0, 0, 1, 1, 1, 1, 1, 1], .b 1, .c [1, 1, 1, 1, 1, 0, 1, 0, 0, 1, 1, 1], .l [1, 1, 1, 1, 1, 0, 1, 0, 0], .b 0, .c [1, 1, 1, 1, 1, 1]], ⟨[], ⟨[], []⟩⟩), ([.c [1, 1, 1, 1, 1, 0, 1, 0, 0, 1, 1, 0, 0, 1, 1, 1, 1, 1, 1, 0, 1, 1, 0, 0], .c [1, 1, 1, 1, 1, 0, 1, 0, 0, 1, 1, 0, 0, 1, 1, 1, 1, 1, 1, 0, 1, 1, 0, 1], .c [1, 1, 1, 1, 1, 0, 1, 0, 0, 1, 1, 0, 0, 1, 1, 1, 1, 1, 1, 1], .b 1, .c [1, 1, 1, 1, 1, 0, 1, 0, 0, 1, 1, 1], .l [1, 1, 1, 1, 1, 0, 1, 0, 0], .b 0, .c [1, 1, 1, 1, 1, 1]], ⟨[], ⟨[], []⟩⟩), ([.c [1, 1, 1, 1, 1, 0, 1, 0, 0, 1, 1, 0, 0, 1, 1, 1, 1, 1, 1, 1, 1, 0, 0, 1, 1, 0, 0, 1, 1, 1, 1, 0, 0], .c [1, 1, 1, 1, 1, 0, 1, 0, 0, 1, 1, 0, 0, 1, 1, 1, 1, 1, 1, 1, 1, 0, 0, 1, 1, 0, 0, 1, 1, 1, 1, 0, 1], .b 3, .c [1, 1, 1, 1, 1, 0, 1, 0, 0, 1, 1, 0, 0, 1, 1, 1, 1, 1, 1, 1, 1, 0, 0, 1, 1, 1], .l [1, 1, 1, 1, 1, 0, 1, 0, 0, 1, 1, 0, 0, 1, 1, 1, 1, 1, 1, 1, 1, 0, 0], .b 2, .b 1, .c [1, 1, 1, 1, 1, 0, 1, 0, 0, 1, 1, 1], .l [1, 1, 1, 1, 1, 0, 1, 0, 0], .b 0, .c [1, 1, 1, 1, 1, 1]], ⟨[], ⟨[], []⟩⟩), ([.c [1, 1, 1, 1, 1, 1, 0], .c [1, 1, 1, 1, 1, 1, 1]], ⟨[], ⟨[], []⟩⟩)], run := fun p k => (etold_l1 N N p.1.2.2.1 p.1.2.2.2.1 p.1.2.2.2.2.1 p.1.2.2.2.2.2.1 p.2.1.1 p.2.1.2.1 p.2.1.2.2.1 p.2.2.1.1 p.2.2.1.2.1 p.2.2.1.2.2.1).bind fun e => match e with | .inl x => k (.inl ((), ())) | .inr (.inl x) => k (.inr (.inl ((), ()))) | .inr (.inr (.inl x)) => k (.inr (.inr (.inl ((), ())))) | .inr (.inr (.inr (.inl x))) => k (.inr (.inr (.inr (.inl ((), ()))))) | .inr (.inr (.inr (.inr x))) => k (.inr (.inr (.inr (.inr (.inl ((), ())))))) }
theorem etold_l1_eq (N n_ : Nat) (can : List Qc) (u : List Qc) (u2 : Int) (u3 : Int) (x : List Qe) (x2 : List Int) (x3 : Int) (q : List Int) (q2 : Int) (q3 : Int) : ev (Z := (Unit) ⊕ ((Unit) ⊕ ((Unit) ⊕ ((Unit) ⊕ (Unit))))) Try.prog (etold_sp N) etold_B [etold_l2_L N] [etold_l1_h (etold_l1 N n_), etold_l1_e0, etold_l1_e1, etold_l1_e2, etold_l1_e3, etold_l1_e4] none 400 true etold_l1_at (stL etold_l1_st (((), (), can, u, u2, u3, ()), ((x, x2, x3, ()), (q, q2, q3, ()), ()))) (stH etold_l1_st (((), (), can, u, u2, u3, ()), ((x, x2, x3, ()), (q, q2, q3, ()), ()))) = etold_l1 N (n_ + 1) can u u2 u3 x x2 x3 q q2 q3 := by kernel_rfl
theorem etold_l1_ok (N : Nat) {top : Bool} : LoopOK Try.prog etold_B.c etold_B.n etold_B.m0 top (etold_l1_L N) := loop_of_ev (Z := (Unit) ⊕ ((Unit) ⊕ ((Unit) ⊕ ((Unit) ⊕ (Unit))))) (N := N) (fun m p => etold_l1 N m p.1.2.2.1 p.1.2.2.2.1 p.1.2.2.2.2.1 p.1.2.2.2.2.2.1 p.2.1.1 p.2.1.2.1 p.2.1.2.2.1 p.2.2.1.1 p.2.2.1.2.1 p.2.2.1.2.2.1) (fun e => match e with | .inl x => .inl ((), ()) | .inr (.inl x) => .inr (.inl ((), ())) | .inr (.inr (.inl x)) => .inr (.inr (.inl ((), ()))) | .inr (.inr (.inr (.inl x))) => .inr (.inr (.inr (.inl ((), ())))) | .inr (.inr (.inr (.inr x))) => .inr (.inr (.inr (.inr (.inl ((), ())))))) (fun _ p k => bind_congr_ (etold_l1 N N p.1.2.2.1 p.1.2.2.2.1 p.1.2.2.2.2.1 p.1.2.2.2.2.2.1 p.2.1.1 p.2.1.2.1 p.2.1.2.2.1 p.2.2.1.1 p.2.2.1.2.1 p.2.2.1.2.2.1) _ _ (fun e => by rcases e with x | x | x | x | x <;> rfl)) (fun _ => rfl) (fun m z E Xc hE hX hrec hx => leaf_of_ev (B := etold_B) (loops := [etold_l2_L N]) (leaves := [etold_l1_h (etold_l1 N m), etold_l1_e0, etold_l1_e1, etold_l1_e2, etold_l1_e3, etold_l1_e4]) (etold_all N) mixed ⟨etold_l2_ok N, trivial⟩ hE hX ⟨hrec, (fun p hp => by obtain rfl := Option.some.inj hp; exact hx), (fun p hp => by obtain rfl := Option.some.inj hp; exact hx), (fun p hp => by obtain rfl := Option.some.inj hp; exact hx), (fun p hp => by obtain rfl := Option.some.inj hp; exact hx), (fun p hp => by obtain rfl := Option.some.inj hp; exact hx), trivial⟩ RetOK.no (fun p => etold_l1_eq N m p.1.2.2.1 p.1.2.2.2.1 p.1.2.2.2.2.1 p.1.2.2.2.2.2.1 p.2.1.1 p.2.1.2.1 p.2.1.2.2.1 p.2.2.1.1 p.2.2.1.2.1 p.2.2.1.2.2.1))
abbrev etold_st : Sta := ⟨[0, 1], ⟨[.sl (.int .u8), .sl (.int .u8)], []⟩⟩
theorem etold_eq (N : Nat) (numbers : List Int) (tries : List Int) : ev (Z := Bool) Try.prog (etold_sp N) etold_B [etold_l2_L N, etold_l1_L N] [] (some etold_rt) 400 false [.c [0], .c [1]] (stL etold_st ((numbers, tries, ()), ())) (stH etold_st ((numbers, tries, ()), ())) = etold_S N numbers tries := by kernel_rfl
noncomputable def sp_etold (N : Nat) : Spec := { f := 14, ins := ⟨[.sl (.int .u8), .sl (.int .u8)], []⟩, outs := [⟨[.b], []⟩], run := fun p k => (etold_S N p.1.1 p.1.2.1).bind fun r => k ((r, ()), ()) }
theorem sp_etold_ok (N : Nat) : SpecOK Try.prog (sp_etold N) := fn_sound (B := etold_B) (loops := [etold_l2_L N, etold_l1_L N]) (leaves := []) (fun p => etold_S N p.1.1 p.1.2.1) (fun r => ((r, ()), ())) etold_rt (fun _ _ _ => rfl) (fun r z h => by cases h; rfl) Try.func14 (by kernel_rfl) (by kernel_rfl) (by kernel_rfl) rfl rfl (by kernel_rfl) (fun args w => Sem.pv_run _ _ _ (by kernel_rfl) w) (etold_all N) mixed ⟨etold_l2_ok N, etold_l1_ok N, trivial⟩ (fun z E Xc hE hX hret => trivial) (fun p => etold_eq N p.1.1 p.1.2.1)

end Go.Proofs.Ytfcnhnbnjdccfaa

namespace Go.Proofs.Ytfcnhnbnjdccfaa
set_option linter.all false
open Go

section
variable {N : Nat} {T : List (List Int)} {H A B : List Int} {f a b : Int}
theorem ixL_at {α : Type} {f : α → Option Bool} {p : α → Bool} {s : List α} (hf : ∀ x ∈ s, f x = some (p x)) (hs : s.length ≤ 1000000) : ∀ (n k : Nat), s.length < n + k → k ≤ s.length →
  Ok (ixL f n s (s.length : Int) (k : Int)) fun r => match r with | .inl i => (0 ≤ i ∧ i < s.length) ∧ ∃ x, s[i.toNat]? = some x ∧ p x = true | .inr _ => True
 | 0, k, h, hk => by omega
 | n + 1, k, h, hk => by
  unfold ixL
  by_cases c : k < s.length
  ·have hk' : s[((k : Nat) : Int).toNat]? = some s[k] := by simp [c]
   rw [br_dec (by omega), idx_eq (by omega) hk', hf _ (List.getElem_mem c)]
   simp only [Option.bind_some]
   refine Ok.br (fun g => Ok.some ⟨⟨by omega, by omega⟩, _, hk', g⟩) (fun _ => Ok.chk (by omega) ?_)
   have := ixL_at hf hs n (k + 1) (by omega) (by omega)
   rw [show ((k + 1 : Nat) : Int) = (k : Int) + 1 by omega] at this
   exact this
  ·rw [br_ndec (by omega)]; exact Ok.some trivial
theorem indexi_p {s : List Int} {v : Int} (hs : s.length ≤ 1000) (hN : s.length < N) : Ok (indexi_S N s v) fun j => (-1 ≤ j ∧ j < s.length) ∧ (0 ≤ j → s[j.toNat]? = some v) := by
 unfold indexi_S
 rw [indexi_gen]
 refine Ok.bind (ixL_at (f := fun x => some (decide (v = x))) (p := fun x => decide (v = x)) (s := s) (fun _ _ => rfl) (by omega) N 0 (by omega) (by omega)) (fun r hr => ?_)
 cases r with
 | inl i =>
  obtain ⟨h1, x, h2, h3⟩ := hr
  refine Ok.some ⟨by omega, fun _ => ?_⟩
  rw [h2, of_decide_eq_true h3]
 | inr u => exact Ok.some ⟨by omega, fun h => by omega⟩
theorem drop_getI {A : List Int} {i x w : Int} (h0 : 0 ≤ i) (hx : 0 ≤ x) (h : (A.drop i.toNat)[x.toNat]? = some w) : A.getD (i + x).toNat 0 = w := by
 rw [List.getElem?_drop] at h
 rw [show (i + x).toNat = i.toNat + x.toNat by omega, List.getD, h]
 rfl
theorem tried_l1_q (hN : 20 ≤ N) (hA : A.length ≤ 6) (hB : B.length ≤ 6) (hH : H.length ≤ 10) {p p2 : Int} (hp : 0 ≤ p) (hp2 : 0 ≤ p2) (hTa : T[p.toNat]? = some A) (hTb : T[p2.toNat]? = some B) {b : List Int} : ∀ (n h : Nat) (i k b2 b3 : Int) (out : List (Int × Int)), H.length < n + h → h ≤ H.length → out.length = h → (0 ≤ i ∧ i ≤ A.length) → (0 ≤ k ∧ k ≤ B.length) → Bell b b2 → runF H A B out (0, 0, 0) = some (h, i.toNat, k.toNat) →
  Ok (tried_l1 N n i k H (H.length : Int) h b b2 b3 T H f p p2 out) fun r => BellR b (r.1, r.2.1, r.2.2.1) ∧ r.2.2.2.length = H.length ∧ fitL H A B r.2.2.2 (0, 0, 0) = true
 | 0, h, i, k, b2, b3, out, hn, hh, ho, hi, hk, hb, _ => by omega
 | n + 1, h, i, k, b2, b3, out, hn, hh, ho, hi, hk, hb, hr0 => by
  rw [tried_l1]
  refine Ok.brd (fun c => ?_) (fun c => Ok.some ⟨⟨rfl, hb⟩, by dsimp only; omega, by dsimp only; rw [fitL_run, hr0]; rfl⟩)
  rw [idx_get 0 (by omega) (by omega)]
  rw [show ((h : Nat) : Int).toNat = h by omega]
  generalize hw : H.getD h 0 = w
  rw [idx_eq hp hTa]
  refine Ok.grd (by simp only [decide_eq_true_eq]; exact hi) (Ok.bind (indexi_p (by rw [List.length_drop]; omega) (by rw [List.length_drop]; omega)) (fun x3 h3 => ?_))
  rw [idx_eq hp2 hTb]
  refine Ok.grd (by simp only [decide_eq_true_eq]; exact hk) (Ok.bind (indexi_p (by rw [List.length_drop]; omega) (by rw [List.length_drop]; omega)) (fun x5 h5 => ?_))
  obtain ⟨h3, g3⟩ := h3
  obtain ⟨h5, g5⟩ := h5
  rw [List.length_drop] at h3 h5
  have J : ∀ (i' k' y2 y3 q q2 : Int), (0 ≤ i' ∧ i' ≤ A.length) → (0 ≤ k' ∧ k' ≤ B.length) → Bell b y2 → stepF A B w (h, i.toNat, k.toNat) (q, q2) = some (h + 1, i'.toNat, k'.toNat) → Ok (tried_j1 N (tried_l1 N n) i' k' H (H.length : Int) h b y2 y3 T H f p p2 out q q2) fun r => BellR b (r.1, r.2.1, r.2.2.1) ∧ r.2.2.2.length = H.length ∧ fitL H A B r.2.2.2 (0, 0, 0) = true := by
   intro i' k' y2 y3 q q2 hi' hk' hb' hst
   unfold tried_j1
   refine Ok.lim (by simp; omega) (Ok.chk (by omega) ?_)
   have := tried_l1_q hN hA hB hH hp hp2 hTa hTb (b := b) n (h + 1) i' k' y2 y3 (out ++ [(q, q2)]) (by omega) (by omega) (by simp; omega) hi' hk' hb' (by rw [runF_app, hr0]; simp only [Option.bind_some, runF]; rw [hw, hst]; rfl)
   rw [show ((h + 1 : Nat) : Int) = (h : Int) + 1 by omega] at this
   exact this
  have T1 : 0 ≤ x3 → stepF A B w (h, i.toNat, k.toNat) (1, i + x3) = some (h + 1, (i + x3 + 1).toNat, k.toNat) := fun c => by
   have g := drop_getI hi.1 c (g3 c)
   unfold stepF
   rw [if_pos rfl]
   dsimp only
   rw [if_pos ⟨by omega, by omega, g⟩, show (i + x3 + 1).toNat = (i + x3).toNat + 1 by omega]
  have T2 : 0 ≤ x5 → stepF A B w (h, i.toNat, k.toNat) (2, k + x5) = some (h + 1, i.toNat, (k + x5 + 1).toNat) := fun c => by
   have g := drop_getI hk.1 c (g5 c)
   unfold stepF
   rw [if_neg (show ¬ ((2, k + x5) : Int × Int).1 = 1 by dsimp only; omega), if_pos rfl]
   dsimp only
   rw [if_pos ⟨by omega, by omega, g⟩, show (k + x5 + 1).toNat = (k + x5).toNat + 1 by omega]
  have T3 : stepF A B w (h, i.toNat, k.toNat) (3, 0) = some (h + 1, i.toNat, k.toNat) := rfl
  refine Ok.brd (fun c3 => ?_) (fun c3 => ?_)
  ·refine Ok.brd (fun c4 => ?_) (fun c4 => ?_)
   ·refine Ok.bind (seldom_ok N hb (by omega)) (fun r hr => ?_)
    obtain ⟨s1, b1, z1, v1⟩ := r
    obtain ⟨hr1, hb1⟩ := hr
    dsimp only at hr1 hb1 ⊢
    subst hr1
    refine Ok.br (fun _ => ?_) (fun _ => ?_)
    ·exact Ok.chk (by omega) (Ok.chk (by omega) (J _ _ _ _ _ _ (by omega) hk hb1 (T1 (by omega))))
    ·refine Ok.brd (fun c5 => ?_) (fun _ => J _ _ _ _ _ _ hi hk hb1 T3)
     refine Ok.bind (seldom_ok N hb1 (by omega)) (fun r hr => ?_)
     obtain ⟨s2, b2, z2, v2⟩ := r
     obtain ⟨hr1, hb2⟩ := hr
     dsimp only at hr1 hb2 ⊢
     subst hr1
     refine Ok.br (fun _ => ?_) (fun _ => J _ _ _ _ _ _ hi hk hb2 T3)
     exact Ok.chk (by omega) (Ok.chk (by omega) (J _ _ _ _ _ _ hi (by omega) hb2 (T2 (by omega))))
   ·refine Ok.bind (seldom_ok N hb (by omega)) (fun r hr => ?_)
    obtain ⟨s1, b1, z1, v1⟩ := r
    obtain ⟨hr1, hb1⟩ := hr
    dsimp only at hr1 hb1 ⊢
    subst hr1
    refine Ok.br (fun _ => ?_) (fun _ => ?_)
    ·refine Ok.bind (seldom_ok N hb1 (by omega)) (fun r hr => ?_)
     obtain ⟨s2, b2, z2, v2⟩ := r
     obtain ⟨hr1, hb2⟩ := hr
     dsimp only at hr1 hb2 ⊢
     subst hr1
     refine Ok.br (fun _ => ?_) (fun _ => ?_)
     ·exact Ok.chk (by omega) (Ok.chk (by omega) (J _ _ _ _ _ _ (by omega) hk hb2 (T1 (by omega))))
     ·refine Ok.brd (fun c5 => ?_) (fun _ => J _ _ _ _ _ _ hi hk hb2 T3)
      refine Ok.bind (seldom_ok N hb2 (by omega)) (fun r hr => ?_)
      obtain ⟨s3, b3, z3, v3⟩ := r
      obtain ⟨hr1, hb3⟩ := hr
      dsimp only at hr1 hb3 ⊢
      subst hr1
      refine Ok.br (fun _ => ?_) (fun _ => J _ _ _ _ _ _ hi hk hb3 T3)
      exact Ok.chk (by omega) (Ok.chk (by omega) (J _ _ _ _ _ _ hi (by omega) hb3 (T2 (by omega))))
    ·refine Ok.brd (fun c5 => ?_) (fun _ => J _ _ _ _ _ _ hi hk hb1 T3)
     refine Ok.bind (seldom_ok N hb1 (by omega)) (fun r hr => ?_)
     obtain ⟨s2, b2, z2, v2⟩ := r
     obtain ⟨hr1, hb2⟩ := hr
     dsimp only at hr1 hb2 ⊢
     subst hr1
     refine Ok.br (fun _ => ?_) (fun _ => J _ _ _ _ _ _ hi hk hb2 T3)
     exact Ok.chk (by omega) (Ok.chk (by omega) (J _ _ _ _ _ _ hi (by omega) hb2 (T2 (by omega))))
  ·refine Ok.brd (fun c5 => ?_) (fun _ => J _ _ _ _ _ _ hi hk hb T3)
   refine Ok.bind (seldom_ok N hb (by omega)) (fun r hr => ?_)
   obtain ⟨s1, b1, z1, v1⟩ := r
   obtain ⟨hr1, hb1⟩ := hr
   dsimp only at hr1 hb1 ⊢
   subst hr1
   refine Ok.br (fun _ => ?_) (fun _ => J _ _ _ _ _ _ hi hk hb1 T3)
   exact Ok.chk (by omega) (Ok.chk (by omega) (J _ _ _ _ _ _ hi (by omega) hb1 (T2 (by omega))))
theorem tried_fit (hN : 20 ≤ N) (hF : Fine T H f) {p p2 : Int} (hp : 0 ≤ p ∧ p < T.length) (hp2 : 0 ≤ p2 ∧ p2 < T.length) {b : List Int} {b2 b3 : Int} (hb : Bell b b2) : Ok (tried_S N T H f p p2 b b2 b3) fun r => r.1.length = H.length ∧ BellR b r.2 ∧ fitL H (T.getD p.toNat []) (T.getD p2.toNat []) r.1 (0, 0, 0) = true := by
 have hH := hF.h
 have lA := hF.l (T.getD p.toNat []) (getD_mem (by omega))
 have lB := hF.l (T.getD p2.toNat []) (getD_mem (by omega))
 have hTa : T[p.toNat]? = some (T.getD p.toNat []) := by
  have : p.toNat < T.length := by omega
  simp [List.getD, this]
 have hTb : T[p2.toNat]? = some (T.getD p2.toNat []) := by
  have : p2.toNat < T.length := by omega
  simp [List.getD, this]
 unfold tried_S
 refine Ok.bind (tried_l1_q (f := f) hN lA.2 lB.2 hH hp.1 hp2.1 hTa hTb N 0 0 0 b2 b3 [] (by omega) (by omega) rfl (by omega) (by omega) hb rfl) (fun r hr => ?_)
 obtain ⟨g, g2, g3, out⟩ := r
 exact Ok.some ⟨hr.2.1, hr.1, hr.2.2⟩
theorem lfaults_l1_q {l u : List (Int × Int)} (hl : l.length = H.length) (hA : A.length ≤ 6) (hB : B.length ≤ 6) (hH : H.length ≤ 10) : ∀ (n : Nat) (x : At3) (m : Int), l.length < n + x.1 → x.1 ≤ l.length → x.2.1 ≤ A.length → x.2.2 ≤ B.length → -100 ≤ m - l.length + x.1 ∧ m + l.length - x.1 ≤ 100 → fitL H A B (l.drop x.1) x = true →
  lfaults_l1 N n l A B m x.2.1 x.2.2 l (l.length : Int) x.1 T H f = some (.inr (.inr (l, m + (l.length - x.1) - 2 * toldN (l.drop x.1), T, H, f)))
 | 0, x, m, h, _, _, _, _, _ => by omega
 | n + 1, x, m, h, hx, hi, hk, hm, hf => by
  rw [lfaults_l1]
  obtain ⟨h0, i, k⟩ := x
  dsimp only at *
  by_cases c : h0 < l.length
  ·have hd : l.drop h0 = l.getD h0 (0, 0) :: l.drop (h0 + 1) := by
    rw [List.drop_eq_getElem_cons c]; simp [List.getD, c]
   have hk' : l[((h0 : Nat) : Int).toNat]? = some (l.getD h0 (0, 0)) := by simp [List.getD, c]
   have hw : H[((h0 : Nat) : Int).toNat]? = some (H.getD h0 0) := by
    have : h0 < H.length := by omega
    simp [List.getD, this]
   rw [hd] at hf
   generalize l.getD h0 (0, 0) = q at *
   obtain ⟨s, p⟩ := q
   rw [br_dec (by omega), idx_eq (by omega) hk', br_ndec (by omega), hd]
   unfold fitL at hf
   unfold toldN
   dsimp only at hf ⊢
   have J : ∀ (y : At3) (m' : Int), y.1 = h0 + 1 → y.2.1 ≤ A.length → y.2.2 ≤ B.length → fitL H A B (l.drop (h0 + 1)) y = true → m' = m + 1 - 2 * (if s = 3 then 0 else 1) →
     lfaults_j1 N (lfaults_l1 N n) l A B m' y.2.1 y.2.2 l (l.length : Int) h0 T H f = some (.inr (.inr (l, m + (l.length - h0) - 2 * ((if s = 3 then 0 else 1) + toldN (l.drop (h0 + 1))), T, H, f))) := by
    intro y m' hy hy1 hy2 hs hm'
    unfold lfaults_j1
    rw [chk_eq (by omega)]
    have := lfaults_l1_q (u := u) hl hA hB hH n y m' (by omega) (by omega) hy1 hy2 (by split at hm' <;> omega) (by rw [hy]; exact hs)
    rw [hy, show ((h0 + 1 : Nat) : Int) = (h0 : Int) + 1 by omega] at this
    rw [this, hm']
    rw [show m + 1 - 2 * (if s = 3 then (0 : Int) else 1) + ((l.length : Int) - ((h0 : Int) + 1)) - 2 * toldN (l.drop (h0 + 1)) = m + (l.length - h0) - 2 * ((if s = 3 then 0 else 1) + toldN (l.drop (h0 + 1))) by split <;> omega]
   unfold stepF at hf
   dsimp only at hf
   by_cases c1 : s = 1
   ·rw [if_pos c1] at hf
    by_cases g : (i : Int) ≤ p ∧ p < (A.length : Int) ∧ A.getD p.toNat 0 = H.getD h0 0
    ·rw [if_pos g] at hf
     have e3 : (decide (s = 3) && decide (p = 0)) = false := by subst c1; rfl
     rw [e3, br_false, br_dec c1, br_dec g.1, br_dec g.2.1, idx_get 0 (by omega) (by omega), idx_eq (by omega) hw, br_dec g.2.2, chk_eq (by omega), chk_eq (by omega)]
     have := J (h0 + 1, p.toNat + 1, k) (m - 1) rfl (by dsimp only; omega) hk hf (by rw [if_neg (by omega)]; omega)
     rw [show (((h0 + 1, p.toNat + 1, k) : At3).2.1 : Int) = p + 1 by dsimp only; omega] at this
     exact this
    ·rw [if_neg g] at hf; cases hf
   ·rw [if_neg c1] at hf
    by_cases c2 : s = 2
    ·rw [if_pos c2] at hf
     by_cases g : (k : Int) ≤ p ∧ p < (B.length : Int) ∧ B.getD p.toNat 0 = H.getD h0 0
     ·rw [if_pos g] at hf
      have e3 : (decide (s = 3) && decide (p = 0)) = false := by subst c2; rfl
      rw [e3, br_false, br_ndec c1, br_dec c2, br_dec g.1, br_dec g.2.1, idx_get 0 (by omega) (by omega), idx_eq (by omega) hw, br_dec g.2.2, chk_eq (by omega), chk_eq (by omega)]
      have := J (h0 + 1, i, p.toNat + 1) (m - 1) rfl hi (by dsimp only; omega) hf (by rw [if_neg (by omega)]; omega)
      rw [show (((h0 + 1, i, p.toNat + 1) : At3).2.2 : Int) = p + 1 by dsimp only; omega] at this
      exact this
     ·rw [if_neg g] at hf; cases hf
    ·rw [if_neg c2] at hf
     by_cases c3 : s = 3 ∧ p = 0
     ·rw [if_pos c3] at hf
      obtain ⟨rfl, rfl⟩ := c3
      simp only [decide_true, Bool.and_self, br_true]
      rw [chk_eq (by omega)]
      exact J (h0 + 1, i, k) (m + 1) rfl hi hk hf (by simp)
     ·rw [if_neg c3] at hf; cases hf
  ·rw [br_ndec (by omega), List.drop_of_length_le (by omega)]
   simp only [toldN]
   rw [show m + ((l.length : Int) - (h0 : Int)) - 2 * 0 = m by omega]
theorem lfaults_v (hN : 20 ≤ N) (hF : Fine T H f) {p p2 : Int} (hp : 0 ≤ p ∧ p < T.length) (hp2 : 0 ≤ p2 ∧ p2 < T.length) {l : List (Int × Int)} (hl : l.length = H.length) (hf : fitL H (T.getD p.toNat []) (T.getD p2.toNat []) l (0, 0, 0) = true) : lfaults_S N T H f p p2 l = some (((T.getD p.toNat []).length : Int) + (T.getD p2.toNat []).length + H.length - 2 * toldN l, true) := by
 have hH := hF.h
 have lA := hF.l (T.getD p.toNat []) (getD_mem (by omega))
 have lB := hF.l (T.getD p2.toNat []) (getD_mem (by omega))
 unfold lfaults_S
 rw [idx_get [] hp.1 (by omega), idx_get [] hp2.1 (by omega), chk_eq (by omega)]
 have := lfaults_l1_q (N := N) (T := T) (f := f) (u := l) hl lA.2 lB.2 hH N (0, 0, 0) (((T.getD p.toNat []).length : Int) + (T.getD p2.toNat []).length) (by dsimp only; omega) (by dsimp only; omega) (by dsimp only; omega) (by dsimp only; omega) (by dsimp only; omega) (by rw [List.drop_zero]; exact hf)
 rw [List.drop_zero] at this
 dsimp only at this
 rw [show ((0 : Nat) : Int) = 0 from rfl] at this
 rw [this]
 simp only [Option.bind_some]
 rw [hl]
 simp only [decide_true]
 rw [show ((T.getD p.toNat []).length : Int) + (T.getD p2.toNat []).length + ((H.length : Int) - 0) - 2 * toldN l = ((T.getD p.toNat []).length : Int) + (T.getD p2.toNat []).length + H.length - 2 * toldN l by omega]
/-- A reading that fits has at least so many faults. -/
theorem fit_least {l : List (Int × Int)} (hl : l.length = H.length) (hf : fitL H A B l (0, 0, 0) = true) : leastV H A B ≤ (A.length : Int) + B.length + H.length - 2 * toldN l := by
 have hm : l ∈ rdAll H A B := by
  have := fit_mem l (0, 0, 0) hf
  rw [hl] at this; exact this
 have := rdAll_le l hm
 have lv : leastV H A B = (A.length : Int) + B.length + H.length - 2 * (tv mayA H A B (0, 0, 0)).1 := rfl
 omega
end
end Go.Proofs.Ytfcnhnbnjdccfaa

namespace Go.Proofs.Ytfcnhnbnjdccfaa
set_option linter.all false
open Go

section
variable {N : Nat} {T : List (List Int)} {H A B : List Int} {f : Int} {Z : Type} {m : List (List (List Int))} {i k n : Nat} {now : Int} {bad X : Option Z}
theorem Mks.lens (h : Mks H A B m) (hi : i ≤ H.length) (hk : k ≤ A.length) : m.length = H.length + 1 ∧ (m.getD i []).length = A.length + 1 ∧ ((m.getD i []).getD k []).length = B.length + 1 := by
 obtain ⟨g1, g2⟩ := h.shp
 obtain ⟨g3, g4⟩ := g2 i (by omega)
 exact ⟨g1, g3, g4 k (by omega)⟩
theorem blkI (h : Mks H A B m) (hi : i ≤ H.length) (hk : k ≤ A.length) (hn : n ≤ B.length) (hH : H.length ≤ 10) (hs : 0 < i → now ≤ val3 m (i - 1) k n + 1) :
  br (decide (0 < (i : Int))) (chk ((i : Int) - 1) <| idx m ((i : Int) - 1) fun r => idx r (k : Int) fun q => idx q (n : Int) fun v => chk (v + 1) <| br (decide (v + 1 < now)) bad X) X = X := by
 by_cases c : 0 < i
 ·obtain ⟨l1, l2, l3⟩ := h.lens (i := i - 1) (by omega) hk
  have e1 : ((i : Int) - 1).toNat = i - 1 := by omega
  have g := h.rng (i - 1) k n (by omega) hk hn
  have := hs c
  rw [br_dec (by omega), chk_eq (by omega), idx_get [] (by omega) (by omega), e1, idx_get [] (by omega) (by omega), Int.toNat_natCast, idx_get 0 (by omega) (by omega), Int.toNat_natCast]
  unfold val3 at g this
  rw [chk_eq (by omega), br_ndec (by omega)]
 ·rw [br_ndec (by omega)]
theorem blkK (h : Mks H A B m) (hi : i ≤ H.length) (hk : k ≤ A.length) (hn : n ≤ B.length) (hA : A.length ≤ 6) (hs : 0 < k → now ≤ val3 m i (k - 1) n + 1) :
  br (decide (0 < (k : Int))) (idx m (i : Int) fun r => chk ((k : Int) - 1) <| idx r ((k : Int) - 1) fun q => idx q (n : Int) fun v => chk (v + 1) <| br (decide (v + 1 < now)) bad X) X = X := by
 by_cases c : 0 < k
 ·obtain ⟨l1, l2, l3⟩ := h.lens (k := k - 1) hi (by omega)
  have e1 : ((k : Int) - 1).toNat = k - 1 := by omega
  have g := h.rng i (k - 1) n hi (by omega) hn
  have := hs c
  rw [br_dec (by omega), idx_get [] (by omega) (by omega), Int.toNat_natCast, chk_eq (by omega), idx_get [] (by omega) (by omega), e1, idx_get 0 (by omega) (by omega), Int.toNat_natCast]
  unfold val3 at g this
  rw [chk_eq (by omega), br_ndec (by omega)]
 ·rw [br_ndec (by omega)]
theorem blkN (h : Mks H A B m) (hi : i ≤ H.length) (hk : k ≤ A.length) (hn : n ≤ B.length) (hB : B.length ≤ 6) (hs : 0 < n → now ≤ val3 m i k (n - 1) + 1) :
  br (decide (0 < (n : Int))) (idx m (i : Int) fun r => idx r (k : Int) fun q => chk ((n : Int) - 1) <| idx q ((n : Int) - 1) fun v => chk (v + 1) <| br (decide (v + 1 < now)) bad X) X = X := by
 by_cases c : 0 < n
 ·obtain ⟨l1, l2, l3⟩ := h.lens hi hk
  have e1 : ((n : Int) - 1).toNat = n - 1 := by omega
  have g := h.rng i k (n - 1) hi hk (by omega)
  have := hs c
  rw [br_dec (by omega), idx_get [] (by omega) (by omega), Int.toNat_natCast, idx_get [] (by omega) (by omega), Int.toNat_natCast, chk_eq (by omega), idx_get 0 (by omega) (by omega), e1]
  unfold val3 at g this
  rw [chk_eq (by omega), br_ndec (by omega)]
 ·rw [br_ndec (by omega)]
theorem blkB (h : Mks H A B m) (c0 : 0 < i) (hi : i ≤ H.length) (hk : k ≤ A.length) (hn : n ≤ B.length) (hH : H.length ≤ 10) (hB : B.length ≤ 6) (hs : 0 < n → H.getD (i - 1) 0 = B.getD (n - 1) 0 → now ≤ val3 m (i - 1) k (n - 1)) :
  br (decide (0 < (n : Int))) (chk ((i : Int) - 1) <| idx H ((i : Int) - 1) fun x => chk ((n : Int) - 1) <| idx B ((n : Int) - 1) fun y => br (decide (x = y)) (chk ((i : Int) - 1) <| idx m ((i : Int) - 1) fun r => idx r (k : Int) fun q => chk ((n : Int) - 1) <| idx q ((n : Int) - 1) fun v => br (decide (v < now)) bad X) X) X = X := by
 by_cases c : 0 < n
 ·obtain ⟨l1, l2, l3⟩ := h.lens (i := i - 1) (by omega) hk
  have e1 : ((i : Int) - 1).toNat = i - 1 := by omega
  have e2 : ((n : Int) - 1).toNat = n - 1 := by omega
  rw [br_dec (by omega), chk_eq (by omega), idx_get 0 (by omega) (by omega), chk_eq (by omega), idx_get 0 (by omega) (by omega), e1, e2]
  by_cases d : H.getD (i - 1) 0 = B.getD (n - 1) 0
  ·have := hs c d
   unfold val3 at this
   rw [br_dec d, chk_eq (by omega), idx_get [] (by omega) (by omega), e1, idx_get [] (by omega) (by omega), Int.toNat_natCast, chk_eq (by omega), idx_get 0 (by omega) (by omega), e2, br_ndec (by omega)]
  ·rw [br_ndec d]
 ·rw [br_ndec (by omega)]
theorem blkA (h : Mks H A B m) (c0 : 0 < i) (hi : i ≤ H.length) (hk : k ≤ A.length) (hn : n ≤ B.length) (hH : H.length ≤ 10) (hA : A.length ≤ 6) (hs : 0 < k → H.getD (i - 1) 0 = A.getD (k - 1) 0 → now ≤ val3 m (i - 1) (k - 1) n) :
  br (decide (0 < (k : Int))) (chk ((i : Int) - 1) <| idx H ((i : Int) - 1) fun x => chk ((k : Int) - 1) <| idx A ((k : Int) - 1) fun y => br (decide (x = y)) (chk ((i : Int) - 1) <| idx m ((i : Int) - 1) fun r => chk ((k : Int) - 1) <| idx r ((k : Int) - 1) fun q => idx q (n : Int) fun v => br (decide (v < now)) bad X) X) X = X := by
 by_cases c : 0 < k
 ·obtain ⟨l1, l2, l3⟩ := h.lens (i := i - 1) (k := k - 1) (by omega) (by omega)
  have e1 : ((i : Int) - 1).toNat = i - 1 := by omega
  have e2 : ((k : Int) - 1).toNat = k - 1 := by omega
  rw [br_dec (by omega), chk_eq (by omega), idx_get 0 (by omega) (by omega), chk_eq (by omega), idx_get 0 (by omega) (by omega), e1, e2]
  by_cases d : H.getD (i - 1) 0 = A.getD (k - 1) 0
  ·have := hs c d
   unfold val3 at this
   rw [br_dec d, chk_eq (by omega), idx_get [] (by omega) (by omega), e1, chk_eq (by omega), idx_get [] (by omega) (by omega), e2, idx_get 0 (by omega) (by omega), Int.toNat_natCast, br_ndec (by omega)]
  ·rw [br_ndec d]
 ·rw [br_ndec (by omega)]
theorem proves_l4_p (h : Mks H A B m) (hH : H.length ≤ 10) (hA : A.length ≤ 6) (hB : B.length ≤ 6) (hi : i ≤ H.length) (hk : k ≤ A.length) {last u u2 u3 u4 : Int} : ∀ (z n : Nat), B.length + 1 < z + n → n ≤ B.length + 1 →
  proves_l4 N z m last A i k u u2 u3 u4 ((m.getD i []).getD k []) (((m.getD i []).getD k []).length : Int) n T H f B = some (.inr (.inr (m, last, A, i, u, u2, u3, u4, T, H, f, B)))
 | 0, n, hz, _ => by omega
 | z + 1, n, hz, hn => by
  rw [proves_l4]
  obtain ⟨l1, l2, l3⟩ := h.lens hi hk
  by_cases c : n ≤ B.length
  ·rw [br_dec (by omega), idx_get 0 (by omega) (by omega), Int.toNat_natCast]
   have e : ((m.getD i []).getD k []).getD n 0 = val3 m i k n := rfl
   rw [e]
   have g := h.rng i k n hi hk c
   have st : Stp3 H A B (val3 m) i k n (val3 m i k n) := (le_bndF g.2).1 (by rw [← h.fix i k n hi hk c]; exact Int.le_refl _)
   generalize val3 m i k n = now at *
   rw [br_ndec (by omega), br_ndec (by omega), chk_eq (by omega), chk_eq (by omega)]
   have R : (chk ((n : Int) + 1) <| proves_l4 N z m last A i k u u2 u3 u4 ((m.getD i []).getD k []) (((m.getD i []).getD k []).length : Int) ((n : Int) + 1) T H f B) = some (.inr (.inr (m, last, A, (i : Int), u, u2, u3, u4, T, H, f, B))) := by
    rw [chk_eq (by omega)]
    have := proves_l4_p h hH hA hB hi hk (last := last) (u := u) (u2 := u2) (u3 := u3) (u4 := u4) z (n + 1) (by omega) (by omega)
    rw [show ((n + 1 : Nat) : Int) = (n : Int) + 1 by omega] at this
    exact this
   have J : proves_j1 N (proves_l4 N z) m last A i k n now u u2 u3 u4 ((m.getD i []).getD k []) (((m.getD i []).getD k []).length : Int) n T H f B = some (.inr (.inr (m, last, A, (i : Int), u, u2, u3, u4, T, H, f, B))) := by
    unfold proves_j1
    by_cases c0 : 0 < i
    ·rw [blkB h c0 hi hk c hH hB (fun c1 c2 => st.shb c0 c1 c2), blkA h c0 hi hk c hH hA (fun c1 c2 => st.sha c0 c1 c2), R]
     rw [br_dec (by omega)]
    ·rw [br_ndec (by omega), R]
   rw [J]
   rw [blkN h hi hk c hB st.sb, blkK h hi hk c hA st.sa, blkI h hi hk c hH st.sh]
   by_cases z0 : i + k + n = 0
   ·have := st.sz z0
    have : now = 0 := by omega
    rw [br_dec (by omega), this]
    rfl
   ·rw [br_ndec (by omega)]
  ·rw [br_ndec (by omega)]
theorem proves_l3_p (h : Mks H A B m) (hH : H.length ≤ 10) (hA : A.length ≤ 6) (hB : B.length ≤ 6) (hN : 20 ≤ N) (hi : i ≤ H.length) {last u u2 : Int} : ∀ (z k : Nat), A.length + 1 < z + k → k ≤ A.length + 1 →
  proves_l3 N z m last A i u u2 ((m.getD i []).length : Int) k T H f B = some (.inr (.inr (m, last, A, u, u2, T, H, f, B)))
 | 0, k, hz, _ => by omega
 | z + 1, k, hz, hn => by
  rw [proves_l3]
  obtain ⟨l1, l2, l3⟩ := h.lens (k := 0) hi (by omega)
  by_cases c : k ≤ A.length
  ·rw [br_dec (by omega), idx_get [] (by omega) (by omega), Int.toNat_natCast, idx_get [] (by omega) (by omega), Int.toNat_natCast]
   have e := proves_l4_p h hH hA hB hi c (T := T) (f := f) (last := last) (u := u) (u2 := u2) (u3 := ((m.getD i []).length : Int)) (u4 := k) (N := N) N 0 (by omega) (by omega)
   rw [show ((0 : Nat) : Int) = 0 from rfl] at e
   rw [e]
   simp only [Option.bind_some]
   rw [chk_eq (by omega)]
   have := proves_l3_p h hH hA hB hN hi (last := last) (u := u) (u2 := u2) z (k + 1) (by omega) (by omega)
   rw [show ((k + 1 : Nat) : Int) = (k : Int) + 1 by omega] at this
   exact this
  ·rw [br_ndec (by omega)]
theorem proves_l2_p (h : Mks H A B m) (hH : H.length ≤ 10) (hA : A.length ≤ 6) (hB : B.length ≤ 6) (hN : 20 ≤ N) {last : Int} : ∀ (z i : Nat), H.length + 1 < z + i → i ≤ H.length + 1 →
  proves_l2 N z m last A (m.length : Int) i T H f B = some (.inr (.inr (m, last, A, T, H, f, B)))
 | 0, i, hz, _ => by omega
 | z + 1, i, hz, hn => by
  rw [proves_l2]
  obtain ⟨l1, l2, l3⟩ := h.lens (i := 0) (k := 0) (by omega) (by omega)
  by_cases c : i ≤ H.length
  ·rw [br_dec (by omega), idx_get [] (by omega) (by omega), Int.toNat_natCast]
   have e := proves_l3_p h hH hA hB hN c (T := T) (f := f) (last := last) (u := (m.length : Int)) (u2 := i) N 0 (by omega) (by omega)
   rw [show ((0 : Nat) : Int) = 0 from rfl] at e
   rw [e]
   simp only [Option.bind_some]
   rw [chk_eq (by omega)]
   have := proves_l2_p h hH hA hB hN (last := last) z (i + 1) (by omega) (by omega)
   rw [show ((i + 1 : Nat) : Int) = (i : Int) + 1 by omega] at this
   exact this
  ·rw [br_ndec (by omega)]
theorem ixfpv_l1_p {s : List (List Int)} (hs : ∀ x ∈ s, x.length = B.length + 1) (hB : B.length ≤ 6) (hl : s.length ≤ 100) : ∀ (z k : Nat), s.length < z + k → k ≤ s.length → ixfpv_l1 N z s B (s.length : Int) k = some (.inr ())
 | 0, k, hz, _ => by omega
 | z + 1, k, hz, hk => by
  rw [ixfpv_l1]
  by_cases c : k < s.length
  ·have := hs (s.getD k []) (getD_mem c)
   rw [br_dec (by omega), idx_get [] (by omega) (by omega), Int.toNat_natCast]
   unfold proves1_S
   rw [chk_eq (by omega)]
   simp only [Option.bind_some]
   rw [show (!decide (((s.getD k []).length : Int) = (B.length : Int) + 1)) = false by rw [decide_eq_true (by omega)]; rfl, br_false, chk_eq (by omega)]
   have := ixfpv_l1_p hs hB hl z (k + 1) (by omega) (by omega)
   rw [show ((k + 1 : Nat) : Int) = (k : Int) + 1 by omega] at this
   exact this
  ·rw [br_ndec (by omega)]
theorem proves_l1_p (h : Mks H A B m) (hH : H.length ≤ 10) (hA : A.length ≤ 6) (hB : B.length ≤ 6) (hN : 20 ≤ N) {last : Int} : ∀ (z i : Nat), H.length + 1 < z + i → i ≤ H.length + 1 →
  proves_l1 N z m last A m (m.length : Int) i T H f B = some (.inr (m, last, A, T, H, f, B))
 | 0, i, hz, _ => by omega
 | z + 1, i, hz, hn => by
  rw [proves_l1]
  obtain ⟨l1, l2, l3⟩ := h.lens (i := 0) (k := 0) (by omega) (by omega)
  by_cases c : i ≤ H.length
  ·obtain ⟨_, l4, _⟩ := h.lens (i := i) (k := 0) c (by omega)
   rw [br_dec (by omega), idx_get [] (by omega) (by omega), Int.toNat_natCast, chk_eq (by omega)]
   rw [show (!decide (((m.getD i []).length : Int) = (A.length : Int) + 1)) = false by rw [decide_eq_true (by omega)]; rfl, br_false]
   have e := ixfpv_l1_p (N := N) (s := m.getD i []) (B := B) (fun x hx => by
    obtain ⟨a, ha, rfl⟩ := List.getElem_of_mem hx
    have e2 : (m.getD i []).getD a [] = (m.getD i [])[a] := (List.getElem_eq_getD []).symm
    have := (h.lens (i := i) (k := a) c (by omega)).2.2
    rw [e2] at this
    exact this) hB (by omega) N 0 (by omega) (by omega)
   rw [show ((0 : Nat) : Int) = 0 from rfl] at e
   unfold cofpv_S ixfpv_S
   rw [e]
   simp only [Option.bind_some]
   rw [br_ndec (by omega), chk_eq (by omega)]
   have := proves_l1_p h hH hA hB hN (last := last) z (i + 1) (by omega) (by omega)
   rw [show ((i + 1 : Nat) : Int) = (i : Int) + 1 by omega] at this
   exact this
  ·rw [br_ndec (by omega)]
theorem proves_true {p p2 : Int} (hF : Fine T H f) (hp : 0 ≤ p ∧ p < T.length) (hp2 : 0 ≤ p2 ∧ p2 < T.length) (hN : 20 ≤ N) (h : Mks H (T.getD p.toNat []) (T.getD p2.toNat []) m) : proves_S N T H f p p2 m (leastV H (T.getD p.toNat []) (T.getD p2.toNat [])) = some true := by
 have hH := hF.h
 have lA := hF.l (T.getD p.toNat []) (getD_mem (by omega))
 have lB := hF.l (T.getD p2.toNat []) (getD_mem (by omega))
 unfold proves_S
 rw [idx_get [] hp.1 (by omega), idx_get [] hp2.1 (by omega), chk_eq (by omega)]
 generalize T.getD p.toNat [] = A at *
 generalize T.getD p2.toNat [] = B at *
 obtain ⟨l1, l2, l3⟩ := h.lens (Nat.le_refl H.length) (Nat.le_refl A.length)
 rw [show (!decide ((m.length : Int) = (H.length : Int) + 1)) = false by rw [decide_eq_true (by omega)]; rfl, br_false]
 have e1 := proves_l1_p h hH lA.2 lB.2 hN (T := T) (f := f) (last := leastV H A B) N 0 (by omega) (by omega)
 have e2 := proves_l2_p h hH lA.2 lB.2 hN (T := T) (f := f) (last := leastV H A B) N 0 (by omega) (by omega)
 rw [show ((0 : Nat) : Int) = 0 from rfl] at e1 e2
 rw [e1]
 simp only [Option.bind_some]
 rw [e2]
 simp only [Option.bind_some]
 rw [idx_get [] (by omega) (by omega), Int.toNat_natCast, idx_get [] (by omega) (by omega), Int.toNat_natCast, idx_get 0 (by omega) (by omega), Int.toNat_natCast]
 have e : ((m.getD H.length []).getD A.length []).getD B.length 0 = val3 m H.length A.length B.length := rfl
 rw [e, fix_least (by omega) h.fix]
 simp
end
end Go.Proofs.Ytfcnhnbnjdccfaa

namespace Go.Proofs.Ytfcnhnbnjdccfaa
set_option linter.all false
open Go

section
variable {N : Nat} {T : List (List Int)} {H A B : List Int} {f : Int}
theorem etold_l2_p (hN : 30 ≤ N) (hF : Fine T H f) {p p2 : Int} (hp : 0 ≤ p ∧ p < T.length) (hp2 : 0 ≤ p2 ∧ p2 < T.length) {can u : List (Int × Int)} {u2 u3 : Int} {q : List Int} : ∀ (n k : Nat) (q2 q3 : Int), 4 < n + k → k ≤ 4 → Bell q q2 →
  ∃ q2' q3', etold_l2 N n can (leastV H (T.getD p.toNat []) (T.getD p2.toNat [])) u u2 u3 k T H f q q2 q3 p p2 = some (.inr (can, u, u2, u3, T, H, f, q, q2', q3')) ∧ Bell q q2'
 | 0, k, _, _, h, _, _ => by omega
 | n + 1, k, q2, q3, h, hk, hq => by
  rw [etold_l2]
  by_cases c : k < 4
  ·rw [br_dec (by omega)]
   obtain ⟨⟨l, q', q2', q3'⟩, e, hl, ⟨hb1, hb2⟩, hfit⟩ := tried_fit (N := N) (f := f) (H := H) (by omega) hF hp hp2 (b3 := q3) hq
   dsimp only at hl hb1 hb2 hfit
   subst hb1
   rw [e]
   simp only [Option.bind_some]
   have hH := hF.h
   rw [lfaults_v (by omega) hF hp hp2 hl hfit, faults_v (by omega) T H f p p2 l (by omega)]
   rw [if_neg (by rw [hF.open hp hp2]; simp), if_neg (by omega), if_pos hfit]
   simp only [Option.bind_some, decide_true, Bool.not_true, br_false]
   have := fit_least hl hfit
   rw [br_ndec (by omega), chk_eq (by omega)]
   obtain ⟨a, b, h1, h2⟩ := etold_l2_p hN hF hp hp2 (can := can) (u := u) (u2 := u2) (u3 := u3) n (k + 1) q2' q3' (by omega) (by omega) hb2
   rw [show ((k + 1 : Nat) : Int) = (k : Int) + 1 by omega] at h1
   exact ⟨a, b, h1, h2⟩
  ·rw [br_ndec (by omega)]
   exact ⟨_, _, rfl, hq⟩
theorem etold_l1_p (hN : 1010 ≤ N) (hF : Fine T H f) {q : List Int} : ∀ (n k : Nat) (q2 q3 : Int), (prs T.length).length < n + k → k ≤ (prs T.length).length → Bell q q2 →
  etold_l1 N n (allTo (pE T H f) T.length 0 T.length) (prs T.length) ((prs T.length).length : Int) k T H f q q2 q3 = some (.inr (.inr (.inr (.inr ()))))
 | 0, k, _, _, h, _, _ => by omega
 | n + 1, k, q2, q3, h, hk, hq => by
  rw [etold_l1]
  have pl := prs_len T.length
  have al := allTo_len (pE T H f) T.length 0 T.length
  have hn := hF.n
  have : T.length * T.length ≤ 5 * 5 := Nat.mul_le_mul (by omega) (by omega)
  by_cases c : k < (prs T.length).length
  ·have hk' : (prs T.length)[((k : Nat) : Int).toNat]? = some ((prs T.length).getD k (0, 0)) := by simp [List.getD, c]
   have hx := mem_prs.1 (getD_mem (d := (0, 0)) c)
   generalize (prs T.length).getD k (0, 0) = p at *
   obtain ⟨p, p2⟩ := p
   dsimp only at hx
   have hp : 0 ≤ p ∧ p < T.length := by omega
   have hp2 : 0 ≤ p2 ∧ p2 < T.length := by omega
   have hop := hF.open hp hp2
   have hH := hF.h
   have lA := (hF.l (T.getD p.toNat []) (getD_mem (by omega))).2
   have lB := (hF.l (T.getD p2.toNat []) (getD_mem (by omega))).2
   obtain ⟨l, hl, el, e1⟩ := reading_v (N := N) (by omega) hop
   have hlb : l ∈ bestR H (T.getD p.toNat []) (T.getD p2.toNat []) := List.mem_filter.2 ⟨hl, by simpa using el⟩
   have hll := bestR_len hlb
   have hfit : fitL H (T.getD p.toNat []) (T.getD p2.toNat []) l (0, 0, 0) = true := rdx_fit H.length (0, 0, 0) l hl
   have lv : leastV H (T.getD p.toNat []) (T.getD p2.toNat []) = ((T.getD p.toNat []).length : Int) + (T.getD p2.toNat []).length + H.length - 2 * (tv mayA H (T.getD p.toNat []) (T.getD p2.toNat []) (0, 0, 0)).1 := rfl
   obtain ⟨X, e5, hX⟩ := marks_v (N := N) (T := T) (H := H) (f := f) (by omega) hop
   obtain ⟨x1, x2⟩ := hX.small hH lA lB
   obtain ⟨r, e6, g6⟩ := shows_v (N := N) (T := T) (H := H) (f := f) (m := X) (p := p) (p2 := p2) hN x1 x2
   have er := hX.show hop g6 (by omega)
   subst er
   rw [br_dec (by omega), idx_eq (by omega) hk', least_v (by omega) hF hp hp2, e1, e5]
   simp only [Option.bind_some, decide_true, Bool.not_true, br_false]
   rw [containsp_v (by omega) (by omega)]
   simp only [Option.bind_some]
   have hc : (decide (leastV H (T.getD p.toNat []) (T.getD p2.toNat []) ≤ f) == (allTo (pE T H f) T.length 0 T.length).contains (p, p2)) = true := by
    rw [beq_iff_eq, Bool.eq_iff_iff, List.contains_iff_mem, mem_allTo, decide_eq_true_eq]
    constructor
    ·intro hle
     refine ⟨p.toNat, p2.toNat, by omega, by omega, by omega, ?_, by rw [Prod.mk.injEq]; omega⟩
     simp only [pE, decide_eq_true_eq]
     exact hle
    ·rintro ⟨i, j, _, _, _, g, g2⟩
     rw [Prod.mk.injEq] at g2
     obtain ⟨rfl, rfl⟩ := g2
     simp only [pE, decide_eq_true_eq] at g
     exact g
   rw [hc]
   simp only [Bool.not_true, br_false]
   rw [lfaults_v (by omega) hF hp hp2 hll hfit, e6, proves_true hF hp hp2 (by omega) hX, el, ← lv]
   simp only [Option.bind_some, decide_true, Bool.not_true, br_false]
   obtain ⟨q2', q3', e7, hb⟩ := etold_l2_p (N := N) (T := T) (H := H) (f := f) (by omega) hF hp hp2 (can := allTo (pE T H f) T.length 0 T.length) (u := prs T.length) (u2 := ((prs T.length).length : Int)) (u3 := (k : Int)) (q := q) N 0 q2 q3 (by omega) (by omega) hq
   rw [show ((0 : Nat) : Int) = 0 from rfl] at e7
   rw [e7]
   simp only [Option.bind_some]
   rw [chk_eq (by omega)]
   have next := etold_l1_p hN hF (q := q) n (k + 1) q2' q3' (by omega) (by omega) hb
   rw [show ((k + 1 : Nat) : Int) = (k : Int) + 1 by omega] at next
   exact next
  ·rw [br_ndec (by omega)]
theorem etold_true {ns ts : List Int} (h1 : ns.length ≤ 9223372036854775807) (h2 : ts.length ≤ 9223372036854775807) : etold_S 1100 ns ts = some true := by
 unfold etold_S hang_S
 simp only [Option.bind_some]
 obtain ⟨T, H, f, b2, b3, e, hb, hT, hn, hH, hl, hf⟩ := made_p (N := 1100) (by omega) (tx := 4) (wo := 6) (he := 10) (by omega) (by omega) (by omega) (b := ns) (b2 := 0) (b3 := 0) ⟨h1, by omega, by omega⟩
 rw [e]
 simp only [Option.bind_some]
 have hF : Fine T H f := Fine.of_txt hT (by omega) (by omega) hH (by omega) (by omega)
 have pl := prs_len T.length
 have : T.length * T.length ≤ 5 * 5 := Nat.mul_le_mul (by omega) (by omega)
 rw [pairs_v (by omega) hF, check_v (by omega), hF.check]
 simp only [Option.bind_some, decide_true, Bool.not_true, br_false]
 rw [lpairs_v (by omega) (by omega)]
 simp only [Option.bind_some]
 have e1 := etold_l1_p (N := 1100) (by omega) hF (q := ts) 1100 0 0 0 (by omega) (by omega) ⟨h2, by omega, by omega⟩
 rw [show ((0 : Nat) : Int) = 0 from rfl] at e1
 rw [e1]
 simp only [Option.bind_some, awake_v]
end
end Go.Proofs.Ytfcnhnbnjdccfaa

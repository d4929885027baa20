/-
  Parts of a proof, put together: X8, TM4.
  Conditions: none.
-/
import Derived.Test.YtfamlpbdhhikdaaZh
namespace Go.Proofs.Ytfamlpbdhhikdaa
set_option linter.all false
open Go

def compare_S (N : Nat) (x : Int) (y : Int) : Option Int :=
  (isnan1_S N x).bind fun x_1 =>
  (isnan1_S N y).bind fun x_2 =>
  br x_1
    (br x_2
      (some 0)
      (some (-1)))
    (br x_2
      (some 1)
      (br (decide (x < y))
        (some (-1))
        (br (decide (y < x))
          (some 1)
          (some 0))))
noncomputable def compare_sp (N : Nat) : List Spec := [sp_isnan1 N]
theorem compare_all (N : Nat) : AllP (SpecOK Try.prog) (compare_sp N) := ⟨sp_isnan1_ok N, trivial⟩
noncomputable def compare_c : Code := (Try.f133.body).getD .skip
noncomputable abbrev compare_B : Body := { c := compare_c, n := 20, res := [.tmp 4], outs := [⟨[.i .i64], []⟩], m0 := 0 }
abbrev compare_rt : altD compare_B.outs → Option Int := fun r => some r.1.1
abbrev compare_st : Sta := ⟨[0, 1], ⟨[.i .i64, .i .i64], []⟩⟩
theorem compare_eq (N : Nat) (x : Int) (y : Int) : ev (Z := Int) Try.prog (compare_sp N) compare_B [] [] (some compare_rt) 400 false [.c [0], .c [1]] (stL compare_st ((x, y, ()), ())) (stH compare_st ((x, y, ()), ())) = compare_S N x y := by kernel_rfl
noncomputable def sp_compare (N : Nat) : Spec := { f := 133, ins := ⟨[.i .i64, .i .i64], []⟩, outs := [⟨[.i .i64], []⟩], run := fun p k => (compare_S N p.1.1 p.1.2.1).bind fun r => k ((r, ()), ()) }
theorem sp_compare_ok (N : Nat) : SpecOK Try.prog (sp_compare N) := fn_sound (B := compare_B) (loops := []) (leaves := []) (fun p => compare_S N p.1.1 p.1.2.1) (fun r => ((r, ()), ())) compare_rt (fun _ _ _ => rfl) (fun r z h => by cases h; rfl) Try.func133 (by kernel_rfl) (by kernel_rfl) (by kernel_rfl) rfl rfl (by kernel_rfl) (fun args w => Sem.pv_run _ _ _ (by kernel_rfl) w) (compare_all N) mixed trivial (fun z E Xc hE hX hret => trivial) (fun p => compare_eq N p.1.1 p.1.2.1)

def comparei_l1 (N : Nat) : Nat → (List Int) → (List Int) → (List Int) → Int → Int → Option ((Unit) ⊕ ((Int) ⊕ (List Int × List Int)))
  | 0, _, _, _, _, _ => none
  | n_ + 1, s1, s2, u, u2, u3 =>
    br (decide (u3 < u2))
      (idx u u3 fun x_1 =>
      br (decide ((s2.length : Int) ≤ u3))
        (some (.inl ()))
        (idx s2 u3 fun x_2 =>
        (compare_S N x_1 x_2).bind fun x_3 =>
        br (!decide (x_3 = 0))
          (some (.inr (.inl x_3)))
          (chk (u3 + 1) <|
          comparei_l1 N n_ s1 s2 u u2 (u3 + 1))))
      (some (.inr (.inr (s1, s2))))
def comparei_S (N : Nat) (s1 : List Int) (s2 : List Int) : Option Int :=
  (comparei_l1 N N s1 s2 s1 (s1.length : Int) 0).bind fun e => match e with
  | .inl _ =>
    some 1
  | .inr (.inl c_4) =>
    some c_4
  | .inr (.inr (s1_5, s2_6)) =>
    br (decide ((s1_5.length : Int) < (s2_6.length : Int)))
      (some (-1))
      (some 0)
noncomputable def comparei_sp (N : Nat) : List Spec := [sp_compare N]
theorem comparei_all (N : Nat) : AllP (SpecOK Try.prog) (comparei_sp N) := ⟨sp_compare_ok N, trivial⟩
noncomputable def comparei_c : Code := (Try.f72.body).getD .skip
noncomputable abbrev comparei_B : Body := { c := comparei_c, n := 36, res := [.tmp 4], outs := [⟨[.i .i64], []⟩], m0 := 0 }
abbrev comparei_rt : altD comparei_B.outs → Option Int := fun r => some r.1.1
abbrev comparei_l1_at : List PI := [.c [1, 0, 1, 0, 0, 0], .c [1, 0, 1, 0, 0, 1], .l [1, 0, 1, 0, 0], .b 0, .c [1, 1]]
abbrev comparei_l1_st : Sta := ⟨[0, 1, 9, 10, 11], ⟨[.sl (.int .i64), .sl (.int .i64), .sl (.int .i64), .i .i64, .i .i64], []⟩⟩
abbrev comparei_l1_h (rec : (List Int) → (List Int) → (List Int) → Int → Int → Option ((Unit) ⊕ ((Int) ⊕ (List Int × List Int)))) : Leaf ((Unit) ⊕ ((Int) ⊕ (List Int × List Int))) := ⟨comparei_l1_at, comparei_l1_st, fun p => rec p.1.1 p.1.2.1 p.1.2.2.1 p.1.2.2.2.1 p.1.2.2.2.2.1⟩
abbrev comparei_l1_e0 : Leaf ((Unit) ⊕ ((Int) ⊕ (List Int × List Int))) := ⟨[.c [1, 0, 1, 0, 0, 1, 1, 0, 0, 1, 0, 1, 0, 0], .c [1, 0, 1, 0, 0, 1, 1, 0, 0, 1, 0, 1, 0, 1], .c [1, 0, 1, 0, 0, 1, 1, 0, 0, 1, 1], .b 1, .c [1, 0, 1, 0, 0, 1, 1, 1], .l [1, 0, 1, 0, 0], .b 0, .c [1, 1]], ⟨[], ⟨[], []⟩⟩, fun p => some (.inl ())⟩
abbrev comparei_l1_e1 : Leaf ((Unit) ⊕ ((Int) ⊕ (List Int × List Int))) := ⟨[.c [1, 0, 1, 0, 0, 1, 1, 0, 0, 1, 1, 1, 1, 1, 0, 0], .c [1, 0, 1, 0, 0, 1, 1, 0, 0, 1, 1, 1, 1, 1, 0, 1], .b 1, .c [1, 0, 1, 0, 0, 1, 1, 1], .l [1, 0, 1, 0, 0], .b 0, .c [1, 1]], ⟨[8], ⟨[.i .i64], []⟩⟩, fun p => some (.inr (.inl p.1.1))⟩
abbrev comparei_l1_e2 : Leaf ((Unit) ⊕ ((Int) ⊕ (List Int × List Int))) := ⟨[.c [1, 1, 0, 0], .c [1, 1, 0, 1], .c [1, 1, 1]], ⟨[0, 1], ⟨[.sl (.int .i64), .sl (.int .i64)], []⟩⟩, fun p => some (.inr (.inr (p.1.1, p.1.2.1)))⟩
noncomputable def comparei_l1_L (N : Nat) : LoopS := { at_ := comparei_l1_at, sta := comparei_l1_st, exits := [([.c [1, 0, 1, 0, 0, 1, 1, 0, 0, 1, 0, 1, 0, 0], .c [1, 0, 1, 0, 0, 1, 1, 0, 0, 1, 0, 1, 0, 1], .c [1, 0, 1, 0, 0, 1, 1, 0, 0, 1, 1], .b 1, .c [1, 0, 1, 0, 0, 1, 1, 1], .l [1, 0, 1, 0, 0], .b 0, .c [1, 1]], ⟨[], ⟨[], []⟩⟩), ([.c [1, 0, 1, 0, 0, 1, 1, 0, 0, 1, 1, 1, 1, 1, 0, 0], .c [1, 0, 1, 0, 0, 1, 1, 0, 0, 1, 1, 1, 1, 1, 0, 1], .b 1, .c [1, 0, 1, 0, 0, 1, 1, 1], .l [1, 0, 1, 0, 0], .b 0, .c [1, 1]], ⟨[8], ⟨[.i .i64], []⟩⟩), ([.c [1, 1, 0, 0], .c [1, 1, 0, 1], .c [1, 1, 1]], ⟨[0, 1], ⟨[.sl (.int .i64), .sl (.int .i64)], []⟩⟩)], run := fun p k => (comparei_l1 N N p.1.1 p.1.2.1 p.1.2.2.1 p.1.2.2.2.1 p.1.2.2.2.2.1).bind fun e => match e with | .inl x => k (.inl ((), ())) | .inr (.inl x) => k (.inr (.inl ((x, ()), ()))) | .inr (.inr x) => k (.inr (.inr (.inl ((x.1, x.2, ()), ())))) }
theorem comparei_l1_eq (N n_ : Nat) (s1 : List Int) (s2 : List Int) (u : List Int) (u2 : Int) (u3 : Int) : ev (Z := (Unit) ⊕ ((Int) ⊕ (List Int × List Int))) Try.prog (comparei_sp N) comparei_B [] [comparei_l1_h (comparei_l1 N n_), comparei_l1_e0, comparei_l1_e1, comparei_l1_e2] none 400 true comparei_l1_at (stL comparei_l1_st ((s1, s2, u, u2, u3, ()), ())) (stH comparei_l1_st ((s1, s2, u, u2, u3, ()), ())) = comparei_l1 N (n_ + 1) s1 s2 u u2 u3 := by kernel_rfl
theorem comparei_l1_ok (N : Nat) {top : Bool} : LoopOK Try.prog comparei_B.c comparei_B.n comparei_B.m0 top (comparei_l1_L N) := loop_of_ev (Z := (Unit) ⊕ ((Int) ⊕ (List Int × List Int))) (N := N) (fun m p => comparei_l1 N m p.1.1 p.1.2.1 p.1.2.2.1 p.1.2.2.2.1 p.1.2.2.2.2.1) (fun e => match e with | .inl x => .inl ((), ()) | .inr (.inl x) => .inr (.inl ((x, ()), ())) | .inr (.inr x) => .inr (.inr (.inl ((x.1, x.2, ()), ())))) (fun _ p k => bind_congr_ (comparei_l1 N N p.1.1 p.1.2.1 p.1.2.2.1 p.1.2.2.2.1 p.1.2.2.2.2.1) _ _ (fun e => by rcases e with x | x | x <;> rfl)) (fun _ => rfl) (fun m z E Xc hE hX hrec hx => leaf_of_ev (B := comparei_B) (loops := []) (leaves := [comparei_l1_h (comparei_l1 N m), comparei_l1_e0, comparei_l1_e1, comparei_l1_e2]) (comparei_all N) mixed trivial hE hX ⟨hrec, (fun p hp => by obtain rfl := Option.some.inj hp; exact hx), (fun p hp => by obtain rfl := Option.some.inj hp; exact hx), (fun p hp => by obtain rfl := Option.some.inj hp; exact hx), trivial⟩ RetOK.no (fun p => comparei_l1_eq N m p.1.1 p.1.2.1 p.1.2.2.1 p.1.2.2.2.1 p.1.2.2.2.2.1))
abbrev comparei_st : Sta := ⟨[0, 1], ⟨[.sl (.int .i64), .sl (.int .i64)], []⟩⟩
theorem comparei_eq (N : Nat) (s1 : List Int) (s2 : List Int) : ev (Z := Int) Try.prog (comparei_sp N) comparei_B [comparei_l1_L N] [] (some comparei_rt) 400 false [.c [0], .c [1]] (stL comparei_st ((s1, s2, ()), ())) (stH comparei_st ((s1, s2, ()), ())) = comparei_S N s1 s2 := by kernel_rfl
noncomputable def sp_comparei (N : Nat) : Spec := { f := 72, ins := ⟨[.sl (.int .i64), .sl (.int .i64)], []⟩, outs := [⟨[.i .i64], []⟩], run := fun p k => (comparei_S N p.1.1 p.1.2.1).bind fun r => k ((r, ()), ()) }
theorem sp_comparei_ok (N : Nat) : SpecOK Try.prog (sp_comparei N) := fn_sound (B := comparei_B) (loops := [comparei_l1_L N]) (leaves := []) (fun p => comparei_S N p.1.1 p.1.2.1) (fun r => ((r, ()), ())) comparei_rt (fun _ _ _ => rfl) (fun r z h => by cases h; rfl) Try.func72 (by kernel_rfl) (by kernel_rfl) (by kernel_rfl) rfl rfl (by kernel_rfl) (fun args w => Sem.pv_run _ _ _ (by kernel_rfl) w) (comparei_all N) mixed ⟨comparei_l1_ok N, trivial⟩ (fun z E Xc hE hX hret => trivial) (fun p => comparei_eq N p.1.1 p.1.2.1)

def tkept1_S (N : Nat) (x : Int) (x2 : Int) (x3 : Int) (u : Int) : Option Bool :=
  some (decide (x = u))
noncomputable def tkept1_sp (N : Nat) : List Spec := []
theorem tkept1_all (N : Nat) : AllP (SpecOK Try.prog) (tkept1_sp N) := trivial
noncomputable def tkept1_c : Code := (Try.f76.body).getD .skip
noncomputable abbrev tkept1_B : Body := { c := tkept1_c, n := 8, res := [.tmp 3], outs := [⟨[.b], []⟩], m0 := 0 }
abbrev tkept1_rt : altD tkept1_B.outs → Option Bool := fun r => some r.1.1
abbrev tkept1_st : Sta := ⟨[0, 1], ⟨[.agg [.i .i64, .i .i64, .i .i64], .fe (.int .i64)], []⟩⟩
theorem tkept1_eq (N : Nat) (x : Int) (x2 : Int) (x3 : Int) (u : Int) : ev (Z := Bool) Try.prog (tkept1_sp N) tkept1_B [] [] (some tkept1_rt) 400 false [.c [0], .c [1]] (stL tkept1_st (((x, x2, x3, ()), u, ()), ())) (stH tkept1_st (((x, x2, x3, ()), u, ()), ())) = tkept1_S N x x2 x3 u := by kernel_rfl
noncomputable def sp_tkept1 (N : Nat) : Spec := { f := 76, ins := ⟨[.agg [.i .i64, .i .i64, .i .i64], .fe (.int .i64)], []⟩, outs := [⟨[.b], []⟩], run := fun p k => (tkept1_S N p.1.1.1 p.1.1.2.1 p.1.1.2.2.1 p.1.2.1).bind fun r => k ((r, ()), ()) }
theorem sp_tkept1_ok (N : Nat) : SpecOK Try.prog (sp_tkept1 N) := fn_sound (B := tkept1_B) (loops := []) (leaves := []) (fun p => tkept1_S N p.1.1.1 p.1.1.2.1 p.1.1.2.2.1 p.1.2.1) (fun r => ((r, ()), ())) tkept1_rt (fun _ _ _ => rfl) (fun r z h => by cases h; rfl) Try.func76 (by kernel_rfl) (by kernel_rfl) (by kernel_rfl) rfl rfl (by kernel_rfl) (fun args w => Sem.pv_run _ _ _ (by kernel_rfl) w) (tkept1_all N) mixed trivial (fun z E Xc hE hX hret => trivial) (fun p => tkept1_eq N p.1.1.1 p.1.1.2.1 p.1.1.2.2.1 p.1.2.1)

def ixftk_l1 (N : Nat) : Nat → (List (Int × (Int × Int))) → Int → Int → Int → Option ((Int) ⊕ (Unit))
  | 0, _, _, _, _ => none
  | n_ + 1, s, f, u, u2 =>
    br (decide (u2 < u))
      (idx s u2 fun x_1 =>
      (tkept1_S N x_1.1 x_1.2.1 x_1.2.2 f).bind fun x_2 =>
      br x_2
        (some (.inl u2))
        (chk (u2 + 1) <|
        ixftk_l1 N n_ s f u (u2 + 1)))
      (some (.inr ()))
def ixftk_S (N : Nat) (s : List (Int × (Int × Int))) (f : Int) : Option Int :=
  (ixftk_l1 N N s f (s.length : Int) 0).bind fun e => match e with
  | .inl i_3 =>
    some i_3
  | .inr _ =>
    some (-1)
noncomputable def ixftk_sp (N : Nat) : List Spec := [sp_tkept1 N]
theorem ixftk_all (N : Nat) : AllP (SpecOK Try.prog) (ixftk_sp N) := ⟨sp_tkept1_ok N, trivial⟩
noncomputable def ixftk_c : Code := (Try.f134.body).getD .skip
noncomputable abbrev ixftk_B : Body := { c := ixftk_c, n := 19, res := [.tmp 4], outs := [⟨[.i .i64], []⟩], m0 := 0 }
abbrev ixftk_rt : altD ixftk_B.outs → Option Int := fun r => some r.1.1
abbrev ixftk_l1_at : List PI := [.c [1, 0, 1, 0, 0, 0], .c [1, 0, 1, 0, 0, 1], .l [1, 0, 1, 0, 0], .b 0, .c [1, 1]]
abbrev ixftk_l1_st : Sta := ⟨[0, 1, 7, 8], ⟨[.sl (.pair (.int .i64) (.pair (.int .i64) (.int .i64))), .fn 76 [] [.fe (.int .i64)], .i .i64, .i .i64], []⟩⟩
abbrev ixftk_l1_h (rec : (List (Int × (Int × Int))) → Int → Int → Int → Option ((Int) ⊕ (Unit))) : Leaf ((Int) ⊕ (Unit)) := ⟨ixftk_l1_at, ixftk_l1_st, fun p => rec p.1.1 p.1.2.1.2.1 p.1.2.2.1 p.1.2.2.2.1⟩
abbrev ixftk_l1_e0 : Leaf ((Int) ⊕ (Unit)) := ⟨[.c [1, 0, 1, 0, 0, 1, 1, 0, 0, 1, 1, 0, 0], .c [1, 0, 1, 0, 0, 1, 1, 0, 0, 1, 1, 0, 1], .b 1, .c [1, 0, 1, 0, 0, 1, 1, 1], .l [1, 0, 1, 0, 0], .b 0, .c [1, 1]], ⟨[5], ⟨[.i .i64], []⟩⟩, fun p => some (.inl p.1.1)⟩
abbrev ixftk_l1_e1 : Leaf ((Int) ⊕ (Unit)) := ⟨[.c [1, 1, 0], .c [1, 1, 1]], ⟨[], ⟨[], []⟩⟩, fun p => some (.inr ())⟩
noncomputable def ixftk_l1_L (N : Nat) : LoopS := { at_ := ixftk_l1_at, sta := ixftk_l1_st, exits := [([.c [1, 0, 1, 0, 0, 1, 1, 0, 0, 1, 1, 0, 0], .c [1, 0, 1, 0, 0, 1, 1, 0, 0, 1, 1, 0, 1], .b 1, .c [1, 0, 1, 0, 0, 1, 1, 1], .l [1, 0, 1, 0, 0], .b 0, .c [1, 1]], ⟨[5], ⟨[.i .i64], []⟩⟩), ([.c [1, 1, 0], .c [1, 1, 1]], ⟨[], ⟨[], []⟩⟩)], run := fun p k => (ixftk_l1 N N p.1.1 p.1.2.1.2.1 p.1.2.2.1 p.1.2.2.2.1).bind fun e => match e with | .inl x => k (.inl ((x, ()), ())) | .inr x => k (.inr (.inl ((), ()))) }
theorem ixftk_l1_eq (N n_ : Nat) (s : List (Int × (Int × Int))) (f : Int) (u : Int) (u2 : Int) : ev (Z := (Int) ⊕ (Unit)) Try.prog (ixftk_sp N) ixftk_B [] [ixftk_l1_h (ixftk_l1 N n_), ixftk_l1_e0, ixftk_l1_e1] none 400 true ixftk_l1_at (stL ixftk_l1_st ((s, ((), (f, ())), u, u2, ()), ())) (stH ixftk_l1_st ((s, ((), (f, ())), u, u2, ()), ())) = ixftk_l1 N (n_ + 1) s f u u2 := by kernel_rfl
theorem ixftk_l1_ok (N : Nat) {top : Bool} : LoopOK Try.prog ixftk_B.c ixftk_B.n ixftk_B.m0 top (ixftk_l1_L N) := loop_of_ev (Z := (Int) ⊕ (Unit)) (N := N) (fun m p => ixftk_l1 N m p.1.1 p.1.2.1.2.1 p.1.2.2.1 p.1.2.2.2.1) (fun e => match e with | .inl x => .inl ((x, ()), ()) | .inr x => .inr (.inl ((), ()))) (fun _ p k => bind_congr_ (ixftk_l1 N N p.1.1 p.1.2.1.2.1 p.1.2.2.1 p.1.2.2.2.1) _ _ (fun e => by rcases e with x | x <;> rfl)) (fun _ => rfl) (fun m z E Xc hE hX hrec hx => leaf_of_ev (B := ixftk_B) (loops := []) (leaves := [ixftk_l1_h (ixftk_l1 N m), ixftk_l1_e0, ixftk_l1_e1]) (ixftk_all N) mixed trivial hE hX ⟨hrec, (fun p hp => by obtain rfl := Option.some.inj hp; exact hx), (fun p hp => by obtain rfl := Option.some.inj hp; exact hx), trivial⟩ RetOK.no (fun p => ixftk_l1_eq N m p.1.1 p.1.2.1.2.1 p.1.2.2.1 p.1.2.2.2.1))
abbrev ixftk_st : Sta := ⟨[0, 1], ⟨[.sl (.pair (.int .i64) (.pair (.int .i64) (.int .i64))), .fn 76 [] [.fe (.int .i64)]], []⟩⟩
theorem ixftk_eq (N : Nat) (s : List (Int × (Int × Int))) (f : Int) : ev (Z := Int) Try.prog (ixftk_sp N) ixftk_B [ixftk_l1_L N] [] (some ixftk_rt) 400 false [.c [0], .c [1]] (stL ixftk_st ((s, ((), (f, ())), ()), ())) (stH ixftk_st ((s, ((), (f, ())), ()), ())) = ixftk_S N s f := by kernel_rfl
noncomputable def sp_ixftk (N : Nat) : Spec := { f := 134, ins := ⟨[.sl (.pair (.int .i64) (.pair (.int .i64) (.int .i64))), .fn 76 [] [.fe (.int .i64)]], []⟩, outs := [⟨[.i .i64], []⟩], run := fun p k => (ixftk_S N p.1.1 p.1.2.1.2.1).bind fun r => k ((r, ()), ()) }
theorem sp_ixftk_ok (N : Nat) : SpecOK Try.prog (sp_ixftk N) := fn_sound (B := ixftk_B) (loops := [ixftk_l1_L N]) (leaves := []) (fun p => ixftk_S N p.1.1 p.1.2.1.2.1) (fun r => ((r, ()), ())) ixftk_rt (fun _ _ _ => rfl) (fun r z h => by cases h; rfl) Try.func134 (by kernel_rfl) (by kernel_rfl) (by kernel_rfl) rfl rfl (by kernel_rfl) (fun args w => Sem.pv_run _ _ _ (by kernel_rfl) w) (ixftk_all N) mixed ⟨ixftk_l1_ok N, trivial⟩ (fun z E Xc hE hX hret => trivial) (fun p => ixftk_eq N p.1.1 p.1.2.1.2.1)

def coftk_S (N : Nat) (s : List (Int × (Int × Int))) (f : Int) : Option Bool :=
  (ixftk_S N s f).bind fun x_1 =>
  some (decide (0 ≤ x_1))
noncomputable def coftk_sp (N : Nat) : List Spec := [sp_ixftk N]
theorem coftk_all (N : Nat) : AllP (SpecOK Try.prog) (coftk_sp N) := ⟨sp_ixftk_ok N, trivial⟩
noncomputable def coftk_c : Code := (Try.f75.body).getD .skip
noncomputable abbrev coftk_B : Body := { c := coftk_c, n := 9, res := [.tmp 4], outs := [⟨[.b], []⟩], m0 := 0 }
abbrev coftk_rt : altD coftk_B.outs → Option Bool := fun r => some r.1.1
abbrev coftk_st : Sta := ⟨[0, 1], ⟨[.sl (.pair (.int .i64) (.pair (.int .i64) (.int .i64))), .fn 76 [] [.fe (.int .i64)]], []⟩⟩
theorem coftk_eq (N : Nat) (s : List (Int × (Int × Int))) (f : Int) : ev (Z := Bool) Try.prog (coftk_sp N) coftk_B [] [] (some coftk_rt) 400 false [.c [0], .c [1]] (stL coftk_st ((s, ((), (f, ())), ()), ())) (stH coftk_st ((s, ((), (f, ())), ()), ())) = coftk_S N s f := by kernel_rfl
noncomputable def sp_coftk (N : Nat) : Spec := { f := 75, ins := ⟨[.sl (.pair (.int .i64) (.pair (.int .i64) (.int .i64))), .fn 76 [] [.fe (.int .i64)]], []⟩, outs := [⟨[.b], []⟩], run := fun p k => (coftk_S N p.1.1 p.1.2.1.2.1).bind fun r => k ((r, ()), ()) }
theorem sp_coftk_ok (N : Nat) : SpecOK Try.prog (sp_coftk N) := fn_sound (B := coftk_B) (loops := []) (leaves := []) (fun p => coftk_S N p.1.1 p.1.2.1.2.1) (fun r => ((r, ()), ())) coftk_rt (fun _ _ _ => rfl) (fun r z h => by cases h; rfl) Try.func75 (by kernel_rfl) (by kernel_rfl) (by kernel_rfl) rfl rfl (by kernel_rfl) (fun args w => Sem.pv_run _ _ _ (by kernel_rfl) w) (coftk_all N) mixed trivial (fun z E Xc hE hX hret => trivial) (fun p => coftk_eq N p.1.1 p.1.2.1.2.1)

def tkept_j2 (N : Nat) (rec : Int → (List Int) → Int → (List Int) → Int → Int → Int → Int → (List (Int × (Int × Bool))) → (List (Int × (Int × Int))) → Int → (List Int) → Int → Int → (List Int) → Option (Int × List Int × Int × List Int × Int × (List (Int × (Int × Bool))) × (List (Int × (Int × Int))) × Int × List Int × Int × Int × List Int)) (weight : Int) (least : List Int) (e : Int) (spare : List Int) (often : Int) (u : Int) (u2 : Int) (u3 : Int) (t : List (Int × (Int × Bool))) (t2 : List (Int × (Int × Int))) (t3 : Int) (q : List Int) (q2 : Int) (q3 : Int) (l : List Int) : Option (Int × List Int × Int × List Int × Int × (List (Int × (Int × Bool))) × (List (Int × (Int × Int))) × Int × List Int × Int × Int × List Int) :=
  chk (u3 + 1) <|
  rec weight least e spare often u u2 (u3 + 1) t t2 t3 q q2 q3 l
def tkept_l2 (N : Nat) : Nat → Int → (List Int) → Int → (List Int) → Int → Int → Int → Int → (List (Int × (Int × Bool))) → (List (Int × (Int × Int))) → Int → (List Int) → Int → Int → (List Int) → Option (Int × List Int × Int × List Int × Int × (List (Int × (Int × Bool))) × (List (Int × (Int × Int))) × Int × List Int × Int × Int × List Int)
  | 0, _, _, _, _, _, _, _, _, _, _, _, _, _, _, _ => none
  | n_ + 1, weight, least, e, spare, often, u, u2, u3, t, t2, t3, q, q2, q3, l =>
    br (decide (u3 < u2))
      ((seldom_S N often q q2 q3).bind fun (x_24, y_25, y_26, y_27) =>
      br (!x_24)
        (lim (l.length + [u3].length) <|
        tkept_j2 N (tkept_l2 N n_) weight least e spare often u u2 u3 t t2 t3 y_25 y_26 y_27 (l ++ [u3]))
        (tkept_j2 N (tkept_l2 N n_) weight least e spare often u u2 u3 t t2 t3 y_25 y_26 y_27 l))
      (some ((weight, least, e, spare, u, t, t2, t3, q, q2, q3, l)))
def tkept_j3 (N : Nat) (rec : Int → (List Int) → Int → (List Int) → Int → (List (Int × (Int × Bool))) → (List (Int × (Int × Int))) → Int → (List Int) → Int → Int → Option ((Unit) ⊕ ((Unit) ⊕ (List Int × (List (Int × (Int × Bool))) × (List (Int × (Int × Int))) × Int)))) (weight : Int) (least : List Int) (e : Int) (spare : List Int) (u : Int) (t : List (Int × (Int × Bool))) (t2 : List (Int × (Int × Int))) (t3 : Int) (q : List Int) (q2 : Int) (q3 : Int) : Option ((Unit) ⊕ ((Unit) ⊕ (List Int × (List (Int × (Int × Bool))) × (List (Int × (Int × Int))) × Int))) :=
  chk (u + 1) <|
  rec weight least e spare (u + 1) t t2 t3 q q2 q3
def tkept_l3 (N : Nat) : Nat → Int → (List Int) → Int → (List Int) → Bool → Int → Int → Int → Bool → Int → Int → Int → (List (Int × (Int × Bool))) → (List (Int × (Int × Int))) → Int → (List Int) → Int → Int → (List Int) → Option (Int × List Int × Int × List Int × Bool × Int × Int × Int × Bool × Int × (List (Int × (Int × Bool))) × (List (Int × (Int × Int))) × Int × List Int × Int × Int × List Int)
  | 0, _, _, _, _, _, _, _, _, _, _, _, _, _, _, _, _, _, _, _ => none
  | n_ + 1, weight, least, e, spare, is, n, f, sum, keeps, u, u2, u3, t, t2, t3, q, q2, q3, l =>
    br (decide (u3 < u2))
      (rng u3 l.length <|
      get l u3.toNat fun x_43 =>
      idx t x_43 fun x_44 =>
      chk (sum + x_44.2.1) <|
      chk (u3 + 1) <|
      tkept_l3 N n_ weight least e spare is n f (sum + x_44.2.1) keeps u u2 (u3 + 1) t t2 t3 q q2 q3 l)
      (some ((weight, least, e, spare, is, n, f, sum, keeps, u, t, t2, t3, q, q2, q3, l)))
def tkept_l5 (N : Nat) : Nat → Int → (List Int) → Int → (List Int) → Bool → Int → Int → Int → Bool → Bool → Int → Int → (List (Int × (Int × Int))) → Int → Int → (List (Int × (Int × Bool))) → (List (Int × (Int × Int))) → Int → (List Int) → Int → Int → (List Int) → Int → Int → Int → Option (Int × List Int × Int × List Int × Bool × Int × Int × Int × Bool × Bool × Int × (List (Int × (Int × Int))) × Int × Int × (List (Int × (Int × Bool))) × (List (Int × (Int × Int))) × Int × List Int × Int × Int × List Int × Int × Int × Int)
  | 0, _, _, _, _, _, _, _, _, _, _, _, _, _, _, _, _, _, _, _, _, _, _, _, _, _ => none
  | n_ + 1, weight, least, e, spare, is, n, f, sum, keeps, all, w, u, u2, u3, u4, t, t2, t3, q, q2, q3, l, x, x2, x3 =>
    br (decide (w ≤ x3))
      (br all
        ((containsi_S N l w).bind fun x_63 =>
        chk (w + 1) <|
        tkept_l5 N n_ weight least e spare is n f sum keeps x_63 (w + 1) u u2 u3 u4 t t2 t3 q q2 q3 l x x2 x3)
        (chk (w + 1) <|
        tkept_l5 N n_ weight least e spare is n f sum keeps false (w + 1) u u2 u3 u4 t t2 t3 q q2 q3 l x x2 x3))
      (some ((weight, least, e, spare, is, n, f, sum, keeps, all, u, u2, u3, u4, t, t2, t3, q, q2, q3, l, x, x2, x3)))
def tkept_l4 (N : Nat) : Nat → Int → (List Int) → Int → (List Int) → Bool → Int → Int → Int → Bool → Int → (List (Int × (Int × Int))) → Int → Int → (List (Int × (Int × Bool))) → (List (Int × (Int × Int))) → Int → (List Int) → Int → Int → (List Int) → Option (Int × List Int × Int × List Int × Bool × Int × Int × Int × Bool × Int × (List (Int × (Int × Bool))) × (List (Int × (Int × Int))) × Int × List Int × Int × Int × List Int)
  | 0, _, _, _, _, _, _, _, _, _, _, _, _, _, _, _, _, _, _, _, _ => none
  | n_ + 1, weight, least, e, spare, is, n, f, sum, keeps, u, u2, u3, u4, t, t2, t3, q, q2, q3, l =>
    br (decide (u4 < u3))
      (idx u2 u4 fun x_62 =>
      (tkept_l5 N N weight least e spare is n f sum keeps true x_62.2.1 u u2 u3 u4 t t2 t3 q q2 q3 l x_62.1 x_62.2.1 x_62.2.2).bind fun (weight_64, least_65, e_66, spare_67, is_68, n_69, f_70, sum_71, keeps_72, all_73, u_74, u2_75, u3_76, u4_77, t_78, t2_79, t3_80, q_81, q2_82, q3_83, l_84, x_85, x2_86, x3_87) =>
      br keeps_72
        (br (!all_73)
          (chk (u4_77 + 1) <|
          tkept_l4 N n_ weight_64 least_65 e_66 spare_67 is_68 n_69 f_70 sum_71 true u_74 u2_75 u3_76 (u4_77 + 1) t_78 t2_79 t3_80 q_81 q2_82 q3_83 l_84)
          ((containsi_S N l_84 x_85).bind fun x_88 =>
          chk (u4_77 + 1) <|
          tkept_l4 N n_ weight_64 least_65 e_66 spare_67 is_68 n_69 f_70 sum_71 x_88 u_74 u2_75 u3_76 (u4_77 + 1) t_78 t2_79 t3_80 q_81 q2_82 q3_83 l_84))
        (chk (u4_77 + 1) <|
        tkept_l4 N n_ weight_64 least_65 e_66 spare_67 is_68 n_69 f_70 sum_71 false u_74 u2_75 u3_76 (u4_77 + 1) t_78 t2_79 t3_80 q_81 q2_82 q3_83 l_84))
      (some ((weight, least, e, spare, is, n, f, sum, keeps, u, t, t2, t3, q, q2, q3, l)))
def tkept_l6 (N : Nat) : Nat → Int → (List Int) → Int → (List Int) → (List Int) → Int → (List Int) → Int → Int → (List (Int × (Int × Bool))) → (List (Int × (Int × Int))) → Int → (List Int) → Int → Int → Option ((Unit) ⊕ (Int × List Int × Int × List Int × Int × (List (Int × (Int × Bool))) × (List (Int × (Int × Int))) × Int × List Int × Int × Int))
  | 0, _, _, _, _, _, _, _, _, _, _, _, _, _, _, _ => none
  | n_ + 1, weight, least, e, spare, l, u, u2, u3, u4, t, t2, t3, q, q2, q3 =>
    br (decide (u4 < u3))
      (idx u2 u4 fun x_107 =>
      (cloneo_S N l).bind fun x_108 =>
      chk (u4 + 1) <|
      (delete_S N u4 (u4 + 1) x_108).bind fun x_109 =>
      (lkeeps_S N t t2 t3 x_109).bind fun (x_110, y_111, y_112) =>
      br (!decide (y_112 = 0))
        (some (.inl ()))
        (br (!x_110)
          ((coftk_S N t2 x_107).bind fun x_113 =>
          br (!x_113)
            (some (.inl ()))
            (chk (u4 + 1) <|
            tkept_l6 N n_ weight least e spare l u u2 u3 (u4 + 1) t t2 t3 q q2 q3))
          (chk (u4 + 1) <|
          tkept_l6 N n_ weight least e spare l u u2 u3 (u4 + 1) t t2 t3 q q2 q3)))
      (some (.inr (weight, least, e, spare, u, t, t2, t3, q, q2, q3)))
def tkept_l1 (N : Nat) : Nat → Int → (List Int) → Int → (List Int) → Int → (List (Int × (Int × Bool))) → (List (Int × (Int × Int))) → Int → (List Int) → Int → Int → Option ((Unit) ⊕ ((Unit) ⊕ (List Int × (List (Int × (Int × Bool))) × (List (Int × (Int × Int))) × Int)))
  | 0, _, _, _, _, _, _, _, _, _, _, _ => none
  | n_ + 1, weight, least, e, spare, u, t, t2, t3, q, q2, q3 =>
    br (decide (u < 8))
      ((strike_S N 2 4 q q2 q3).bind fun (x_20, y_21, y_22, y_23) =>
      (tkept_l2 N N weight least e spare x_20 u (t.length : Int) 0 t t2 t3 y_21 y_22 y_23 []).bind fun (weight_28, least_29, e_30, spare_31, u_32, t_33, t2_34, t3_35, q_36, q2_37, q3_38, l_39) =>
      br (decide ((l_39.length : Int) = 0))
        (tkept_j3 N (tkept_l1 N n_) weight_28 least_29 e_30 spare_31 u_32 t_33 t2_34 t3_35 q_36 q2_37 q3_38)
        ((lkeeps_S N t_33 t2_34 t3_35 l_39).bind fun (x_40, y_41, y_42) =>
        (tkept_l3 N N weight_28 least_29 e_30 spare_31 x_40 y_41 y_42 0 true u_32 (l_39.length : Int) 0 t_33 t2_34 t3_35 q_36 q2_37 q3_38 l_39).bind fun (weight_45, least_46, e_47, spare_48, is_49, n_50, f_51, sum_52, keeps_53, u_54, t_55, t2_56, t3_57, q_58, q2_59, q3_60, l_61) =>
        (tkept_l4 N N weight_45 least_46 e_47 spare_48 is_49 n_50 f_51 sum_52 keeps_53 u_54 t2_56 (t2_56.length : Int) 0 t_55 t2_56 t3_57 q_58 q2_59 q3_60 l_61).bind fun (weight_89, least_90, e_91, spare_92, is_93, n_94, f_95, sum_96, keeps_97, u_98, t_99, t2_100, t3_101, q_102, q2_103, q3_104, l_105) =>
        br (!decide (f_95 = 0))
          (some (.inl ()))
          (br (!(is_93 == keeps_97))
            (some (.inl ()))
            (br (!decide (n_94 = sum_96))
              (some (.inl ()))
              (br is_93
                (br (decide (weight_89 ≤ n_94))
                  (br (!decide (e_91 = 0))
                    (some (.inl ()))
                    (br (decide ((l_105.length : Int) < (least_90.length : Int)))
                      (some (.inl ()))
                      (br (decide ((l_105.length : Int) = (least_90.length : Int)))
                        ((comparei_S N l_105 least_90).bind fun x_106 =>
                        br (decide (x_106 < 0))
                          (some (.inl ()))
                          (br (!is_93)
                            (tkept_j3 N (tkept_l1 N n_) weight_89 least_90 e_91 spare_92 u_98 t_99 t2_100 t3_101 q_102 q2_103 q3_104)
                            (br (decide ((l_105.length : Int) < 2))
                              (tkept_j3 N (tkept_l1 N n_) weight_89 least_90 e_91 spare_92 u_98 t_99 t2_100 t3_101 q_102 q2_103 q3_104)
                              ((tkept_l6 N N weight_89 least_90 e_91 spare_92 l_105 u_98 l_105 (l_105.length : Int) 0 t_99 t2_100 t3_101 q_102 q2_103 q3_104).bind fun e => match e with
                              | .inl _ =>
                                some (.inr (.inl ()))
                              | .inr (weight_114, least_115, e_116, spare_117, u_118, t_119, t2_120, t3_121, q_122, q2_123, q3_124) =>
                                tkept_j3 N (tkept_l1 N n_) weight_114 least_115 e_116 spare_117 u_118 t_119 t2_120 t3_121 q_122 q2_123 q3_124))))
                        (br (!is_93)
                          (tkept_j3 N (tkept_l1 N n_) weight_89 least_90 e_91 spare_92 u_98 t_99 t2_100 t3_101 q_102 q2_103 q3_104)
                          (br (decide ((l_105.length : Int) < 2))
                            (tkept_j3 N (tkept_l1 N n_) weight_89 least_90 e_91 spare_92 u_98 t_99 t2_100 t3_101 q_102 q2_103 q3_104)
                            ((tkept_l6 N N weight_89 least_90 e_91 spare_92 l_105 u_98 l_105 (l_105.length : Int) 0 t_99 t2_100 t3_101 q_102 q2_103 q3_104).bind fun e => match e with
                            | .inl _ =>
                              some (.inr (.inl ()))
                            | .inr (weight_125, least_126, e_127, spare_128, u_129, t_130, t2_131, t3_132, q_133, q2_134, q3_135) =>
                              tkept_j3 N (tkept_l1 N n_) weight_125 least_126 e_127 spare_128 u_129 t_130 t2_131 t3_132 q_133 q2_134 q3_135))))))
                  (br (!is_93)
                    (tkept_j3 N (tkept_l1 N n_) weight_89 least_90 e_91 spare_92 u_98 t_99 t2_100 t3_101 q_102 q2_103 q3_104)
                    (br (decide ((l_105.length : Int) < 2))
                      (tkept_j3 N (tkept_l1 N n_) weight_89 least_90 e_91 spare_92 u_98 t_99 t2_100 t3_101 q_102 q2_103 q3_104)
                      ((tkept_l6 N N weight_89 least_90 e_91 spare_92 l_105 u_98 l_105 (l_105.length : Int) 0 t_99 t2_100 t3_101 q_102 q2_103 q3_104).bind fun e => match e with
                      | .inl _ =>
                        some (.inr (.inl ()))
                      | .inr (weight_136, least_137, e_138, spare_139, u_140, t_141, t2_142, t3_143, q_144, q2_145, q3_146) =>
                        tkept_j3 N (tkept_l1 N n_) weight_136 least_137 e_138 spare_139 u_140 t_141 t2_142 t3_143 q_144 q2_145 q3_146))))
                (br (!is_93)
                  (tkept_j3 N (tkept_l1 N n_) weight_89 least_90 e_91 spare_92 u_98 t_99 t2_100 t3_101 q_102 q2_103 q3_104)
                  (br (decide ((l_105.length : Int) < 2))
                    (tkept_j3 N (tkept_l1 N n_) weight_89 least_90 e_91 spare_92 u_98 t_99 t2_100 t3_101 q_102 q2_103 q3_104)
                    ((tkept_l6 N N weight_89 least_90 e_91 spare_92 l_105 u_98 l_105 (l_105.length : Int) 0 t_99 t2_100 t3_101 q_102 q2_103 q3_104).bind fun e => match e with
                    | .inl _ =>
                      some (.inr (.inl ()))
                    | .inr (weight_147, least_148, e_149, spare_150, u_151, t_152, t2_153, t3_154, q_155, q2_156, q3_157) =>
                      tkept_j3 N (tkept_l1 N n_) weight_147 least_148 e_149 spare_150 u_151 t_152 t2_153 t3_154 q_155 q2_156 q3_157))))))))
      (some (.inr (.inr (spare, t, t2, t3))))
def tkept_j4 (N : Nat) (rec : (List Int) → Int → Int → Int → Int → Int → (List (Int × (Int × Bool))) → (List (Int × (Int × Int))) → Int → (List Int) → Option (List Int × Int × Int × Int × (List (Int × (Int × Bool))) × (List (Int × (Int × Int))) × Int × List Int)) (spare : List Int) (w : Int) (u : Int) (u2 : Int) (u3 : Int) (u4 : Int) (t : List (Int × (Int × Bool))) (t2 : List (Int × (Int × Int))) (t3 : Int) (others : List Int) : Option (List Int × Int × Int × Int × (List (Int × (Int × Bool))) × (List (Int × (Int × Int))) × Int × List Int) :=
  chk (u4 + 1) <|
  rec spare w u u2 u3 (u4 + 1) t t2 t3 others
def tkept_l8 (N : Nat) : Nat → (List Int) → Int → Int → Int → Int → Int → (List (Int × (Int × Bool))) → (List (Int × (Int × Int))) → Int → (List Int) → Option (List Int × Int × Int × Int × (List (Int × (Int × Bool))) × (List (Int × (Int × Int))) × Int × List Int)
  | 0, _, _, _, _, _, _, _, _, _, _ => none
  | n_ + 1, spare, w, u, u2, u3, u4, t, t2, t3, others =>
    br (decide (u4 < u3))
      (br (!decide (u4 = w))
        (lim (others.length + [u4].length) <|
        tkept_j4 N (tkept_l8 N n_) spare w u u2 u3 u4 t t2 t3 (others ++ [u4]))
        (tkept_j4 N (tkept_l8 N n_) spare w u u2 u3 u4 t t2 t3 others))
      (some ((spare, w, u, u2, t, t2, t3, others)))
def tkept_l7 (N : Nat) : Nat → (List Int) → Int → Int → (List (Int × (Int × Bool))) → (List (Int × (Int × Int))) → Int → Option ((Unit) ⊕ (Unit))
  | 0, _, _, _, _, _, _ => none
  | n_ + 1, spare, u, u2, t, t2, t3 =>
    br (decide (u2 < u))
      ((tkept_l8 N N spare u2 u u2 (t.length : Int) 0 t t2 t3 []).bind fun (spare_162, w_163, u_164, u2_165, t_166, t2_167, t3_168, others_169) =>
      (lkeeps_S N t_166 t2_167 t3_168 others_169).bind fun (x_170, y_171, y_172) =>
      br (decide (y_172 = 0))
        ((containsi_S N spare_162 w_163).bind fun x_173 =>
        br (!(x_170 == x_173))
          (some (.inl ()))
          (chk (u2_165 + 1) <|
          tkept_l7 N n_ spare_162 u_164 (u2_165 + 1) t_166 t2_167 t3_168))
        ((containsi_S N spare_162 w_163).bind fun x_174 =>
        br (!(false == x_174))
          (some (.inl ()))
          (chk (u2_165 + 1) <|
          tkept_l7 N n_ spare_162 u_164 (u2_165 + 1) t_166 t2_167 t3_168)))
      (some (.inr ()))
def tkept_j1 (N : Nat) (weight : Int) (least : List Int) (e : Int) (t : List (Int × (Int × Bool))) (t2 : List (Int × (Int × Int))) (t3 : Int) (q : List Int) (q2 : Int) (q3 : Int) : Option Bool :=
  (spare_S N t t2 t3).bind fun (x_18, y_19) =>
  br (!decide (y_19 = 0))
    (some false)
    ((tkept_l1 N N weight least e x_18 0 t t2 t3 q q2 q3).bind fun e => match e with
    | .inl _ =>
      some false
    | .inr (.inl _) =>
      some false
    | .inr (.inr (spare_158, t_159, t2_160, t3_161)) =>
      (tkept_l7 N N spare_158 (t_159.length : Int) 0 t_159 t2_160 t3_161).bind fun e => match e with
      | .inl _ =>
        some false
      | .inr _ =>
        (awake_S N).bind fun x_175 =>
        some x_175)
def tkept_S (N : Nat) (numbers : List Int) (tries : List Int) (heavy : Int) : Option Bool :=
  (hang_S N numbers).bind fun (x_1, y_2, y_3) =>
  (made_S N 9 3 x_1 y_2 y_3).bind fun (x_4, y_5, y_6, y_7, y_8, y_9) =>
  (hang_S N tries).bind fun (x_10, y_11, y_12) =>
  (least_S N x_4 y_5 y_6 (Int.tmod (IntKind.i64.wrap heavy) 40)).bind fun (x_13, y_14) =>
  br (decide (y_14 = 0))
    ((lkeeps_S N x_4 y_5 y_6 x_13).bind fun (x_15, y_16, y_17) =>
    br (!decide (y_17 = 0))
      (some false)
      (br (!x_15)
        (some false)
        (br (decide (y_16 < (Int.tmod (IntKind.i64.wrap heavy) 40)))
          (some false)
          (tkept_j1 N (Int.tmod (IntKind.i64.wrap heavy) 40) x_13 y_14 x_4 y_5 y_6 x_10 y_11 y_12))))
    (br (!decide (y_14 = 6))
      (some false)
      (tkept_j1 N (Int.tmod (IntKind.i64.wrap heavy) 40) x_13 y_14 x_4 y_5 y_6 x_10 y_11 y_12))
noncomputable def tkept_sp (N : Nat) : List Spec := [sp_cloneo N, sp_strike N, sp_seldom N, sp_hang N, sp_containsi N, sp_lkeeps N, sp_spare N, sp_least N, sp_awake N, sp_made N, sp_delete N, sp_comparei N, sp_coftk N]
theorem tkept_all (N : Nat) : AllP (SpecOK Try.prog) (tkept_sp N) := ⟨sp_cloneo_ok N, sp_strike_ok N, sp_seldom_ok N, sp_hang_ok N, sp_containsi_ok N, sp_lkeeps_ok N, sp_spare_ok N, sp_least_ok N, sp_awake_ok N, sp_made_ok N, sp_delete_ok N, sp_comparei_ok N, sp_coftk_ok N, trivial⟩
noncomputable def tkept_c : Code := (Try.f15.body).getD .skip
noncomputable abbrev tkept_B : Body := { c := tkept_c, n := 289, res := [.tmp 6], outs := [⟨[.b], []⟩], m0 := 0 }
abbrev tkept_rt : altD tkept_B.outs → Option Bool := fun r => some r.1.1
abbrev tkept_l2_at : List PI := [.c [1, 1, 1, 1, 1, 1, 1, 1, 0, 1, 0, 0, 1, 1, 0, 0, 1, 1, 0, 1, 0, 0, 0], .c [1, 1, 1, 1, 1, 1, 1, 1, 0, 1, 0, 0, 1, 1, 0, 0, 1, 1, 0, 1, 0, 0, 1], .l [1, 1, 1, 1, 1, 1, 1, 1, 0, 1, 0, 0, 1, 1, 0, 0, 1, 1, 0, 1, 0, 0], .b 2, .c [1, 1, 1, 1, 1, 1, 1, 1, 0, 1, 0, 0, 1, 1, 0, 0, 1, 1, 1], .b 1, .c [1, 1, 1, 1, 1, 1, 1, 1, 0, 1, 0, 0, 1, 1, 1], .l [1, 1, 1, 1, 1, 1, 1, 1, 0, 1, 0, 0], .b 0, .c [1, 1, 1, 1, 1, 1, 1, 1, 1]]
abbrev tkept_l2_st : Sta := ⟨[7, 8, 9, 10, 11, 15, 17, 18, 86, 92, 93], ⟨[.own 0 0, .own 1 0, .i .i64, .sl (.int .i64), .i .i64, .sl (.int .i64), .ols 2, .i .i64, .i .i64, .i .i64, .i .i64], [.segs [.sl (.pair (.int .i64) (.pair (.int .i64) .bool)), .sl (.pair (.int .i64) (.pair (.int .i64) (.int .i64))), .i .i64], .segs [.sl (.int .u8), .i .i64, .i .u32], .lst (.int .i64)]⟩⟩
abbrev tkept_l2_h (rec : Int → (List Int) → Int → (List Int) → Int → Int → Int → Int → (List (Int × (Int × Bool))) → (List (Int × (Int × Int))) → Int → (List Int) → Int → Int → (List Int) → Option (Int × List Int × Int × List Int × Int × (List (Int × (Int × Bool))) × (List (Int × (Int × Int))) × Int × List Int × Int × Int × List Int)) : Leaf (Int × List Int × Int × List Int × Int × (List (Int × (Int × Bool))) × (List (Int × (Int × Int))) × Int × List Int × Int × Int × List Int) := ⟨tkept_l2_at, tkept_l2_st, fun p => rec p.1.2.2.1 p.1.2.2.2.1 p.1.2.2.2.2.1 p.1.2.2.2.2.2.1 p.1.2.2.2.2.2.2.2.1 p.1.2.2.2.2.2.2.2.2.1 p.1.2.2.2.2.2.2.2.2.2.1 p.1.2.2.2.2.2.2.2.2.2.2.1 p.2.1.1 p.2.1.2.1 p.2.1.2.2.1 p.2.2.1.1 p.2.2.1.2.1 p.2.2.1.2.2.1 p.2.2.2.1⟩
abbrev tkept_l2_e0 : Leaf (Int × List Int × Int × List Int × Int × (List (Int × (Int × Bool))) × (List (Int × (Int × Int))) × Int × List Int × Int × Int × List Int) := ⟨[.c [1, 1, 1, 1, 1, 1, 1, 1, 0, 1, 0, 0, 1, 1, 0, 0, 1, 1, 1, 0, 0], .c [1, 1, 1, 1, 1, 1, 1, 1, 0, 1, 0, 0, 1, 1, 0, 0, 1, 1, 1, 0, 1], .c [1, 1, 1, 1, 1, 1, 1, 1, 0, 1, 0, 0, 1, 1, 0, 0, 1, 1, 1, 1], .b 1, .c [1, 1, 1, 1, 1, 1, 1, 1, 0, 1, 0, 0, 1, 1, 1], .l [1, 1, 1, 1, 1, 1, 1, 1, 0, 1, 0, 0], .b 0, .c [1, 1, 1, 1, 1, 1, 1, 1, 1]], ⟨[7, 8, 9, 10, 11, 15, 17, 86], ⟨[.own 0 0, .own 1 0, .i .i64, .sl (.int .i64), .i .i64, .sl (.int .i64), .ols 2, .i .i64], [.segs [.sl (.pair (.int .i64) (.pair (.int .i64) .bool)), .sl (.pair (.int .i64) (.pair (.int .i64) (.int .i64))), .i .i64], .segs [.sl (.int .u8), .i .i64, .i .u32], .lst (.int .i64)]⟩⟩, fun p => some ((p.1.2.2.1, p.1.2.2.2.1, p.1.2.2.2.2.1, p.1.2.2.2.2.2.1, p.1.2.2.2.2.2.2.2.1, p.2.1.1, p.2.1.2.1, p.2.1.2.2.1, p.2.2.1.1, p.2.2.1.2.1, p.2.2.1.2.2.1, p.2.2.2.1))⟩
abbrev tkept_j2_at : List PI := [.c [1, 1, 1, 1, 1, 1, 1, 1, 0, 1, 0, 0, 1, 1, 0, 0, 1, 1, 0, 1, 0, 0, 1, 1, 1], .l [1, 1, 1, 1, 1, 1, 1, 1, 0, 1, 0, 0, 1, 1, 0, 0, 1, 1, 0, 1, 0, 0], .b 2, .c [1, 1, 1, 1, 1, 1, 1, 1, 0, 1, 0, 0, 1, 1, 0, 0, 1, 1, 1], .b 1, .c [1, 1, 1, 1, 1, 1, 1, 1, 0, 1, 0, 0, 1, 1, 1], .l [1, 1, 1, 1, 1, 1, 1, 1, 0, 1, 0, 0], .b 0, .c [1, 1, 1, 1, 1, 1, 1, 1, 1]]
abbrev tkept_j2_st : Sta := ⟨[7, 8, 9, 10, 11, 15, 17, 18, 86, 92, 93], ⟨[.own 0 0, .own 1 0, .i .i64, .sl (.int .i64), .i .i64, .sl (.int .i64), .ols 2, .i .i64, .i .i64, .i .i64, .i .i64], [.segs [.sl (.pair (.int .i64) (.pair (.int .i64) .bool)), .sl (.pair (.int .i64) (.pair (.int .i64) (.int .i64))), .i .i64], .segs [.sl (.int .u8), .i .i64, .i .u32], .lst (.int .i64)]⟩⟩
abbrev tkept_j2_k (N : Nat) (rec : Int → (List Int) → Int → (List Int) → Int → Int → Int → Int → (List (Int × (Int × Bool))) → (List (Int × (Int × Int))) → Int → (List Int) → Int → Int → (List Int) → Option (Int × List Int × Int × List Int × Int × (List (Int × (Int × Bool))) × (List (Int × (Int × Int))) × Int × List Int × Int × Int × List Int)) : Leaf (Int × List Int × Int × List Int × Int × (List (Int × (Int × Bool))) × (List (Int × (Int × Int))) × Int × List Int × Int × Int × List Int) := ⟨tkept_j2_at, tkept_j2_st, fun p => tkept_j2 N rec p.1.2.2.1 p.1.2.2.2.1 p.1.2.2.2.2.1 p.1.2.2.2.2.2.1 p.1.2.2.2.2.2.2.2.1 p.1.2.2.2.2.2.2.2.2.1 p.1.2.2.2.2.2.2.2.2.2.1 p.1.2.2.2.2.2.2.2.2.2.2.1 p.2.1.1 p.2.1.2.1 p.2.1.2.2.1 p.2.2.1.1 p.2.2.1.2.1 p.2.2.1.2.2.1 p.2.2.2.1⟩
theorem tkept_j2_eq (N : Nat) (rec : Int → (List Int) → Int → (List Int) → Int → Int → Int → Int → (List (Int × (Int × Bool))) → (List (Int × (Int × Int))) → Int → (List Int) → Int → Int → (List Int) → Option (Int × List Int × Int × List Int × Int × (List (Int × (Int × Bool))) × (List (Int × (Int × Int))) × Int × List Int × Int × Int × List Int)) (weight : Int) (least : List Int) (e : Int) (spare : List Int) (often : Int) (u : Int) (u2 : Int) (u3 : Int) (t : List (Int × (Int × Bool))) (t2 : List (Int × (Int × Int))) (t3 : Int) (q : List Int) (q2 : Int) (q3 : Int) (l : List Int) : ev (Z := Int × List Int × Int × List Int × Int × (List (Int × (Int × Bool))) × (List (Int × (Int × Int))) × Int × List Int × Int × Int × List Int) Try.prog (tkept_sp N) tkept_B [] [tkept_l2_h rec, tkept_l2_e0] none 400 true tkept_j2_at (stL tkept_j2_st (((), (), weight, least, e, spare, (), often, u, u2, u3, ()), ((t, t2, t3, ()), (q, q2, q3, ()), l, ()))) (stH tkept_j2_st (((), (), weight, least, e, spare, (), often, u, u2, u3, ()), ((t, t2, t3, ()), (q, q2, q3, ()), l, ()))) = tkept_j2 N rec weight least e spare often u u2 u3 t t2 t3 q q2 q3 l := by kernel_rfl
theorem tkept_j2_lf (N : Nat) (rec : Int → (List Int) → Int → (List Int) → Int → Int → Int → Int → (List (Int × (Int × Bool))) → (List (Int × (Int × Int))) → Int → (List Int) → Int → Int → (List Int) → Option (Int × List Int × Int × List Int × Int × (List (Int × (Int × Bool))) × (List (Int × (Int × Int))) × Int × List Int × Int × Int × List Int)) {z : Int × List Int × Int × List Int × Int × (List (Int × (Int × Bool))) × (List (Int × (Int × Int))) × Int × List Int × Int × Int × List Int} {top : Bool} {E : EE} {Xc : Ctx} (hE : EOK tkept_B.m0 E) (hX : CxOK top Xc) (hrec : LeafOK Try.prog tkept_B.c tkept_B.n tkept_B.m0 E Xc z (tkept_l2_h rec)) (h0 : LeafOK Try.prog tkept_B.c tkept_B.n tkept_B.m0 E Xc z tkept_l2_e0) : LeafOK Try.prog tkept_B.c tkept_B.n tkept_B.m0 E Xc z (tkept_j2_k N rec) := leaf_of_ev (B := tkept_B) (loops := []) (leaves := [tkept_l2_h rec, tkept_l2_e0]) (tkept_all N) mixed trivial hE hX ⟨hrec, h0, trivial⟩ RetOK.no (fun p => tkept_j2_eq N rec p.1.2.2.1 p.1.2.2.2.1 p.1.2.2.2.2.1 p.1.2.2.2.2.2.1 p.1.2.2.2.2.2.2.2.1 p.1.2.2.2.2.2.2.2.2.1 p.1.2.2.2.2.2.2.2.2.2.1 p.1.2.2.2.2.2.2.2.2.2.2.1 p.2.1.1 p.2.1.2.1 p.2.1.2.2.1 p.2.2.1.1 p.2.2.1.2.1 p.2.2.1.2.2.1 p.2.2.2.1)
noncomputable def tkept_l2_L (N : Nat) : LoopS := { at_ := tkept_l2_at, sta := tkept_l2_st, exits := [([.c [1, 1, 1, 1, 1, 1, 1, 1, 0, 1, 0, 0, 1, 1, 0, 0, 1, 1, 1, 0, 0], .c [1, 1, 1, 1, 1, 1, 1, 1, 0, 1, 0, 0, 1, 1, 0, 0, 1, 1, 1, 0, 1], .c [1, 1, 1, 1, 1, 1, 1, 1, 0, 1, 0, 0, 1, 1, 0, 0, 1, 1, 1, 1], .b 1, .c [1, 1, 1, 1, 1, 1, 1, 1, 0, 1, 0, 0, 1, 1, 1], .l [1, 1, 1, 1, 1, 1, 1, 1, 0, 1, 0, 0], .b 0, .c [1, 1, 1, 1, 1, 1, 1, 1, 1]], ⟨[7, 8, 9, 10, 11, 15, 17, 86], ⟨[.own 0 0, .own 1 0, .i .i64, .sl (.int .i64), .i .i64, .sl (.int .i64), .ols 2, .i .i64], [.segs [.sl (.pair (.int .i64) (.pair (.int .i64) .bool)), .sl (.pair (.int .i64) (.pair (.int .i64) (.int .i64))), .i .i64], .segs [.sl (.int .u8), .i .i64, .i .u32], .lst (.int .i64)]⟩⟩)], run := fun p k => (tkept_l2 N N p.1.2.2.1 p.1.2.2.2.1 p.1.2.2.2.2.1 p.1.2.2.2.2.2.1 p.1.2.2.2.2.2.2.2.1 p.1.2.2.2.2.2.2.2.2.1 p.1.2.2.2.2.2.2.2.2.2.1 p.1.2.2.2.2.2.2.2.2.2.2.1 p.2.1.1 p.2.1.2.1 p.2.1.2.2.1 p.2.2.1.1 p.2.2.1.2.1 p.2.2.1.2.2.1 p.2.2.2.1).bind fun e => k (.inl (((), (), e.1, e.2.1, e.2.2.1, e.2.2.2.1, (), e.2.2.2.2.1, ()), ((e.2.2.2.2.2.1, e.2.2.2.2.2.2.1, e.2.2.2.2.2.2.2.1, ()), (e.2.2.2.2.2.2.2.2.1, e.2.2.2.2.2.2.2.2.2.1, e.2.2.2.2.2.2.2.2.2.2.1, ()), e.2.2.2.2.2.2.2.2.2.2.2, ()))) }
theorem tkept_l2_eq (N n_ : Nat) (weight : Int) (least : List Int) (e : Int) (spare : List Int) (often : Int) (u : Int) (u2 : Int) (u3 : Int) (t : List (Int × (Int × Bool))) (t2 : List (Int × (Int × Int))) (t3 : Int) (q : List Int) (q2 : Int) (q3 : Int) (l : List Int) : ev (Z := Int × List Int × Int × List Int × Int × (List (Int × (Int × Bool))) × (List (Int × (Int × Int))) × Int × List Int × Int × Int × List Int) Try.prog (tkept_sp N) tkept_B [] [tkept_l2_h (tkept_l2 N n_), tkept_l2_e0, tkept_j2_k N (tkept_l2 N n_)] none 400 true tkept_l2_at (stL tkept_l2_st (((), (), weight, least, e, spare, (), often, u, u2, u3, ()), ((t, t2, t3, ()), (q, q2, q3, ()), l, ()))) (stH tkept_l2_st (((), (), weight, least, e, spare, (), often, u, u2, u3, ()), ((t, t2, t3, ()), (q, q2, q3, ()), l, ()))) = tkept_l2 N (n_ + 1) weight least e spare often u u2 u3 t t2 t3 q q2 q3 l := by kernel_rfl
theorem tkept_l2_ok (N : Nat) {top : Bool} : LoopOK Try.prog tkept_B.c tkept_B.n tkept_B.m0 top (tkept_l2_L N) := loop_of_ev (Z := Int × List Int × Int × List Int × Int × (List (Int × (Int × Bool))) × (List (Int × (Int × Int))) × Int × List Int × Int × Int × List Int) (N := N) (fun m p => tkept_l2 N m p.1.2.2.1 p.1.2.2.2.1 p.1.2.2.2.2.1 p.1.2.2.2.2.2.1 p.1.2.2.2.2.2.2.2.1 p.1.2.2.2.2.2.2.2.2.1 p.1.2.2.2.2.2.2.2.2.2.1 p.1.2.2.2.2.2.2.2.2.2.2.1 p.2.1.1 p.2.1.2.1 p.2.1.2.2.1 p.2.2.1.1 p.2.2.1.2.1 p.2.2.1.2.2.1 p.2.2.2.1) (fun e => .inl (((), (), e.1, e.2.1, e.2.2.1, e.2.2.2.1, (), e.2.2.2.2.1, ()), ((e.2.2.2.2.2.1, e.2.2.2.2.2.2.1, e.2.2.2.2.2.2.2.1, ()), (e.2.2.2.2.2.2.2.2.1, e.2.2.2.2.2.2.2.2.2.1, e.2.2.2.2.2.2.2.2.2.2.1, ()), e.2.2.2.2.2.2.2.2.2.2.2, ()))) (fun _ _ _ => rfl) (fun _ => rfl) (fun m z E Xc hE hX hrec hx => leaf_of_ev (B := tkept_B) (loops := []) (leaves := [tkept_l2_h (tkept_l2 N m), tkept_l2_e0, tkept_j2_k N (tkept_l2 N m)]) (tkept_all N) mixed trivial hE hX ⟨hrec, (fun p hp => by obtain rfl := Option.some.inj hp; exact hx), tkept_j2_lf N _ hE hX hrec (fun p hp => by obtain rfl := Option.some.inj hp; exact hx), trivial⟩ RetOK.no (fun p => tkept_l2_eq N m p.1.2.2.1 p.1.2.2.2.1 p.1.2.2.2.2.1 p.1.2.2.2.2.2.1 p.1.2.2.2.2.2.2.2.1 p.1.2.2.2.2.2.2.2.2.1 p.1.2.2.2.2.2.2.2.2.2.1 p.1.2.2.2.2.2.2.2.2.2.2.1 p.2.1.1 p.2.1.2.1 p.2.1.2.2.1 p.2.2.1.1 p.2.2.1.2.1 p.2.2.1.2.2.1 p.2.2.2.1))
abbrev tkept_l1_at : List PI := [.c [1, 1, 1, 1, 1, 1, 1, 1, 0, 1, 0, 0, 0], .c [1, 1, 1, 1, 1, 1, 1, 1, 0, 1, 0, 0, 1], .l [1, 1, 1, 1, 1, 1, 1, 1, 0, 1, 0, 0], .b 0, .c [1, 1, 1, 1, 1, 1, 1, 1, 1]]
abbrev tkept_l1_st : Sta := ⟨[7, 8, 9, 10, 11, 15, 86], ⟨[.own 0 0, .own 1 0, .i .i64, .sl (.int .i64), .i .i64, .sl (.int .i64), .i .i64], [.segs [.sl (.pair (.int .i64) (.pair (.int .i64) .bool)), .sl (.pair (.int .i64) (.pair (.int .i64) (.int .i64))), .i .i64], .segs [.sl (.int .u8), .i .i64, .i .u32]]⟩⟩
abbrev tkept_l1_h (rec : Int → (List Int) → Int → (List Int) → Int → (List (Int × (Int × Bool))) → (List (Int × (Int × Int))) → Int → (List Int) → Int → Int → Option ((Unit) ⊕ ((Unit) ⊕ (List Int × (List (Int × (Int × Bool))) × (List (Int × (Int × Int))) × Int)))) : Leaf ((Unit) ⊕ ((Unit) ⊕ (List Int × (List (Int × (Int × Bool))) × (List (Int × (Int × Int))) × Int))) := ⟨tkept_l1_at, tkept_l1_st, fun p => rec p.1.2.2.1 p.1.2.2.2.1 p.1.2.2.2.2.1 p.1.2.2.2.2.2.1 p.1.2.2.2.2.2.2.1 p.2.1.1 p.2.1.2.1 p.2.1.2.2.1 p.2.2.1.1 p.2.2.1.2.1 p.2.2.1.2.2.1⟩
abbrev tkept_l1_e0 : Leaf ((Unit) ⊕ ((Unit) ⊕ (List Int × (List (Int × (Int × Bool))) × (List (Int × (Int × Int))) × Int))) := ⟨[.c [1, 1, 1, 1, 1, 1, 1, 1, 0, 1, 0, 0, 1, 1, 0, 0, 1, 1, 1, 1, 1, 1, 1, 1, 0, 1, 0, 0], .c [1, 1, 1, 1, 1, 1, 1, 1, 0, 1, 0, 0, 1, 1, 0, 0, 1, 1, 1, 1, 1, 1, 1, 1, 0, 1, 0, 1], .c [1, 1, 1, 1, 1, 1, 1, 1, 0, 1, 0, 0, 1, 1, 0, 0, 1, 1, 1, 1, 1, 1, 1, 1, 1], .b 1, .c [1, 1, 1, 1, 1, 1, 1, 1, 0, 1, 0, 0, 1, 1, 1], .l [1, 1, 1, 1, 1, 1, 1, 1, 0, 1, 0, 0], .b 0, .c [1, 1, 1, 1, 1, 1, 1, 1, 1]], ⟨[], ⟨[], []⟩⟩, fun p => some (.inl ())⟩
abbrev tkept_l1_e1 : Leaf ((Unit) ⊕ ((Unit) ⊕ (List Int × (List (Int × (Int × Bool))) × (List (Int × (Int × Int))) × Int))) := ⟨[.c [1, 1, 1, 1, 1, 1, 1, 1, 0, 1, 0, 0, 1, 1, 0, 0, 1, 1, 1, 1, 1, 1, 1, 1, 1, 1, 1, 0, 0, 1, 1, 0, 0, 1, 1, 1, 1, 0, 0], .c [1, 1, 1, 1, 1, 1, 1, 1, 0, 1, 0, 0, 1, 1, 0, 0, 1, 1, 1, 1, 1, 1, 1, 1, 1, 1, 1, 0, 0, 1, 1, 0, 0, 1, 1, 1, 1, 0, 1], .b 11, .c [1, 1, 1, 1, 1, 1, 1, 1, 0, 1, 0, 0, 1, 1, 0, 0, 1, 1, 1, 1, 1, 1, 1, 1, 1, 1, 1, 0, 0, 1, 1, 1], .l [1, 1, 1, 1, 1, 1, 1, 1, 0, 1, 0, 0, 1, 1, 0, 0, 1, 1, 1, 1, 1, 1, 1, 1, 1, 1, 1, 0, 0], .b 10, .b 1, .c [1, 1, 1, 1, 1, 1, 1, 1, 0, 1, 0, 0, 1, 1, 1], .l [1, 1, 1, 1, 1, 1, 1, 1, 0, 1, 0, 0], .b 0, .c [1, 1, 1, 1, 1, 1, 1, 1, 1]], ⟨[], ⟨[], []⟩⟩, fun p => some (.inr (.inl ()))⟩
abbrev tkept_l1_e2 : Leaf ((Unit) ⊕ ((Unit) ⊕ (List Int × (List (Int × (Int × Bool))) × (List (Int × (Int × Int))) × Int))) := ⟨[.c [1, 1, 1, 1, 1, 1, 1, 1, 1, 0, 0], .c [1, 1, 1, 1, 1, 1, 1, 1, 1, 0, 1], .c [1, 1, 1, 1, 1, 1, 1, 1, 1, 1]], ⟨[7, 15], ⟨[.own 0 0, .sl (.int .i64)], [.segs [.sl (.pair (.int .i64) (.pair (.int .i64) .bool)), .sl (.pair (.int .i64) (.pair (.int .i64) (.int .i64))), .i .i64]]⟩⟩, fun p => some (.inr (.inr (p.1.2.1, p.2.1.1, p.2.1.2.1, p.2.1.2.2.1)))⟩
abbrev tkept_j3_at : List PI := [.c [1, 1, 1, 1, 1, 1, 1, 1, 0, 1, 0, 0, 1, 1, 1], .l [1, 1, 1, 1, 1, 1, 1, 1, 0, 1, 0, 0], .b 0, .c [1, 1, 1, 1, 1, 1, 1, 1, 1]]
abbrev tkept_j3_st : Sta := ⟨[7, 8, 9, 10, 11, 15, 86], ⟨[.own 0 0, .own 1 0, .i .i64, .sl (.int .i64), .i .i64, .sl (.int .i64), .i .i64], [.segs [.sl (.pair (.int .i64) (.pair (.int .i64) .bool)), .sl (.pair (.int .i64) (.pair (.int .i64) (.int .i64))), .i .i64], .segs [.sl (.int .u8), .i .i64, .i .u32]]⟩⟩
abbrev tkept_j3_k (N : Nat) (rec : Int → (List Int) → Int → (List Int) → Int → (List (Int × (Int × Bool))) → (List (Int × (Int × Int))) → Int → (List Int) → Int → Int → Option ((Unit) ⊕ ((Unit) ⊕ (List Int × (List (Int × (Int × Bool))) × (List (Int × (Int × Int))) × Int)))) : Leaf ((Unit) ⊕ ((Unit) ⊕ (List Int × (List (Int × (Int × Bool))) × (List (Int × (Int × Int))) × Int))) := ⟨tkept_j3_at, tkept_j3_st, fun p => tkept_j3 N rec p.1.2.2.1 p.1.2.2.2.1 p.1.2.2.2.2.1 p.1.2.2.2.2.2.1 p.1.2.2.2.2.2.2.1 p.2.1.1 p.2.1.2.1 p.2.1.2.2.1 p.2.2.1.1 p.2.2.1.2.1 p.2.2.1.2.2.1⟩
theorem tkept_j3_eq (N : Nat) (rec : Int → (List Int) → Int → (List Int) → Int → (List (Int × (Int × Bool))) → (List (Int × (Int × Int))) → Int → (List Int) → Int → Int → Option ((Unit) ⊕ ((Unit) ⊕ (List Int × (List (Int × (Int × Bool))) × (List (Int × (Int × Int))) × Int)))) (weight : Int) (least : List Int) (e : Int) (spare : List Int) (u : Int) (t : List (Int × (Int × Bool))) (t2 : List (Int × (Int × Int))) (t3 : Int) (q : List Int) (q2 : Int) (q3 : Int) : ev (Z := (Unit) ⊕ ((Unit) ⊕ (List Int × (List (Int × (Int × Bool))) × (List (Int × (Int × Int))) × Int))) Try.prog (tkept_sp N) tkept_B [tkept_l2_L N] [tkept_l1_h rec, tkept_l1_e0, tkept_l1_e1, tkept_l1_e2] none 400 true tkept_j3_at (stL tkept_j3_st (((), (), weight, least, e, spare, u, ()), ((t, t2, t3, ()), (q, q2, q3, ()), ()))) (stH tkept_j3_st (((), (), weight, least, e, spare, u, ()), ((t, t2, t3, ()), (q, q2, q3, ()), ()))) = tkept_j3 N rec weight least e spare u t t2 t3 q q2 q3 := by kernel_rfl
theorem tkept_j3_lf (N : Nat) (rec : Int → (List Int) → Int → (List Int) → Int → (List (Int × (Int × Bool))) → (List (Int × (Int × Int))) → Int → (List Int) → Int → Int → Option ((Unit) ⊕ ((Unit) ⊕ (List Int × (List (Int × (Int × Bool))) × (List (Int × (Int × Int))) × Int)))) {z : (Unit) ⊕ ((Unit) ⊕ (List Int × (List (Int × (Int × Bool))) × (List (Int × (Int × Int))) × Int))} {top : Bool} {E : EE} {Xc : Ctx} (hE : EOK tkept_B.m0 E) (hX : CxOK top Xc) (hrec : LeafOK Try.prog tkept_B.c tkept_B.n tkept_B.m0 E Xc z (tkept_l1_h rec)) (h0 : LeafOK Try.prog tkept_B.c tkept_B.n tkept_B.m0 E Xc z tkept_l1_e0) (h1 : LeafOK Try.prog tkept_B.c tkept_B.n tkept_B.m0 E Xc z tkept_l1_e1) (h2 : LeafOK Try.prog tkept_B.c tkept_B.n tkept_B.m0 E Xc z tkept_l1_e2) : LeafOK Try.prog tkept_B.c tkept_B.n tkept_B.m0 E Xc z (tkept_j3_k N rec) := leaf_of_ev (B := tkept_B) (loops := [tkept_l2_L N]) (leaves := [tkept_l1_h rec, tkept_l1_e0, tkept_l1_e1, tkept_l1_e2]) (tkept_all N) mixed ⟨tkept_l2_ok N, trivial⟩ hE hX ⟨hrec, h0, h1, h2, trivial⟩ RetOK.no (fun p => tkept_j3_eq N rec p.1.2.2.1 p.1.2.2.2.1 p.1.2.2.2.2.1 p.1.2.2.2.2.2.1 p.1.2.2.2.2.2.2.1 p.2.1.1 p.2.1.2.1 p.2.1.2.2.1 p.2.2.1.1 p.2.2.1.2.1 p.2.2.1.2.2.1)
abbrev tkept_l3_at : List PI := [.c [1, 1, 1, 1, 1, 1, 1, 1, 0, 1, 0, 0, 1, 1, 0, 0, 1, 1, 1, 1, 1, 1, 0, 1, 0, 0, 0], .c [1, 1, 1, 1, 1, 1, 1, 1, 0, 1, 0, 0, 1, 1, 0, 0, 1, 1, 1, 1, 1, 1, 0, 1, 0, 0, 1], .l [1, 1, 1, 1, 1, 1, 1, 1, 0, 1, 0, 0, 1, 1, 0, 0, 1, 1, 1, 1, 1, 1, 0, 1, 0, 0], .b 4, .c [1, 1, 1, 1, 1, 1, 1, 1, 0, 1, 0, 0, 1, 1, 0, 0, 1, 1, 1, 1, 1, 1, 1], .b 1, .c [1, 1, 1, 1, 1, 1, 1, 1, 0, 1, 0, 0, 1, 1, 1], .l [1, 1, 1, 1, 1, 1, 1, 1, 0, 1, 0, 0], .b 0, .c [1, 1, 1, 1, 1, 1, 1, 1, 1]]
abbrev tkept_l3_st : Sta := ⟨[7, 8, 9, 10, 11, 15, 17, 20, 21, 22, 23, 24, 86, 115, 116, 117], ⟨[.own 0 0, .own 1 0, .i .i64, .sl (.int .i64), .i .i64, .sl (.int .i64), .ols 2, .b, .i .i64, .i .i64, .i .i64, .b, .i .i64, .ols 2, .i .i64, .i .i64], [.segs [.sl (.pair (.int .i64) (.pair (.int .i64) .bool)), .sl (.pair (.int .i64) (.pair (.int .i64) (.int .i64))), .i .i64], .segs [.sl (.int .u8), .i .i64, .i .u32], .lst (.int .i64)]⟩⟩
abbrev tkept_l3_h (rec : Int → (List Int) → Int → (List Int) → Bool → Int → Int → Int → Bool → Int → Int → Int → (List (Int × (Int × Bool))) → (List (Int × (Int × Int))) → Int → (List Int) → Int → Int → (List Int) → Option (Int × List Int × Int × List Int × Bool × Int × Int × Int × Bool × Int × (List (Int × (Int × Bool))) × (List (Int × (Int × Int))) × Int × List Int × Int × Int × List Int)) : Leaf (Int × List Int × Int × List Int × Bool × Int × Int × Int × Bool × Int × (List (Int × (Int × Bool))) × (List (Int × (Int × Int))) × Int × List Int × Int × Int × List Int) := ⟨tkept_l3_at, tkept_l3_st, fun p => rec p.1.2.2.1 p.1.2.2.2.1 p.1.2.2.2.2.1 p.1.2.2.2.2.2.1 p.1.2.2.2.2.2.2.2.1 p.1.2.2.2.2.2.2.2.2.1 p.1.2.2.2.2.2.2.2.2.2.1 p.1.2.2.2.2.2.2.2.2.2.2.1 p.1.2.2.2.2.2.2.2.2.2.2.2.1 p.1.2.2.2.2.2.2.2.2.2.2.2.2.1 p.1.2.2.2.2.2.2.2.2.2.2.2.2.2.2.1 p.1.2.2.2.2.2.2.2.2.2.2.2.2.2.2.2.1 p.2.1.1 p.2.1.2.1 p.2.1.2.2.1 p.2.2.1.1 p.2.2.1.2.1 p.2.2.1.2.2.1 p.2.2.2.1⟩
abbrev tkept_l3_e0 : Leaf (Int × List Int × Int × List Int × Bool × Int × Int × Int × Bool × Int × (List (Int × (Int × Bool))) × (List (Int × (Int × Int))) × Int × List Int × Int × Int × List Int) := ⟨[.c [1, 1, 1, 1, 1, 1, 1, 1, 0, 1, 0, 0, 1, 1, 0, 0, 1, 1, 1, 1, 1, 1, 1, 0, 0], .c [1, 1, 1, 1, 1, 1, 1, 1, 0, 1, 0, 0, 1, 1, 0, 0, 1, 1, 1, 1, 1, 1, 1, 0, 1], .c [1, 1, 1, 1, 1, 1, 1, 1, 0, 1, 0, 0, 1, 1, 0, 0, 1, 1, 1, 1, 1, 1, 1, 1], .b 1, .c [1, 1, 1, 1, 1, 1, 1, 1, 0, 1, 0, 0, 1, 1, 1], .l [1, 1, 1, 1, 1, 1, 1, 1, 0, 1, 0, 0], .b 0, .c [1, 1, 1, 1, 1, 1, 1, 1, 1]], ⟨[7, 8, 9, 10, 11, 15, 17, 20, 21, 22, 23, 24, 86], ⟨[.own 0 0, .own 1 0, .i .i64, .sl (.int .i64), .i .i64, .sl (.int .i64), .ols 2, .b, .i .i64, .i .i64, .i .i64, .b, .i .i64], [.segs [.sl (.pair (.int .i64) (.pair (.int .i64) .bool)), .sl (.pair (.int .i64) (.pair (.int .i64) (.int .i64))), .i .i64], .segs [.sl (.int .u8), .i .i64, .i .u32], .lst (.int .i64)]⟩⟩, fun p => some ((p.1.2.2.1, p.1.2.2.2.1, p.1.2.2.2.2.1, p.1.2.2.2.2.2.1, p.1.2.2.2.2.2.2.2.1, p.1.2.2.2.2.2.2.2.2.1, p.1.2.2.2.2.2.2.2.2.2.1, p.1.2.2.2.2.2.2.2.2.2.2.1, p.1.2.2.2.2.2.2.2.2.2.2.2.1, p.1.2.2.2.2.2.2.2.2.2.2.2.2.1, p.2.1.1, p.2.1.2.1, p.2.1.2.2.1, p.2.2.1.1, p.2.2.1.2.1, p.2.2.1.2.2.1, p.2.2.2.1))⟩
noncomputable def tkept_l3_L (N : Nat) : LoopS := { at_ := tkept_l3_at, sta := tkept_l3_st, exits := [([.c [1, 1, 1, 1, 1, 1, 1, 1, 0, 1, 0, 0, 1, 1, 0, 0, 1, 1, 1, 1, 1, 1, 1, 0, 0], .c [1, 1, 1, 1, 1, 1, 1, 1, 0, 1, 0, 0, 1, 1, 0, 0, 1, 1, 1, 1, 1, 1, 1, 0, 1], .c [1, 1, 1, 1, 1, 1, 1, 1, 0, 1, 0, 0, 1, 1, 0, 0, 1, 1, 1, 1, 1, 1, 1, 1], .b 1, .c [1, 1, 1, 1, 1, 1, 1, 1, 0, 1, 0, 0, 1, 1, 1], .l [1, 1, 1, 1, 1, 1, 1, 1, 0, 1, 0, 0], .b 0, .c [1, 1, 1, 1, 1, 1, 1, 1, 1]], ⟨[7, 8, 9, 10, 11, 15, 17, 20, 21, 22, 23, 24, 86], ⟨[.own 0 0, .own 1 0, .i .i64, .sl (.int .i64), .i .i64, .sl (.int .i64), .ols 2, .b, .i .i64, .i .i64, .i .i64, .b, .i .i64], [.segs [.sl (.pair (.int .i64) (.pair (.int .i64) .bool)), .sl (.pair (.int .i64) (.pair (.int .i64) (.int .i64))), .i .i64], .segs [.sl (.int .u8), .i .i64, .i .u32], .lst (.int .i64)]⟩⟩)], run := fun p k => (tkept_l3 N N p.1.2.2.1 p.1.2.2.2.1 p.1.2.2.2.2.1 p.1.2.2.2.2.2.1 p.1.2.2.2.2.2.2.2.1 p.1.2.2.2.2.2.2.2.2.1 p.1.2.2.2.2.2.2.2.2.2.1 p.1.2.2.2.2.2.2.2.2.2.2.1 p.1.2.2.2.2.2.2.2.2.2.2.2.1 p.1.2.2.2.2.2.2.2.2.2.2.2.2.1 p.1.2.2.2.2.2.2.2.2.2.2.2.2.2.2.1 p.1.2.2.2.2.2.2.2.2.2.2.2.2.2.2.2.1 p.2.1.1 p.2.1.2.1 p.2.1.2.2.1 p.2.2.1.1 p.2.2.1.2.1 p.2.2.1.2.2.1 p.2.2.2.1).bind fun e => k (.inl (((), (), e.1, e.2.1, e.2.2.1, e.2.2.2.1, (), e.2.2.2.2.1, e.2.2.2.2.2.1, e.2.2.2.2.2.2.1, e.2.2.2.2.2.2.2.1, e.2.2.2.2.2.2.2.2.1, e.2.2.2.2.2.2.2.2.2.1, ()), ((e.2.2.2.2.2.2.2.2.2.2.1, e.2.2.2.2.2.2.2.2.2.2.2.1, e.2.2.2.2.2.2.2.2.2.2.2.2.1, ()), (e.2.2.2.2.2.2.2.2.2.2.2.2.2.1, e.2.2.2.2.2.2.2.2.2.2.2.2.2.2.1, e.2.2.2.2.2.2.2.2.2.2.2.2.2.2.2.1, ()), e.2.2.2.2.2.2.2.2.2.2.2.2.2.2.2.2, ()))) }
theorem tkept_l3_eq (N n_ : Nat) (weight : Int) (least : List Int) (e : Int) (spare : List Int) (is : Bool) (n : Int) (f : Int) (sum : Int) (keeps : Bool) (u : Int) (u2 : Int) (u3 : Int) (t : List (Int × (Int × Bool))) (t2 : List (Int × (Int × Int))) (t3 : Int) (q : List Int) (q2 : Int) (q3 : Int) (l : List Int) : ev (Z := Int × List Int × Int × List Int × Bool × Int × Int × Int × Bool × Int × (List (Int × (Int × Bool))) × (List (Int × (Int × Int))) × Int × List Int × Int × Int × List Int) Try.prog (tkept_sp N) tkept_B [tkept_l2_L N] [tkept_l3_h (tkept_l3 N n_), tkept_l3_e0] none 400 true tkept_l3_at (stL tkept_l3_st (((), (), weight, least, e, spare, (), is, n, f, sum, keeps, u, (), u2, u3, ()), ((t, t2, t3, ()), (q, q2, q3, ()), l, ()))) (stH tkept_l3_st (((), (), weight, least, e, spare, (), is, n, f, sum, keeps, u, (), u2, u3, ()), ((t, t2, t3, ()), (q, q2, q3, ()), l, ()))) = tkept_l3 N (n_ + 1) weight least e spare is n f sum keeps u u2 u3 t t2 t3 q q2 q3 l := by kernel_rfl
theorem tkept_l3_ok (N : Nat) {top : Bool} : LoopOK Try.prog tkept_B.c tkept_B.n tkept_B.m0 top (tkept_l3_L N) := loop_of_ev (Z := Int × List Int × Int × List Int × Bool × Int × Int × Int × Bool × Int × (List (Int × (Int × Bool))) × (List (Int × (Int × Int))) × Int × List Int × Int × Int × List Int) (N := N) (fun m p => tkept_l3 N m p.1.2.2.1 p.1.2.2.2.1 p.1.2.2.2.2.1 p.1.2.2.2.2.2.1 p.1.2.2.2.2.2.2.2.1 p.1.2.2.2.2.2.2.2.2.1 p.1.2.2.2.2.2.2.2.2.2.1 p.1.2.2.2.2.2.2.2.2.2.2.1 p.1.2.2.2.2.2.2.2.2.2.2.2.1 p.1.2.2.2.2.2.2.2.2.2.2.2.2.1 p.1.2.2.2.2.2.2.2.2.2.2.2.2.2.2.1 p.1.2.2.2.2.2.2.2.2.2.2.2.2.2.2.2.1 p.2.1.1 p.2.1.2.1 p.2.1.2.2.1 p.2.2.1.1 p.2.2.1.2.1 p.2.2.1.2.2.1 p.2.2.2.1) (fun e => .inl (((), (), e.1, e.2.1, e.2.2.1, e.2.2.2.1, (), e.2.2.2.2.1, e.2.2.2.2.2.1, e.2.2.2.2.2.2.1, e.2.2.2.2.2.2.2.1, e.2.2.2.2.2.2.2.2.1, e.2.2.2.2.2.2.2.2.2.1, ()), ((e.2.2.2.2.2.2.2.2.2.2.1, e.2.2.2.2.2.2.2.2.2.2.2.1, e.2.2.2.2.2.2.2.2.2.2.2.2.1, ()), (e.2.2.2.2.2.2.2.2.2.2.2.2.2.1, e.2.2.2.2.2.2.2.2.2.2.2.2.2.2.1, e.2.2.2.2.2.2.2.2.2.2.2.2.2.2.2.1, ()), e.2.2.2.2.2.2.2.2.2.2.2.2.2.2.2.2, ()))) (fun _ _ _ => rfl) (fun _ => rfl) (fun m z E Xc hE hX hrec hx => leaf_of_ev (B := tkept_B) (loops := [tkept_l2_L N]) (leaves := [tkept_l3_h (tkept_l3 N m), tkept_l3_e0]) (tkept_all N) mixed ⟨tkept_l2_ok N, trivial⟩ hE hX ⟨hrec, (fun p hp => by obtain rfl := Option.some.inj hp; exact hx), trivial⟩ RetOK.no (fun p => tkept_l3_eq N m p.1.2.2.1 p.1.2.2.2.1 p.1.2.2.2.2.1 p.1.2.2.2.2.2.1 p.1.2.2.2.2.2.2.2.1 p.1.2.2.2.2.2.2.2.2.1 p.1.2.2.2.2.2.2.2.2.2.1 p.1.2.2.2.2.2.2.2.2.2.2.1 p.1.2.2.2.2.2.2.2.2.2.2.2.1 p.1.2.2.2.2.2.2.2.2.2.2.2.2.1 p.1.2.2.2.2.2.2.2.2.2.2.2.2.2.2.1 p.1.2.2.2.2.2.2.2.2.2.2.2.2.2.2.2.1 p.2.1.1 p.2.1.2.1 p.2.1.2.2.1 p.2.2.1.1 p.2.2.1.2.1 p.2.2.1.2.2.1 p.2.2.2.1))
abbrev tkept_l5_at : List PI := [.c [1, 1, 1, 1, 1, 1, 1, 1, 0, 1, 0, 0, 1, 1, 0, 0, 1, 1, 1, 1, 1, 1, 1, 0, 1, 0, 0, 1, 1, 0, 0, 1, 1, 0, 1, 0, 0, 0, 0], .c [1, 1, 1, 1, 1, 1, 1, 1, 0, 1, 0, 0, 1, 1, 0, 0, 1, 1, 1, 1, 1, 1, 1, 0, 1, 0, 0, 1, 1, 0, 0, 1, 1, 0, 1, 0, 0, 0, 1], .c [1, 1, 1, 1, 1, 1, 1, 1, 0, 1, 0, 0, 1, 1, 0, 0, 1, 1, 1, 1, 1, 1, 1, 0, 1, 0, 0, 1, 1, 0, 0, 1, 1, 0, 1, 0, 0, 1], .l [1, 1, 1, 1, 1, 1, 1, 1, 0, 1, 0, 0, 1, 1, 0, 0, 1, 1, 1, 1, 1, 1, 1, 0, 1, 0, 0, 1, 1, 0, 0, 1, 1, 0, 1, 0, 0], .b 8, .c [1, 1, 1, 1, 1, 1, 1, 1, 0, 1, 0, 0, 1, 1, 0, 0, 1, 1, 1, 1, 1, 1, 1, 0, 1, 0, 0, 1, 1, 0, 0, 1, 1, 1], .b 7, .c [1, 1, 1, 1, 1, 1, 1, 1, 0, 1, 0, 0, 1, 1, 0, 0, 1, 1, 1, 1, 1, 1, 1, 0, 1, 0, 0, 1, 1, 1], .l [1, 1, 1, 1, 1, 1, 1, 1, 0, 1, 0, 0, 1, 1, 0, 0, 1, 1, 1, 1, 1, 1, 1, 0, 1, 0, 0], .b 6, .c [1, 1, 1, 1, 1, 1, 1, 1, 0, 1, 0, 0, 1, 1, 0, 0, 1, 1, 1, 1, 1, 1, 1, 1], .b 1, .c [1, 1, 1, 1, 1, 1, 1, 1, 0, 1, 0, 0, 1, 1, 1], .l [1, 1, 1, 1, 1, 1, 1, 1, 0, 1, 0, 0], .b 0, .c [1, 1, 1, 1, 1, 1, 1, 1, 1]]
abbrev tkept_l5_st : Sta := ⟨[7, 8, 9, 10, 11, 15, 17, 20, 21, 22, 23, 24, 28, 29, 30, 86, 131, 132, 133], ⟨[.own 0 0, .own 1 0, .i .i64, .sl (.int .i64), .i .i64, .sl (.int .i64), .ols 2, .b, .i .i64, .i .i64, .i .i64, .b, .own 3 0, .b, .i .i64, .i .i64, .sl (.pair (.int .i64) (.pair (.int .i64) (.int .i64))), .i .i64, .i .i64], [.segs [.sl (.pair (.int .i64) (.pair (.int .i64) .bool)), .sl (.pair (.int .i64) (.pair (.int .i64) (.int .i64))), .i .i64], .segs [.sl (.int .u8), .i .i64, .i .u32], .lst (.int .i64), .segs [.i .i64, .i .i64, .i .i64]]⟩⟩
abbrev tkept_l5_h (rec : Int → (List Int) → Int → (List Int) → Bool → Int → Int → Int → Bool → Bool → Int → Int → (List (Int × (Int × Int))) → Int → Int → (List (Int × (Int × Bool))) → (List (Int × (Int × Int))) → Int → (List Int) → Int → Int → (List Int) → Int → Int → Int → Option (Int × List Int × Int × List Int × Bool × Int × Int × Int × Bool × Bool × Int × (List (Int × (Int × Int))) × Int × Int × (List (Int × (Int × Bool))) × (List (Int × (Int × Int))) × Int × List Int × Int × Int × List Int × Int × Int × Int)) : Leaf (Int × List Int × Int × List Int × Bool × Int × Int × Int × Bool × Bool × Int × (List (Int × (Int × Int))) × Int × Int × (List (Int × (Int × Bool))) × (List (Int × (Int × Int))) × Int × List Int × Int × Int × List Int × Int × Int × Int) := ⟨tkept_l5_at, tkept_l5_st, fun p => rec p.1.2.2.1 p.1.2.2.2.1 p.1.2.2.2.2.1 p.1.2.2.2.2.2.1 p.1.2.2.2.2.2.2.2.1 p.1.2.2.2.2.2.2.2.2.1 p.1.2.2.2.2.2.2.2.2.2.1 p.1.2.2.2.2.2.2.2.2.2.2.1 p.1.2.2.2.2.2.2.2.2.2.2.2.1 p.1.2.2.2.2.2.2.2.2.2.2.2.2.2.1 p.1.2.2.2.2.2.2.2.2.2.2.2.2.2.2.1 p.1.2.2.2.2.2.2.2.2.2.2.2.2.2.2.2.1 p.1.2.2.2.2.2.2.2.2.2.2.2.2.2.2.2.2.1 p.1.2.2.2.2.2.2.2.2.2.2.2.2.2.2.2.2.2.1 p.1.2.2.2.2.2.2.2.2.2.2.2.2.2.2.2.2.2.2.1 p.2.1.1 p.2.1.2.1 p.2.1.2.2.1 p.2.2.1.1 p.2.2.1.2.1 p.2.2.1.2.2.1 p.2.2.2.1 p.2.2.2.2.1.1 p.2.2.2.2.1.2.1 p.2.2.2.2.1.2.2.1⟩
abbrev tkept_l5_e0 : Leaf (Int × List Int × Int × List Int × Bool × Int × Int × Int × Bool × Bool × Int × (List (Int × (Int × Int))) × Int × Int × (List (Int × (Int × Bool))) × (List (Int × (Int × Int))) × Int × List Int × Int × Int × List Int × Int × Int × Int) := ⟨[.c [1, 1, 1, 1, 1, 1, 1, 1, 0, 1, 0, 0, 1, 1, 0, 0, 1, 1, 1, 1, 1, 1, 1, 0, 1, 0, 0, 1, 1, 0, 0, 1, 1, 1], .b 7, .c [1, 1, 1, 1, 1, 1, 1, 1, 0, 1, 0, 0, 1, 1, 0, 0, 1, 1, 1, 1, 1, 1, 1, 0, 1, 0, 0, 1, 1, 1], .l [1, 1, 1, 1, 1, 1, 1, 1, 0, 1, 0, 0, 1, 1, 0, 0, 1, 1, 1, 1, 1, 1, 1, 0, 1, 0, 0], .b 6, .c [1, 1, 1, 1, 1, 1, 1, 1, 0, 1, 0, 0, 1, 1, 0, 0, 1, 1, 1, 1, 1, 1, 1, 1], .b 1, .c [1, 1, 1, 1, 1, 1, 1, 1, 0, 1, 0, 0, 1, 1, 1], .l [1, 1, 1, 1, 1, 1, 1, 1, 0, 1, 0, 0], .b 0, .c [1, 1, 1, 1, 1, 1, 1, 1, 1]], ⟨[7, 8, 9, 10, 11, 15, 17, 20, 21, 22, 23, 24, 28, 29, 86, 131, 132, 133], ⟨[.own 0 0, .own 1 0, .i .i64, .sl (.int .i64), .i .i64, .sl (.int .i64), .ols 2, .b, .i .i64, .i .i64, .i .i64, .b, .own 3 0, .b, .i .i64, .sl (.pair (.int .i64) (.pair (.int .i64) (.int .i64))), .i .i64, .i .i64], [.segs [.sl (.pair (.int .i64) (.pair (.int .i64) .bool)), .sl (.pair (.int .i64) (.pair (.int .i64) (.int .i64))), .i .i64], .segs [.sl (.int .u8), .i .i64, .i .u32], .lst (.int .i64), .segs [.i .i64, .i .i64, .i .i64]]⟩⟩, fun p => some ((p.1.2.2.1, p.1.2.2.2.1, p.1.2.2.2.2.1, p.1.2.2.2.2.2.1, p.1.2.2.2.2.2.2.2.1, p.1.2.2.2.2.2.2.2.2.1, p.1.2.2.2.2.2.2.2.2.2.1, p.1.2.2.2.2.2.2.2.2.2.2.1, p.1.2.2.2.2.2.2.2.2.2.2.2.1, p.1.2.2.2.2.2.2.2.2.2.2.2.2.2.1, p.1.2.2.2.2.2.2.2.2.2.2.2.2.2.2.1, p.1.2.2.2.2.2.2.2.2.2.2.2.2.2.2.2.1, p.1.2.2.2.2.2.2.2.2.2.2.2.2.2.2.2.2.1, p.1.2.2.2.2.2.2.2.2.2.2.2.2.2.2.2.2.2.1, p.2.1.1, p.2.1.2.1, p.2.1.2.2.1, p.2.2.1.1, p.2.2.1.2.1, p.2.2.1.2.2.1, p.2.2.2.1, p.2.2.2.2.1.1, p.2.2.2.2.1.2.1, p.2.2.2.2.1.2.2.1))⟩
noncomputable def tkept_l5_L (N : Nat) : LoopS := { at_ := tkept_l5_at, sta := tkept_l5_st, exits := [([.c [1, 1, 1, 1, 1, 1, 1, 1, 0, 1, 0, 0, 1, 1, 0, 0, 1, 1, 1, 1, 1, 1, 1, 0, 1, 0, 0, 1, 1, 0, 0, 1, 1, 1], .b 7, .c [1, 1, 1, 1, 1, 1, 1, 1, 0, 1, 0, 0, 1, 1, 0, 0, 1, 1, 1, 1, 1, 1, 1, 0, 1, 0, 0, 1, 1, 1], .l [1, 1, 1, 1, 1, 1, 1, 1, 0, 1, 0, 0, 1, 1, 0, 0, 1, 1, 1, 1, 1, 1, 1, 0, 1, 0, 0], .b 6, .c [1, 1, 1, 1, 1, 1, 1, 1, 0, 1, 0, 0, 1, 1, 0, 0, 1, 1, 1, 1, 1, 1, 1, 1], .b 1, .c [1, 1, 1, 1, 1, 1, 1, 1, 0, 1, 0, 0, 1, 1, 1], .l [1, 1, 1, 1, 1, 1, 1, 1, 0, 1, 0, 0], .b 0, .c [1, 1, 1, 1, 1, 1, 1, 1, 1]], ⟨[7, 8, 9, 10, 11, 15, 17, 20, 21, 22, 23, 24, 28, 29, 86, 131, 132, 133], ⟨[.own 0 0, .own 1 0, .i .i64, .sl (.int .i64), .i .i64, .sl (.int .i64), .ols 2, .b, .i .i64, .i .i64, .i .i64, .b, .own 3 0, .b, .i .i64, .sl (.pair (.int .i64) (.pair (.int .i64) (.int .i64))), .i .i64, .i .i64], [.segs [.sl (.pair (.int .i64) (.pair (.int .i64) .bool)), .sl (.pair (.int .i64) (.pair (.int .i64) (.int .i64))), .i .i64], .segs [.sl (.int .u8), .i .i64, .i .u32], .lst (.int .i64), .segs [.i .i64, .i .i64, .i .i64]]⟩⟩)], run := fun p k => (tkept_l5 N N p.1.2.2.1 p.1.2.2.2.1 p.1.2.2.2.2.1 p.1.2.2.2.2.2.1 p.1.2.2.2.2.2.2.2.1 p.1.2.2.2.2.2.2.2.2.1 p.1.2.2.2.2.2.2.2.2.2.1 p.1.2.2.2.2.2.2.2.2.2.2.1 p.1.2.2.2.2.2.2.2.2.2.2.2.1 p.1.2.2.2.2.2.2.2.2.2.2.2.2.2.1 p.1.2.2.2.2.2.2.2.2.2.2.2.2.2.2.1 p.1.2.2.2.2.2.2.2.2.2.2.2.2.2.2.2.1 p.1.2.2.2.2.2.2.2.2.2.2.2.2.2.2.2.2.1 p.1.2.2.2.2.2.2.2.2.2.2.2.2.2.2.2.2.2.1 p.1.2.2.2.2.2.2.2.2.2.2.2.2.2.2.2.2.2.2.1 p.2.1.1 p.2.1.2.1 p.2.1.2.2.1 p.2.2.1.1 p.2.2.1.2.1 p.2.2.1.2.2.1 p.2.2.2.1 p.2.2.2.2.1.1 p.2.2.2.2.1.2.1 p.2.2.2.2.1.2.2.1).bind fun e => k (.inl (((), (), e.1, e.2.1, e.2.2.1, e.2.2.2.1, (), e.2.2.2.2.1, e.2.2.2.2.2.1, e.2.2.2.2.2.2.1, e.2.2.2.2.2.2.2.1, e.2.2.2.2.2.2.2.2.1, (), e.2.2.2.2.2.2.2.2.2.1, e.2.2.2.2.2.2.2.2.2.2.1, e.2.2.2.2.2.2.2.2.2.2.2.1, e.2.2.2.2.2.2.2.2.2.2.2.2.1, e.2.2.2.2.2.2.2.2.2.2.2.2.2.1, ()), ((e.2.2.2.2.2.2.2.2.2.2.2.2.2.2.1, e.2.2.2.2.2.2.2.2.2.2.2.2.2.2.2.1, e.2.2.2.2.2.2.2.2.2.2.2.2.2.2.2.2.1, ()), (e.2.2.2.2.2.2.2.2.2.2.2.2.2.2.2.2.2.1, e.2.2.2.2.2.2.2.2.2.2.2.2.2.2.2.2.2.2.1, e.2.2.2.2.2.2.2.2.2.2.2.2.2.2.2.2.2.2.2.1, ()), e.2.2.2.2.2.2.2.2.2.2.2.2.2.2.2.2.2.2.2.2.1, (e.2.2.2.2.2.2.2.2.2.2.2.2.2.2.2.2.2.2.2.2.2.1, e.2.2.2.2.2.2.2.2.2.2.2.2.2.2.2.2.2.2.2.2.2.2.1, e.2.2.2.2.2.2.2.2.2.2.2.2.2.2.2.2.2.2.2.2.2.2.2, ()), ()))) }
theorem tkept_l5_eq (N n_ : Nat) (weight : Int) (least : List Int) (e : Int) (spare : List Int) (is : Bool) (n : Int) (f : Int) (sum : Int) (keeps : Bool) (all : Bool) (w : Int) (u : Int) (u2 : List (Int × (Int × Int))) (u3 : Int) (u4 : Int) (t : List (Int × (Int × Bool))) (t2 : List (Int × (Int × Int))) (t3 : Int) (q : List Int) (q2 : Int) (q3 : Int) (l : List Int) (x : Int) (x2 : Int) (x3 : Int) : ev (Z := Int × List Int × Int × List Int × Bool × Int × Int × Int × Bool × Bool × Int × (List (Int × (Int × Int))) × Int × Int × (List (Int × (Int × Bool))) × (List (Int × (Int × Int))) × Int × List Int × Int × Int × List Int × Int × Int × Int) Try.prog (tkept_sp N) tkept_B [tkept_l2_L N, tkept_l3_L N] [tkept_l5_h (tkept_l5 N n_), tkept_l5_e0] none 400 true tkept_l5_at (stL tkept_l5_st (((), (), weight, least, e, spare, (), is, n, f, sum, keeps, (), all, w, u, u2, u3, u4, ()), ((t, t2, t3, ()), (q, q2, q3, ()), l, (x, x2, x3, ()), ()))) (stH tkept_l5_st (((), (), weight, least, e, spare, (), is, n, f, sum, keeps, (), all, w, u, u2, u3, u4, ()), ((t, t2, t3, ()), (q, q2, q3, ()), l, (x, x2, x3, ()), ()))) = tkept_l5 N (n_ + 1) weight least e spare is n f sum keeps all w u u2 u3 u4 t t2 t3 q q2 q3 l x x2 x3 := by kernel_rfl
theorem tkept_l5_ok (N : Nat) {top : Bool} : LoopOK Try.prog tkept_B.c tkept_B.n tkept_B.m0 top (tkept_l5_L N) := loop_of_ev (Z := Int × List Int × Int × List Int × Bool × Int × Int × Int × Bool × Bool × Int × (List (Int × (Int × Int))) × Int × Int × (List (Int × (Int × Bool))) × (List (Int × (Int × Int))) × Int × List Int × Int × Int × List Int × Int × Int × Int) (N := N) (fun m p => tkept_l5 N m p.1.2.2.1 p.1.2.2.2.1 p.1.2.2.2.2.1 p.1.2.2.2.2.2.1 p.1.2.2.2.2.2.2.2.1 p.1.2.2.2.2.2.2.2.2.1 p.1.2.2.2.2.2.2.2.2.2.1 p.1.2.2.2.2.2.2.2.2.2.2.1 p.1.2.2.2.2.2.2.2.2.2.2.2.1 p.1.2.2.2.2.2.2.2.2.2.2.2.2.2.1 p.1.2.2.2.2.2.2.2.2.2.2.2.2.2.2.1 p.1.2.2.2.2.2.2.2.2.2.2.2.2.2.2.2.1 p.1.2.2.2.2.2.2.2.2.2.2.2.2.2.2.2.2.1 p.1.2.2.2.2.2.2.2.2.2.2.2.2.2.2.2.2.2.1 p.1.2.2.2.2.2.2.2.2.2.2.2.2.2.2.2.2.2.2.1 p.2.1.1 p.2.1.2.1 p.2.1.2.2.1 p.2.2.1.1 p.2.2.1.2.1 p.2.2.1.2.2.1 p.2.2.2.1 p.2.2.2.2.1.1 p.2.2.2.2.1.2.1 p.2.2.2.2.1.2.2.1) (fun e => .inl (((), (), e.1, e.2.1, e.2.2.1, e.2.2.2.1, (), e.2.2.2.2.1, e.2.2.2.2.2.1, e.2.2.2.2.2.2.1, e.2.2.2.2.2.2.2.1, e.2.2.2.2.2.2.2.2.1, (), e.2.2.2.2.2.2.2.2.2.1, e.2.2.2.2.2.2.2.2.2.2.1, e.2.2.2.2.2.2.2.2.2.2.2.1, e.2.2.2.2.2.2.2.2.2.2.2.2.1, e.2.2.2.2.2.2.2.2.2.2.2.2.2.1, ()), ((e.2.2.2.2.2.2.2.2.2.2.2.2.2.2.1, e.2.2.2.2.2.2.2.2.2.2.2.2.2.2.2.1, e.2.2.2.2.2.2.2.2.2.2.2.2.2.2.2.2.1, ()), (e.2.2.2.2.2.2.2.2.2.2.2.2.2.2.2.2.2.1, e.2.2.2.2.2.2.2.2.2.2.2.2.2.2.2.2.2.2.1, e.2.2.2.2.2.2.2.2.2.2.2.2.2.2.2.2.2.2.2.1, ()), e.2.2.2.2.2.2.2.2.2.2.2.2.2.2.2.2.2.2.2.2.1, (e.2.2.2.2.2.2.2.2.2.2.2.2.2.2.2.2.2.2.2.2.2.1, e.2.2.2.2.2.2.2.2.2.2.2.2.2.2.2.2.2.2.2.2.2.2.1, e.2.2.2.2.2.2.2.2.2.2.2.2.2.2.2.2.2.2.2.2.2.2.2, ()), ()))) (fun _ _ _ => rfl) (fun _ => rfl) (fun m z E Xc hE hX hrec hx => leaf_of_ev (B := tkept_B) (loops := [tkept_l2_L N, tkept_l3_L N]) (leaves := [tkept_l5_h (tkept_l5 N m), tkept_l5_e0]) (tkept_all N) mixed ⟨tkept_l2_ok N, tkept_l3_ok N, trivial⟩ hE hX ⟨hrec, (fun p hp => by obtain rfl := Option.some.inj hp; exact hx), trivial⟩ RetOK.no (fun p => tkept_l5_eq N m p.1.2.2.1 p.1.2.2.2.1 p.1.2.2.2.2.1 p.1.2.2.2.2.2.1 p.1.2.2.2.2.2.2.2.1 p.1.2.2.2.2.2.2.2.2.1 p.1.2.2.2.2.2.2.2.2.2.1 p.1.2.2.2.2.2.2.2.2.2.2.1 p.1.2.2.2.2.2.2.2.2.2.2.2.1 p.1.2.2.2.2.2.2.2.2.2.2.2.2.2.1 p.1.2.2.2.2.2.2.2.2.2.2.2.2.2.2.1 p.1.2.2.2.2.2.2.2.2.2.2.2.2.2.2.2.1 p.1.2.2.2.2.2.2.2.2.2.2.2.2.2.2.2.2.1 p.1.2.2.2.2.2.2.2.2.2.2.2.2.2.2.2.2.2.1 p.1.2.2.2.2.2.2.2.2.2.2.2.2.2.2.2.2.2.2.1 p.2.1.1 p.2.1.2.1 p.2.1.2.2.1 p.2.2.1.1 p.2.2.1.2.1 p.2.2.1.2.2.1 p.2.2.2.1 p.2.2.2.2.1.1 p.2.2.2.2.1.2.1 p.2.2.2.2.1.2.2.1))
abbrev tkept_l4_at : List PI := [.c [1, 1, 1, 1, 1, 1, 1, 1, 0, 1, 0, 0, 1, 1, 0, 0, 1, 1, 1, 1, 1, 1, 1, 0, 1, 0, 0, 0], .c [1, 1, 1, 1, 1, 1, 1, 1, 0, 1, 0, 0, 1, 1, 0, 0, 1, 1, 1, 1, 1, 1, 1, 0, 1, 0, 0, 1], .l [1, 1, 1, 1, 1, 1, 1, 1, 0, 1, 0, 0, 1, 1, 0, 0, 1, 1, 1, 1, 1, 1, 1, 0, 1, 0, 0], .b 6, .c [1, 1, 1, 1, 1, 1, 1, 1, 0, 1, 0, 0, 1, 1, 0, 0, 1, 1, 1, 1, 1, 1, 1, 1], .b 1, .c [1, 1, 1, 1, 1, 1, 1, 1, 0, 1, 0, 0, 1, 1, 1], .l [1, 1, 1, 1, 1, 1, 1, 1, 0, 1, 0, 0], .b 0, .c [1, 1, 1, 1, 1, 1, 1, 1, 1]]
abbrev tkept_l4_st : Sta := ⟨[7, 8, 9, 10, 11, 15, 17, 20, 21, 22, 23, 24, 86, 131, 132, 133], ⟨[.own 0 0, .own 1 0, .i .i64, .sl (.int .i64), .i .i64, .sl (.int .i64), .ols 2, .b, .i .i64, .i .i64, .i .i64, .b, .i .i64, .sl (.pair (.int .i64) (.pair (.int .i64) (.int .i64))), .i .i64, .i .i64], [.segs [.sl (.pair (.int .i64) (.pair (.int .i64) .bool)), .sl (.pair (.int .i64) (.pair (.int .i64) (.int .i64))), .i .i64], .segs [.sl (.int .u8), .i .i64, .i .u32], .lst (.int .i64)]⟩⟩
abbrev tkept_l4_h (rec : Int → (List Int) → Int → (List Int) → Bool → Int → Int → Int → Bool → Int → (List (Int × (Int × Int))) → Int → Int → (List (Int × (Int × Bool))) → (List (Int × (Int × Int))) → Int → (List Int) → Int → Int → (List Int) → Option (Int × List Int × Int × List Int × Bool × Int × Int × Int × Bool × Int × (List (Int × (Int × Bool))) × (List (Int × (Int × Int))) × Int × List Int × Int × Int × List Int)) : Leaf (Int × List Int × Int × List Int × Bool × Int × Int × Int × Bool × Int × (List (Int × (Int × Bool))) × (List (Int × (Int × Int))) × Int × List Int × Int × Int × List Int) := ⟨tkept_l4_at, tkept_l4_st, fun p => rec p.1.2.2.1 p.1.2.2.2.1 p.1.2.2.2.2.1 p.1.2.2.2.2.2.1 p.1.2.2.2.2.2.2.2.1 p.1.2.2.2.2.2.2.2.2.1 p.1.2.2.2.2.2.2.2.2.2.1 p.1.2.2.2.2.2.2.2.2.2.2.1 p.1.2.2.2.2.2.2.2.2.2.2.2.1 p.1.2.2.2.2.2.2.2.2.2.2.2.2.1 p.1.2.2.2.2.2.2.2.2.2.2.2.2.2.1 p.1.2.2.2.2.2.2.2.2.2.2.2.2.2.2.1 p.1.2.2.2.2.2.2.2.2.2.2.2.2.2.2.2.1 p.2.1.1 p.2.1.2.1 p.2.1.2.2.1 p.2.2.1.1 p.2.2.1.2.1 p.2.2.1.2.2.1 p.2.2.2.1⟩
abbrev tkept_l4_e0 : Leaf (Int × List Int × Int × List Int × Bool × Int × Int × Int × Bool × Int × (List (Int × (Int × Bool))) × (List (Int × (Int × Int))) × Int × List Int × Int × Int × List Int) := ⟨[.c [1, 1, 1, 1, 1, 1, 1, 1, 0, 1, 0, 0, 1, 1, 0, 0, 1, 1, 1, 1, 1, 1, 1, 1, 0, 0], .c [1, 1, 1, 1, 1, 1, 1, 1, 0, 1, 0, 0, 1, 1, 0, 0, 1, 1, 1, 1, 1, 1, 1, 1, 0, 1], .c [1, 1, 1, 1, 1, 1, 1, 1, 0, 1, 0, 0, 1, 1, 0, 0, 1, 1, 1, 1, 1, 1, 1, 1, 1], .b 1, .c [1, 1, 1, 1, 1, 1, 1, 1, 0, 1, 0, 0, 1, 1, 1], .l [1, 1, 1, 1, 1, 1, 1, 1, 0, 1, 0, 0], .b 0, .c [1, 1, 1, 1, 1, 1, 1, 1, 1]], ⟨[7, 8, 9, 10, 11, 15, 17, 20, 21, 22, 23, 24, 86], ⟨[.own 0 0, .own 1 0, .i .i64, .sl (.int .i64), .i .i64, .sl (.int .i64), .ols 2, .b, .i .i64, .i .i64, .i .i64, .b, .i .i64], [.segs [.sl (.pair (.int .i64) (.pair (.int .i64) .bool)), .sl (.pair (.int .i64) (.pair (.int .i64) (.int .i64))), .i .i64], .segs [.sl (.int .u8), .i .i64, .i .u32], .lst (.int .i64)]⟩⟩, fun p => some ((p.1.2.2.1, p.1.2.2.2.1, p.1.2.2.2.2.1, p.1.2.2.2.2.2.1, p.1.2.2.2.2.2.2.2.1, p.1.2.2.2.2.2.2.2.2.1, p.1.2.2.2.2.2.2.2.2.2.1, p.1.2.2.2.2.2.2.2.2.2.2.1, p.1.2.2.2.2.2.2.2.2.2.2.2.1, p.1.2.2.2.2.2.2.2.2.2.2.2.2.1, p.2.1.1, p.2.1.2.1, p.2.1.2.2.1, p.2.2.1.1, p.2.2.1.2.1, p.2.2.1.2.2.1, p.2.2.2.1))⟩
noncomputable def tkept_l4_L (N : Nat) : LoopS := { at_ := tkept_l4_at, sta := tkept_l4_st, exits := [([.c [1, 1, 1, 1, 1, 1, 1, 1, 0, 1, 0, 0, 1, 1, 0, 0, 1, 1, 1, 1, 1, 1, 1, 1, 0, 0], .c [1, 1, 1, 1, 1, 1, 1, 1, 0, 1, 0, 0, 1, 1, 0, 0, 1, 1, 1, 1, 1, 1, 1, 1, 0, 1], .c [1, 1, 1, 1, 1, 1, 1, 1, 0, 1, 0, 0, 1, 1, 0, 0, 1, 1, 1, 1, 1, 1, 1, 1, 1], .b 1, .c [1, 1, 1, 1, 1, 1, 1, 1, 0, 1, 0, 0, 1, 1, 1], .l [1, 1, 1, 1, 1, 1, 1, 1, 0, 1, 0, 0], .b 0, .c [1, 1, 1, 1, 1, 1, 1, 1, 1]], ⟨[7, 8, 9, 10, 11, 15, 17, 20, 21, 22, 23, 24, 86], ⟨[.own 0 0, .own 1 0, .i .i64, .sl (.int .i64), .i .i64, .sl (.int .i64), .ols 2, .b, .i .i64, .i .i64, .i .i64, .b, .i .i64], [.segs [.sl (.pair (.int .i64) (.pair (.int .i64) .bool)), .sl (.pair (.int .i64) (.pair (.int .i64) (.int .i64))), .i .i64], .segs [.sl (.int .u8), .i .i64, .i .u32], .lst (.int .i64)]⟩⟩)], run := fun p k => (tkept_l4 N N p.1.2.2.1 p.1.2.2.2.1 p.1.2.2.2.2.1 p.1.2.2.2.2.2.1 p.1.2.2.2.2.2.2.2.1 p.1.2.2.2.2.2.2.2.2.1 p.1.2.2.2.2.2.2.2.2.2.1 p.1.2.2.2.2.2.2.2.2.2.2.1 p.1.2.2.2.2.2.2.2.2.2.2.2.1 p.1.2.2.2.2.2.2.2.2.2.2.2.2.1 p.1.2.2.2.2.2.2.2.2.2.2.2.2.2.1 p.1.2.2.2.2.2.2.2.2.2.2.2.2.2.2.1 p.1.2.2.2.2.2.2.2.2.2.2.2.2.2.2.2.1 p.2.1.1 p.2.1.2.1 p.2.1.2.2.1 p.2.2.1.1 p.2.2.1.2.1 p.2.2.1.2.2.1 p.2.2.2.1).bind fun e => k (.inl (((), (), e.1, e.2.1, e.2.2.1, e.2.2.2.1, (), e.2.2.2.2.1, e.2.2.2.2.2.1, e.2.2.2.2.2.2.1, e.2.2.2.2.2.2.2.1, e.2.2.2.2.2.2.2.2.1, e.2.2.2.2.2.2.2.2.2.1, ()), ((e.2.2.2.2.2.2.2.2.2.2.1, e.2.2.2.2.2.2.2.2.2.2.2.1, e.2.2.2.2.2.2.2.2.2.2.2.2.1, ()), (e.2.2.2.2.2.2.2.2.2.2.2.2.2.1, e.2.2.2.2.2.2.2.2.2.2.2.2.2.2.1, e.2.2.2.2.2.2.2.2.2.2.2.2.2.2.2.1, ()), e.2.2.2.2.2.2.2.2.2.2.2.2.2.2.2.2, ()))) }
theorem tkept_l4_eq (N n_ : Nat) (weight : Int) (least : List Int) (e : Int) (spare : List Int) (is : Bool) (n : Int) (f : Int) (sum : Int) (keeps : Bool) (u : Int) (u2 : List (Int × (Int × Int))) (u3 : Int) (u4 : Int) (t : List (Int × (Int × Bool))) (t2 : List (Int × (Int × Int))) (t3 : Int) (q : List Int) (q2 : Int) (q3 : Int) (l : List Int) : ev (Z := Int × List Int × Int × List Int × Bool × Int × Int × Int × Bool × Int × (List (Int × (Int × Bool))) × (List (Int × (Int × Int))) × Int × List Int × Int × Int × List Int) Try.prog (tkept_sp N) tkept_B [tkept_l2_L N, tkept_l3_L N, tkept_l5_L N] [tkept_l4_h (tkept_l4 N n_), tkept_l4_e0] none 400 true tkept_l4_at (stL tkept_l4_st (((), (), weight, least, e, spare, (), is, n, f, sum, keeps, u, u2, u3, u4, ()), ((t, t2, t3, ()), (q, q2, q3, ()), l, ()))) (stH tkept_l4_st (((), (), weight, least, e, spare, (), is, n, f, sum, keeps, u, u2, u3, u4, ()), ((t, t2, t3, ()), (q, q2, q3, ()), l, ()))) = tkept_l4 N (n_ + 1) weight least e spare is n f sum keeps u u2 u3 u4 t t2 t3 q q2 q3 l := by kernel_rfl
theorem tkept_l4_ok (N : Nat) {top : Bool} : LoopOK Try.prog tkept_B.c tkept_B.n tkept_B.m0 top (tkept_l4_L N) := loop_of_ev (Z := Int × List Int × Int × List Int × Bool × Int × Int × Int × Bool × Int × (List (Int × (Int × Bool))) × (List (Int × (Int × Int))) × Int × List Int × Int × Int × List Int) (N := N) (fun m p => tkept_l4 N m p.1.2.2.1 p.1.2.2.2.1 p.1.2.2.2.2.1 p.1.2.2.2.2.2.1 p.1.2.2.2.2.2.2.2.1 p.1.2.2.2.2.2.2.2.2.1 p.1.2.2.2.2.2.2.2.2.2.1 p.1.2.2.2.2.2.2.2.2.2.2.1 p.1.2.2.2.2.2.2.2.2.2.2.2.1 p.1.2.2.2.2.2.2.2.2.2.2.2.2.1 p.1.2.2.2.2.2.2.2.2.2.2.2.2.2.1 p.1.2.2.2.2.2.2.2.2.2.2.2.2.2.2.1 p.1.2.2.2.2.2.2.2.2.2.2.2.2.2.2.2.1 p.2.1.1 p.2.1.2.1 p.2.1.2.2.1 p.2.2.1.1 p.2.2.1.2.1 p.2.2.1.2.2.1 p.2.2.2.1) (fun e => .inl (((), (), e.1, e.2.1, e.2.2.1, e.2.2.2.1, (), e.2.2.2.2.1, e.2.2.2.2.2.1, e.2.2.2.2.2.2.1, e.2.2.2.2.2.2.2.1, e.2.2.2.2.2.2.2.2.1, e.2.2.2.2.2.2.2.2.2.1, ()), ((e.2.2.2.2.2.2.2.2.2.2.1, e.2.2.2.2.2.2.2.2.2.2.2.1, e.2.2.2.2.2.2.2.2.2.2.2.2.1, ()), (e.2.2.2.2.2.2.2.2.2.2.2.2.2.1, e.2.2.2.2.2.2.2.2.2.2.2.2.2.2.1, e.2.2.2.2.2.2.2.2.2.2.2.2.2.2.2.1, ()), e.2.2.2.2.2.2.2.2.2.2.2.2.2.2.2.2, ()))) (fun _ _ _ => rfl) (fun _ => rfl) (fun m z E Xc hE hX hrec hx => leaf_of_ev (B := tkept_B) (loops := [tkept_l2_L N, tkept_l3_L N, tkept_l5_L N]) (leaves := [tkept_l4_h (tkept_l4 N m), tkept_l4_e0]) (tkept_all N) mixed ⟨tkept_l2_ok N, tkept_l3_ok N, tkept_l5_ok N, trivial⟩ hE hX ⟨hrec, (fun p hp => by obtain rfl := Option.some.inj hp; exact hx), trivial⟩ RetOK.no (fun p => tkept_l4_eq N m p.1.2.2.1 p.1.2.2.2.1 p.1.2.2.2.2.1 p.1.2.2.2.2.2.1 p.1.2.2.2.2.2.2.2.1 p.1.2.2.2.2.2.2.2.2.1 p.1.2.2.2.2.2.2.2.2.2.1 p.1.2.2.2.2.2.2.2.2.2.2.1 p.1.2.2.2.2.2.2.2.2.2.2.2.1 p.1.2.2.2.2.2.2.2.2.2.2.2.2.1 p.1.2.2.2.2.2.2.2.2.2.2.2.2.2.1 p.1.2.2.2.2.2.2.2.2.2.2.2.2.2.2.1 p.1.2.2.2.2.2.2.2.2.2.2.2.2.2.2.2.1 p.2.1.1 p.2.1.2.1 p.2.1.2.2.1 p.2.2.1.1 p.2.2.1.2.1 p.2.2.1.2.2.1 p.2.2.2.1))
abbrev tkept_l6_at : List PI := [.c [1, 1, 1, 1, 1, 1, 1, 1, 0, 1, 0, 0, 1, 1, 0, 0, 1, 1, 1, 1, 1, 1, 1, 1, 1, 1, 1, 0, 0, 0], .c [1, 1, 1, 1, 1, 1, 1, 1, 0, 1, 0, 0, 1, 1, 0, 0, 1, 1, 1, 1, 1, 1, 1, 1, 1, 1, 1, 0, 0, 1], .l [1, 1, 1, 1, 1, 1, 1, 1, 0, 1, 0, 0, 1, 1, 0, 0, 1, 1, 1, 1, 1, 1, 1, 1, 1, 1, 1, 0, 0], .b 10, .b 1, .c [1, 1, 1, 1, 1, 1, 1, 1, 0, 1, 0, 0, 1, 1, 1], .l [1, 1, 1, 1, 1, 1, 1, 1, 0, 1, 0, 0], .b 0, .c [1, 1, 1, 1, 1, 1, 1, 1, 1]]
abbrev tkept_l6_st : Sta := ⟨[7, 8, 9, 10, 11, 15, 17, 86, 216, 217, 218], ⟨[.own 0 0, .own 1 0, .i .i64, .sl (.int .i64), .i .i64, .sl (.int .i64), .sl (.int .i64), .i .i64, .sl (.int .i64), .i .i64, .i .i64], [.segs [.sl (.pair (.int .i64) (.pair (.int .i64) .bool)), .sl (.pair (.int .i64) (.pair (.int .i64) (.int .i64))), .i .i64], .segs [.sl (.int .u8), .i .i64, .i .u32]]⟩⟩
abbrev tkept_l6_h (rec : Int → (List Int) → Int → (List Int) → (List Int) → Int → (List Int) → Int → Int → (List (Int × (Int × Bool))) → (List (Int × (Int × Int))) → Int → (List Int) → Int → Int → Option ((Unit) ⊕ (Int × List Int × Int × List Int × Int × (List (Int × (Int × Bool))) × (List (Int × (Int × Int))) × Int × List Int × Int × Int))) : Leaf ((Unit) ⊕ (Int × List Int × Int × List Int × Int × (List (Int × (Int × Bool))) × (List (Int × (Int × Int))) × Int × List Int × Int × Int)) := ⟨tkept_l6_at, tkept_l6_st, fun p => rec p.1.2.2.1 p.1.2.2.2.1 p.1.2.2.2.2.1 p.1.2.2.2.2.2.1 p.1.2.2.2.2.2.2.1 p.1.2.2.2.2.2.2.2.1 p.1.2.2.2.2.2.2.2.2.1 p.1.2.2.2.2.2.2.2.2.2.1 p.1.2.2.2.2.2.2.2.2.2.2.1 p.2.1.1 p.2.1.2.1 p.2.1.2.2.1 p.2.2.1.1 p.2.2.1.2.1 p.2.2.1.2.2.1⟩
abbrev tkept_l6_e0 : Leaf ((Unit) ⊕ (Int × List Int × Int × List Int × Int × (List (Int × (Int × Bool))) × (List (Int × (Int × Int))) × Int × List Int × Int × Int)) := ⟨[.c [1, 1, 1, 1, 1, 1, 1, 1, 0, 1, 0, 0, 1, 1, 0, 0, 1, 1, 1, 1, 1, 1, 1, 1, 1, 1, 1, 0, 0, 1, 1, 0, 0, 1, 1, 1, 1, 0, 0], .c [1, 1, 1, 1, 1, 1, 1, 1, 0, 1, 0, 0, 1, 1, 0, 0, 1, 1, 1, 1, 1, 1, 1, 1, 1, 1, 1, 0, 0, 1, 1, 0, 0, 1, 1, 1, 1, 0, 1], .b 11, .c [1, 1, 1, 1, 1, 1, 1, 1, 0, 1, 0, 0, 1, 1, 0, 0, 1, 1, 1, 1, 1, 1, 1, 1, 1, 1, 1, 0, 0, 1, 1, 1], .l [1, 1, 1, 1, 1, 1, 1, 1, 0, 1, 0, 0, 1, 1, 0, 0, 1, 1, 1, 1, 1, 1, 1, 1, 1, 1, 1, 0, 0], .b 10, .b 1, .c [1, 1, 1, 1, 1, 1, 1, 1, 0, 1, 0, 0, 1, 1, 1], .l [1, 1, 1, 1, 1, 1, 1, 1, 0, 1, 0, 0], .b 0, .c [1, 1, 1, 1, 1, 1, 1, 1, 1]], ⟨[], ⟨[], []⟩⟩, fun p => some (.inl ())⟩
abbrev tkept_l6_e1 : Leaf ((Unit) ⊕ (Int × List Int × Int × List Int × Int × (List (Int × (Int × Bool))) × (List (Int × (Int × Int))) × Int × List Int × Int × Int)) := ⟨[.c [1, 1, 1, 1, 1, 1, 1, 1, 0, 1, 0, 0, 1, 1, 1], .l [1, 1, 1, 1, 1, 1, 1, 1, 0, 1, 0, 0], .b 0, .c [1, 1, 1, 1, 1, 1, 1, 1, 1]], ⟨[7, 8, 9, 10, 11, 15, 86], ⟨[.own 0 0, .own 1 0, .i .i64, .sl (.int .i64), .i .i64, .sl (.int .i64), .i .i64], [.segs [.sl (.pair (.int .i64) (.pair (.int .i64) .bool)), .sl (.pair (.int .i64) (.pair (.int .i64) (.int .i64))), .i .i64], .segs [.sl (.int .u8), .i .i64, .i .u32]]⟩⟩, fun p => some (.inr (p.1.2.2.1, p.1.2.2.2.1, p.1.2.2.2.2.1, p.1.2.2.2.2.2.1, p.1.2.2.2.2.2.2.1, p.2.1.1, p.2.1.2.1, p.2.1.2.2.1, p.2.2.1.1, p.2.2.1.2.1, p.2.2.1.2.2.1))⟩
noncomputable def tkept_l6_L (N : Nat) : LoopS := { at_ := tkept_l6_at, sta := tkept_l6_st, exits := [([.c [1, 1, 1, 1, 1, 1, 1, 1, 0, 1, 0, 0, 1, 1, 0, 0, 1, 1, 1, 1, 1, 1, 1, 1, 1, 1, 1, 0, 0, 1, 1, 0, 0, 1, 1, 1, 1, 0, 0], .c [1, 1, 1, 1, 1, 1, 1, 1, 0, 1, 0, 0, 1, 1, 0, 0, 1, 1, 1, 1, 1, 1, 1, 1, 1, 1, 1, 0, 0, 1, 1, 0, 0, 1, 1, 1, 1, 0, 1], .b 11, .c [1, 1, 1, 1, 1, 1, 1, 1, 0, 1, 0, 0, 1, 1, 0, 0, 1, 1, 1, 1, 1, 1, 1, 1, 1, 1, 1, 0, 0, 1, 1, 1], .l [1, 1, 1, 1, 1, 1, 1, 1, 0, 1, 0, 0, 1, 1, 0, 0, 1, 1, 1, 1, 1, 1, 1, 1, 1, 1, 1, 0, 0], .b 10, .b 1, .c [1, 1, 1, 1, 1, 1, 1, 1, 0, 1, 0, 0, 1, 1, 1], .l [1, 1, 1, 1, 1, 1, 1, 1, 0, 1, 0, 0], .b 0, .c [1, 1, 1, 1, 1, 1, 1, 1, 1]], ⟨[], ⟨[], []⟩⟩), ([.c [1, 1, 1, 1, 1, 1, 1, 1, 0, 1, 0, 0, 1, 1, 1], .l [1, 1, 1, 1, 1, 1, 1, 1, 0, 1, 0, 0], .b 0, .c [1, 1, 1, 1, 1, 1, 1, 1, 1]], ⟨[7, 8, 9, 10, 11, 15, 86], ⟨[.own 0 0, .own 1 0, .i .i64, .sl (.int .i64), .i .i64, .sl (.int .i64), .i .i64], [.segs [.sl (.pair (.int .i64) (.pair (.int .i64) .bool)), .sl (.pair (.int .i64) (.pair (.int .i64) (.int .i64))), .i .i64], .segs [.sl (.int .u8), .i .i64, .i .u32]]⟩⟩)], run := fun p k => (tkept_l6 N N p.1.2.2.1 p.1.2.2.2.1 p.1.2.2.2.2.1 p.1.2.2.2.2.2.1 p.1.2.2.2.2.2.2.1 p.1.2.2.2.2.2.2.2.1 p.1.2.2.2.2.2.2.2.2.1 p.1.2.2.2.2.2.2.2.2.2.1 p.1.2.2.2.2.2.2.2.2.2.2.1 p.2.1.1 p.2.1.2.1 p.2.1.2.2.1 p.2.2.1.1 p.2.2.1.2.1 p.2.2.1.2.2.1).bind fun e => match e with | .inl x => k (.inl ((), ())) | .inr x => k (.inr (.inl (((), (), x.1, x.2.1, x.2.2.1, x.2.2.2.1, x.2.2.2.2.1, ()), ((x.2.2.2.2.2.1, x.2.2.2.2.2.2.1, x.2.2.2.2.2.2.2.1, ()), (x.2.2.2.2.2.2.2.2.1, x.2.2.2.2.2.2.2.2.2.1, x.2.2.2.2.2.2.2.2.2.2, ()), ())))) }
theorem tkept_l6_eq (N n_ : Nat) (weight : Int) (least : List Int) (e : Int) (spare : List Int) (l : List Int) (u : Int) (u2 : List Int) (u3 : Int) (u4 : Int) (t : List (Int × (Int × Bool))) (t2 : List (Int × (Int × Int))) (t3 : Int) (q : List Int) (q2 : Int) (q3 : Int) : ev (Z := (Unit) ⊕ (Int × List Int × Int × List Int × Int × (List (Int × (Int × Bool))) × (List (Int × (Int × Int))) × Int × List Int × Int × Int)) Try.prog (tkept_sp N) tkept_B [tkept_l2_L N, tkept_l3_L N, tkept_l5_L N, tkept_l4_L N] [tkept_l6_h (tkept_l6 N n_), tkept_l6_e0, tkept_l6_e1] none 400 true tkept_l6_at (stL tkept_l6_st (((), (), weight, least, e, spare, l, u, u2, u3, u4, ()), ((t, t2, t3, ()), (q, q2, q3, ()), ()))) (stH tkept_l6_st (((), (), weight, least, e, spare, l, u, u2, u3, u4, ()), ((t, t2, t3, ()), (q, q2, q3, ()), ()))) = tkept_l6 N (n_ + 1) weight least e spare l u u2 u3 u4 t t2 t3 q q2 q3 := by kernel_rfl
theorem tkept_l6_ok (N : Nat) {top : Bool} : LoopOK Try.prog tkept_B.c tkept_B.n tkept_B.m0 top (tkept_l6_L N) := loop_of_ev (Z := (Unit) ⊕ (Int × List Int × Int × List Int × Int × (List (Int × (Int × Bool))) × (List (Int × (Int × Int))) × Int × List Int × Int × Int)) (N := N) (fun m p => tkept_l6 N m p.1.2.2.1 p.1.2.2.2.1 p.1.2.2.2.2.1 p.1.2.2.2.2.2.1 p.1.2.2.2.2.2.2.1 p.1.2.2.2.2.2.2.2.1 p.1.2.2.2.2.2.2.2.2.1 p.1.2.2.2.2.2.2.2.2.2.1 p.1.2.2.2.2.2.2.2.2.2.2.1 p.2.1.1 p.2.1.2.1 p.2.1.2.2.1 p.2.2.1.1 p.2.2.1.2.1 p.2.2.1.2.2.1) (fun e => match e with | .inl x => .inl ((), ()) | .inr x => .inr (.inl (((), (), x.1, x.2.1, x.2.2.1, x.2.2.2.1, x.2.2.2.2.1, ()), ((x.2.2.2.2.2.1, x.2.2.2.2.2.2.1, x.2.2.2.2.2.2.2.1, ()), (x.2.2.2.2.2.2.2.2.1, x.2.2.2.2.2.2.2.2.2.1, x.2.2.2.2.2.2.2.2.2.2, ()), ())))) (fun _ p k => bind_congr_ (tkept_l6 N N p.1.2.2.1 p.1.2.2.2.1 p.1.2.2.2.2.1 p.1.2.2.2.2.2.1 p.1.2.2.2.2.2.2.1 p.1.2.2.2.2.2.2.2.1 p.1.2.2.2.2.2.2.2.2.1 p.1.2.2.2.2.2.2.2.2.2.1 p.1.2.2.2.2.2.2.2.2.2.2.1 p.2.1.1 p.2.1.2.1 p.2.1.2.2.1 p.2.2.1.1 p.2.2.1.2.1 p.2.2.1.2.2.1) _ _ (fun e => by rcases e with x | x <;> rfl)) (fun _ => rfl) (fun m z E Xc hE hX hrec hx => leaf_of_ev (B := tkept_B) (loops := [tkept_l2_L N, tkept_l3_L N, tkept_l5_L N, tkept_l4_L N]) (leaves := [tkept_l6_h (tkept_l6 N m), tkept_l6_e0, tkept_l6_e1]) (tkept_all N) mixed ⟨tkept_l2_ok N, tkept_l3_ok N, tkept_l5_ok N, tkept_l4_ok N, trivial⟩ hE hX ⟨hrec, (fun p hp => by obtain rfl := Option.some.inj hp; exact hx), (fun p hp => by obtain rfl := Option.some.inj hp; exact hx), trivial⟩ RetOK.no (fun p => tkept_l6_eq N m p.1.2.2.1 p.1.2.2.2.1 p.1.2.2.2.2.1 p.1.2.2.2.2.2.1 p.1.2.2.2.2.2.2.1 p.1.2.2.2.2.2.2.2.1 p.1.2.2.2.2.2.2.2.2.1 p.1.2.2.2.2.2.2.2.2.2.1 p.1.2.2.2.2.2.2.2.2.2.2.1 p.2.1.1 p.2.1.2.1 p.2.1.2.2.1 p.2.2.1.1 p.2.2.1.2.1 p.2.2.1.2.2.1))
noncomputable def tkept_l1_L (N : Nat) : LoopS := { at_ := tkept_l1_at, sta := tkept_l1_st, exits := [([.c [1, 1, 1, 1, 1, 1, 1, 1, 0, 1, 0, 0, 1, 1, 0, 0, 1, 1, 1, 1, 1, 1, 1, 1, 0, 1, 0, 0], .c [1, 1, 1, 1, 1, 1, 1, 1, 0, 1, 0, 0, 1, 1, 0, 0, 1, 1, 1, 1, 1, 1, 1, 1, 0, 1, 0, 1], .c [1, 1, 1, 1, 1, 1, 1, 1, 0, 1, 0, 0, 1, 1, 0, 0, 1, 1, 1, 1, 1, 1, 1, 1, 1], .b 1, .c [1, 1, 1, 1, 1, 1, 1, 1, 0, 1, 0, 0, 1, 1, 1], .l [1, 1, 1, 1, 1, 1, 1, 1, 0, 1, 0, 0], .b 0, .c [1, 1, 1, 1, 1, 1, 1, 1, 1]], ⟨[], ⟨[], []⟩⟩), ([.c [1, 1, 1, 1, 1, 1, 1, 1, 0, 1, 0, 0, 1, 1, 0, 0, 1, 1, 1, 1, 1, 1, 1, 1, 1, 1, 1, 0, 0, 1, 1, 0, 0, 1, 1, 1, 1, 0, 0], .c [1, 1, 1, 1, 1, 1, 1, 1, 0, 1, 0, 0, 1, 1, 0, 0, 1, 1, 1, 1, 1, 1, 1, 1, 1, 1, 1, 0, 0, 1, 1, 0, 0, 1, 1, 1, 1, 0, 1], .b 11, .c [1, 1, 1, 1, 1, 1, 1, 1, 0, 1, 0, 0, 1, 1, 0, 0, 1, 1, 1, 1, 1, 1, 1, 1, 1, 1, 1, 0, 0, 1, 1, 1], .l [1, 1, 1, 1, 1, 1, 1, 1, 0, 1, 0, 0, 1, 1, 0, 0, 1, 1, 1, 1, 1, 1, 1, 1, 1, 1, 1, 0, 0], .b 10, .b 1, .c [1, 1, 1, 1, 1, 1, 1, 1, 0, 1, 0, 0, 1, 1, 1], .l [1, 1, 1, 1, 1, 1, 1, 1, 0, 1, 0, 0], .b 0, .c [1, 1, 1, 1, 1, 1, 1, 1, 1]], ⟨[], ⟨[], []⟩⟩), ([.c [1, 1, 1, 1, 1, 1, 1, 1, 1, 0, 0], .c [1, 1, 1, 1, 1, 1, 1, 1, 1, 0, 1], .c [1, 1, 1, 1, 1, 1, 1, 1, 1, 1]], ⟨[7, 15], ⟨[.own 0 0, .sl (.int .i64)], [.segs [.sl (.pair (.int .i64) (.pair (.int .i64) .bool)), .sl (.pair (.int .i64) (.pair (.int .i64) (.int .i64))), .i .i64]]⟩⟩)], run := fun p k => (tkept_l1 N N p.1.2.2.1 p.1.2.2.2.1 p.1.2.2.2.2.1 p.1.2.2.2.2.2.1 p.1.2.2.2.2.2.2.1 p.2.1.1 p.2.1.2.1 p.2.1.2.2.1 p.2.2.1.1 p.2.2.1.2.1 p.2.2.1.2.2.1).bind fun e => match e with | .inl x => k (.inl ((), ())) | .inr (.inl x) => k (.inr (.inl ((), ()))) | .inr (.inr x) => k (.inr (.inr (.inl (((), x.1, ()), ((x.2.1, x.2.2.1, x.2.2.2, ()), ()))))) }
theorem tkept_l1_eq (N n_ : Nat) (weight : Int) (least : List Int) (e : Int) (spare : List Int) (u : Int) (t : List (Int × (Int × Bool))) (t2 : List (Int × (Int × Int))) (t3 : Int) (q : List Int) (q2 : Int) (q3 : Int) : ev (Z := (Unit) ⊕ ((Unit) ⊕ (List Int × (List (Int × (Int × Bool))) × (List (Int × (Int × Int))) × Int))) Try.prog (tkept_sp N) tkept_B [tkept_l2_L N, tkept_l3_L N, tkept_l5_L N, tkept_l4_L N, tkept_l6_L N] [tkept_l1_h (tkept_l1 N n_), tkept_l1_e0, tkept_l1_e1, tkept_l1_e2, tkept_j3_k N (tkept_l1 N n_)] none 400 true tkept_l1_at (stL tkept_l1_st (((), (), weight, least, e, spare, u, ()), ((t, t2, t3, ()), (q, q2, q3, ()), ()))) (stH tkept_l1_st (((), (), weight, least, e, spare, u, ()), ((t, t2, t3, ()), (q, q2, q3, ()), ()))) = tkept_l1 N (n_ + 1) weight least e spare u t t2 t3 q q2 q3 := by kernel_rfl
theorem tkept_l1_ok (N : Nat) {top : Bool} : LoopOK Try.prog tkept_B.c tkept_B.n tkept_B.m0 top (tkept_l1_L N) := loop_of_ev (Z := (Unit) ⊕ ((Unit) ⊕ (List Int × (List (Int × (Int × Bool))) × (List (Int × (Int × Int))) × Int))) (N := N) (fun m p => tkept_l1 N m p.1.2.2.1 p.1.2.2.2.1 p.1.2.2.2.2.1 p.1.2.2.2.2.2.1 p.1.2.2.2.2.2.2.1 p.2.1.1 p.2.1.2.1 p.2.1.2.2.1 p.2.2.1.1 p.2.2.1.2.1 p.2.2.1.2.2.1) (fun e => match e with | .inl x => .inl ((), ()) | .inr (.inl x) => .inr (.inl ((), ())) | .inr (.inr x) => .inr (.inr (.inl (((), x.1, ()), ((x.2.1, x.2.2.1, x.2.2.2, ()), ()))))) (fun _ p k => bind_congr_ (tkept_l1 N N p.1.2.2.1 p.1.2.2.2.1 p.1.2.2.2.2.1 p.1.2.2.2.2.2.1 p.1.2.2.2.2.2.2.1 p.2.1.1 p.2.1.2.1 p.2.1.2.2.1 p.2.2.1.1 p.2.2.1.2.1 p.2.2.1.2.2.1) _ _ (fun e => by rcases e with x | x | x <;> rfl)) (fun _ => rfl) (fun m z E Xc hE hX hrec hx => leaf_of_ev (B := tkept_B) (loops := [tkept_l2_L N, tkept_l3_L N, tkept_l5_L N, tkept_l4_L N, tkept_l6_L N]) (leaves := [tkept_l1_h (tkept_l1 N m), tkept_l1_e0, tkept_l1_e1, tkept_l1_e2, tkept_j3_k N (tkept_l1 N m)]) (tkept_all N) mixed ⟨tkept_l2_ok N, tkept_l3_ok N, tkept_l5_ok N, tkept_l4_ok N, tkept_l6_ok N, trivial⟩ hE hX ⟨hrec, (fun p hp => by obtain rfl := Option.some.inj hp; exact hx), (fun p hp => by obtain rfl := Option.some.inj hp; exact hx), (fun p hp => by obtain rfl := Option.some.inj hp; exact hx), tkept_j3_lf N _ hE hX hrec (fun p hp => by obtain rfl := Option.some.inj hp; exact hx) (fun p hp => by obtain rfl := Option.some.inj hp; exact hx) (fun p hp => by obtain rfl := Option.some.inj hp; exact hx), trivial⟩ RetOK.no (fun p => tkept_l1_eq N m p.1.2.2.1 p.1.2.2.2.1 p.1.2.2.2.2.1 p.1.2.2.2.2.2.1 p.1.2.2.2.2.2.2.1 p.2.1.1 p.2.1.2.1 p.2.1.2.2.1 p.2.2.1.1 p.2.2.1.2.1 p.2.2.1.2.2.1))
abbrev tkept_l8_at : List PI := [.c [1, 1, 1, 1, 1, 1, 1, 1, 1, 0, 1, 0, 0, 1, 1, 0, 0, 1, 1, 0, 1, 0, 0, 0], .c [1, 1, 1, 1, 1, 1, 1, 1, 1, 0, 1, 0, 0, 1, 1, 0, 0, 1, 1, 0, 1, 0, 0, 1], .l [1, 1, 1, 1, 1, 1, 1, 1, 1, 0, 1, 0, 0, 1, 1, 0, 0, 1, 1, 0, 1, 0, 0], .b 14, .c [1, 1, 1, 1, 1, 1, 1, 1, 1, 0, 1, 0, 0, 1, 1, 0, 0, 1, 1, 1], .b 13, .c [1, 1, 1, 1, 1, 1, 1, 1, 1, 0, 1, 0, 0, 1, 1, 1], .l [1, 1, 1, 1, 1, 1, 1, 1, 1, 0, 1, 0, 0], .b 12, .c [1, 1, 1, 1, 1, 1, 1, 1, 1, 1]]
abbrev tkept_l8_st : Sta := ⟨[7, 15, 37, 38, 253, 254, 259, 260], ⟨[.own 0 0, .sl (.int .i64), .i .i64, .ols 1, .i .i64, .i .i64, .i .i64, .i .i64], [.segs [.sl (.pair (.int .i64) (.pair (.int .i64) .bool)), .sl (.pair (.int .i64) (.pair (.int .i64) (.int .i64))), .i .i64], .lst (.int .i64)]⟩⟩
abbrev tkept_l8_h (rec : (List Int) → Int → Int → Int → Int → Int → (List (Int × (Int × Bool))) → (List (Int × (Int × Int))) → Int → (List Int) → Option (List Int × Int × Int × Int × (List (Int × (Int × Bool))) × (List (Int × (Int × Int))) × Int × List Int)) : Leaf (List Int × Int × Int × Int × (List (Int × (Int × Bool))) × (List (Int × (Int × Int))) × Int × List Int) := ⟨tkept_l8_at, tkept_l8_st, fun p => rec p.1.2.1 p.1.2.2.1 p.1.2.2.2.2.1 p.1.2.2.2.2.2.1 p.1.2.2.2.2.2.2.1 p.1.2.2.2.2.2.2.2.1 p.2.1.1 p.2.1.2.1 p.2.1.2.2.1 p.2.2.1⟩
abbrev tkept_l8_e0 : Leaf (List Int × Int × Int × Int × (List (Int × (Int × Bool))) × (List (Int × (Int × Int))) × Int × List Int) := ⟨[.c [1, 1, 1, 1, 1, 1, 1, 1, 1, 0, 1, 0, 0, 1, 1, 0, 0, 1, 1, 1, 0], .c [1, 1, 1, 1, 1, 1, 1, 1, 1, 0, 1, 0, 0, 1, 1, 0, 0, 1, 1, 1, 1], .b 13, .c [1, 1, 1, 1, 1, 1, 1, 1, 1, 0, 1, 0, 0, 1, 1, 1], .l [1, 1, 1, 1, 1, 1, 1, 1, 1, 0, 1, 0, 0], .b 12, .c [1, 1, 1, 1, 1, 1, 1, 1, 1, 1]], ⟨[7, 15, 37, 38, 253, 254], ⟨[.own 0 0, .sl (.int .i64), .i .i64, .ols 1, .i .i64, .i .i64], [.segs [.sl (.pair (.int .i64) (.pair (.int .i64) .bool)), .sl (.pair (.int .i64) (.pair (.int .i64) (.int .i64))), .i .i64], .lst (.int .i64)]⟩⟩, fun p => some ((p.1.2.1, p.1.2.2.1, p.1.2.2.2.2.1, p.1.2.2.2.2.2.1, p.2.1.1, p.2.1.2.1, p.2.1.2.2.1, p.2.2.1))⟩
abbrev tkept_j4_at : List PI := [.c [1, 1, 1, 1, 1, 1, 1, 1, 1, 0, 1, 0, 0, 1, 1, 0, 0, 1, 1, 0, 1, 0, 0, 1, 1, 1], .l [1, 1, 1, 1, 1, 1, 1, 1, 1, 0, 1, 0, 0, 1, 1, 0, 0, 1, 1, 0, 1, 0, 0], .b 14, .c [1, 1, 1, 1, 1, 1, 1, 1, 1, 0, 1, 0, 0, 1, 1, 0, 0, 1, 1, 1], .b 13, .c [1, 1, 1, 1, 1, 1, 1, 1, 1, 0, 1, 0, 0, 1, 1, 1], .l [1, 1, 1, 1, 1, 1, 1, 1, 1, 0, 1, 0, 0], .b 12, .c [1, 1, 1, 1, 1, 1, 1, 1, 1, 1]]
abbrev tkept_j4_st : Sta := ⟨[7, 15, 37, 38, 253, 254, 259, 260], ⟨[.own 0 0, .sl (.int .i64), .i .i64, .ols 1, .i .i64, .i .i64, .i .i64, .i .i64], [.segs [.sl (.pair (.int .i64) (.pair (.int .i64) .bool)), .sl (.pair (.int .i64) (.pair (.int .i64) (.int .i64))), .i .i64], .lst (.int .i64)]⟩⟩
abbrev tkept_j4_k (N : Nat) (rec : (List Int) → Int → Int → Int → Int → Int → (List (Int × (Int × Bool))) → (List (Int × (Int × Int))) → Int → (List Int) → Option (List Int × Int × Int × Int × (List (Int × (Int × Bool))) × (List (Int × (Int × Int))) × Int × List Int)) : Leaf (List Int × Int × Int × Int × (List (Int × (Int × Bool))) × (List (Int × (Int × Int))) × Int × List Int) := ⟨tkept_j4_at, tkept_j4_st, fun p => tkept_j4 N rec p.1.2.1 p.1.2.2.1 p.1.2.2.2.2.1 p.1.2.2.2.2.2.1 p.1.2.2.2.2.2.2.1 p.1.2.2.2.2.2.2.2.1 p.2.1.1 p.2.1.2.1 p.2.1.2.2.1 p.2.2.1⟩
theorem tkept_j4_eq (N : Nat) (rec : (List Int) → Int → Int → Int → Int → Int → (List (Int × (Int × Bool))) → (List (Int × (Int × Int))) → Int → (List Int) → Option (List Int × Int × Int × Int × (List (Int × (Int × Bool))) × (List (Int × (Int × Int))) × Int × List Int)) (spare : List Int) (w : Int) (u : Int) (u2 : Int) (u3 : Int) (u4 : Int) (t : List (Int × (Int × Bool))) (t2 : List (Int × (Int × Int))) (t3 : Int) (others : List Int) : ev (Z := List Int × Int × Int × Int × (List (Int × (Int × Bool))) × (List (Int × (Int × Int))) × Int × List Int) Try.prog (tkept_sp N) tkept_B [tkept_l2_L N, tkept_l3_L N, tkept_l5_L N, tkept_l4_L N, tkept_l6_L N, tkept_l1_L N] [tkept_l8_h rec, tkept_l8_e0] none 400 true tkept_j4_at (stL tkept_j4_st (((), spare, w, (), u, u2, u3, u4, ()), ((t, t2, t3, ()), others, ()))) (stH tkept_j4_st (((), spare, w, (), u, u2, u3, u4, ()), ((t, t2, t3, ()), others, ()))) = tkept_j4 N rec spare w u u2 u3 u4 t t2 t3 others := by kernel_rfl
theorem tkept_j4_lf (N : Nat) (rec : (List Int) → Int → Int → Int → Int → Int → (List (Int × (Int × Bool))) → (List (Int × (Int × Int))) → Int → (List Int) → Option (List Int × Int × Int × Int × (List (Int × (Int × Bool))) × (List (Int × (Int × Int))) × Int × List Int)) {z : List Int × Int × Int × Int × (List (Int × (Int × Bool))) × (List (Int × (Int × Int))) × Int × List Int} {top : Bool} {E : EE} {Xc : Ctx} (hE : EOK tkept_B.m0 E) (hX : CxOK top Xc) (hrec : LeafOK Try.prog tkept_B.c tkept_B.n tkept_B.m0 E Xc z (tkept_l8_h rec)) (h0 : LeafOK Try.prog tkept_B.c tkept_B.n tkept_B.m0 E Xc z tkept_l8_e0) : LeafOK Try.prog tkept_B.c tkept_B.n tkept_B.m0 E Xc z (tkept_j4_k N rec) := leaf_of_ev (B := tkept_B) (loops := [tkept_l2_L N, tkept_l3_L N, tkept_l5_L N, tkept_l4_L N, tkept_l6_L N, tkept_l1_L N]) (leaves := [tkept_l8_h rec, tkept_l8_e0]) (tkept_all N) mixed ⟨tkept_l2_ok N, tkept_l3_ok N, tkept_l5_ok N, tkept_l4_ok N, tkept_l6_ok N, tkept_l1_ok N, trivial⟩ hE hX ⟨hrec, h0, trivial⟩ RetOK.no (fun p => tkept_j4_eq N rec p.1.2.1 p.1.2.2.1 p.1.2.2.2.2.1 p.1.2.2.2.2.2.1 p.1.2.2.2.2.2.2.1 p.1.2.2.2.2.2.2.2.1 p.2.1.1 p.2.1.2.1 p.2.1.2.2.1 p.2.2.1)
noncomputable def tkept_l8_L (N : Nat) : LoopS := { at_ := tkept_l8_at, sta := tkept_l8_st, exits := [([.c [1, 1, 1, 1, 1, 1, 1, 1, 1, 0, 1, 0, 0, 1, 1, 0, 0, 1, 1, 1, 0], .c [1, 1, 1, 1, 1, 1, 1, 1, 1, 0, 1, 0, 0, 1, 1, 0, 0, 1, 1, 1, 1], .b 13, .c [1, 1, 1, 1, 1, 1, 1, 1, 1, 0, 1, 0, 0, 1, 1, 1], .l [1, 1, 1, 1, 1, 1, 1, 1, 1, 0, 1, 0, 0], .b 12, .c [1, 1, 1, 1, 1, 1, 1, 1, 1, 1]], ⟨[7, 15, 37, 38, 253, 254], ⟨[.own 0 0, .sl (.int .i64), .i .i64, .ols 1, .i .i64, .i .i64], [.segs [.sl (.pair (.int .i64) (.pair (.int .i64) .bool)), .sl (.pair (.int .i64) (.pair (.int .i64) (.int .i64))), .i .i64], .lst (.int .i64)]⟩⟩)], run := fun p k => (tkept_l8 N N p.1.2.1 p.1.2.2.1 p.1.2.2.2.2.1 p.1.2.2.2.2.2.1 p.1.2.2.2.2.2.2.1 p.1.2.2.2.2.2.2.2.1 p.2.1.1 p.2.1.2.1 p.2.1.2.2.1 p.2.2.1).bind fun e => k (.inl (((), e.1, e.2.1, (), e.2.2.1, e.2.2.2.1, ()), ((e.2.2.2.2.1, e.2.2.2.2.2.1, e.2.2.2.2.2.2.1, ()), e.2.2.2.2.2.2.2, ()))) }
theorem tkept_l8_eq (N n_ : Nat) (spare : List Int) (w : Int) (u : Int) (u2 : Int) (u3 : Int) (u4 : Int) (t : List (Int × (Int × Bool))) (t2 : List (Int × (Int × Int))) (t3 : Int) (others : List Int) : ev (Z := List Int × Int × Int × Int × (List (Int × (Int × Bool))) × (List (Int × (Int × Int))) × Int × List Int) Try.prog (tkept_sp N) tkept_B [tkept_l2_L N, tkept_l3_L N, tkept_l5_L N, tkept_l4_L N, tkept_l6_L N, tkept_l1_L N] [tkept_l8_h (tkept_l8 N n_), tkept_l8_e0, tkept_j4_k N (tkept_l8 N n_)] none 400 true tkept_l8_at (stL tkept_l8_st (((), spare, w, (), u, u2, u3, u4, ()), ((t, t2, t3, ()), others, ()))) (stH tkept_l8_st (((), spare, w, (), u, u2, u3, u4, ()), ((t, t2, t3, ()), others, ()))) = tkept_l8 N (n_ + 1) spare w u u2 u3 u4 t t2 t3 others := by kernel_rfl
theorem tkept_l8_ok (N : Nat) {top : Bool} : LoopOK Try.prog tkept_B.c tkept_B.n tkept_B.m0 top (tkept_l8_L N) := loop_of_ev (Z := List Int × Int × Int × Int × (List (Int × (Int × Bool))) × (List (Int × (Int × Int))) × Int × List Int) (N := N) (fun m p => tkept_l8 N m p.1.2.1 p.1.2.2.1 p.1.2.2.2.2.1 p.1.2.2.2.2.2.1 p.1.2.2.2.2.2.2.1 p.1.2.2.2.2.2.2.2.1 p.2.1.1 p.2.1.2.1 p.2.1.2.2.1 p.2.2.1) (fun e => .inl (((), e.1, e.2.1, (), e.2.2.1, e.2.2.2.1, ()), ((e.2.2.2.2.1, e.2.2.2.2.2.1, e.2.2.2.2.2.2.1, ()), e.2.2.2.2.2.2.2, ()))) (fun _ _ _ => rfl) (fun _ => rfl) (fun m z E Xc hE hX hrec hx => leaf_of_ev (B := tkept_B) (loops := [tkept_l2_L N, tkept_l3_L N, tkept_l5_L N, tkept_l4_L N, tkept_l6_L N, tkept_l1_L N]) (leaves := [tkept_l8_h (tkept_l8 N m), tkept_l8_e0, tkept_j4_k N (tkept_l8 N m)]) (tkept_all N) mixed ⟨tkept_l2_ok N, tkept_l3_ok N, tkept_l5_ok N, tkept_l4_ok N, tkept_l6_ok N, tkept_l1_ok N, trivial⟩ hE hX ⟨hrec, (fun p hp => by obtain rfl := Option.some.inj hp; exact hx), tkept_j4_lf N _ hE hX hrec (fun p hp => by obtain rfl := Option.some.inj hp; exact hx), trivial⟩ RetOK.no (fun p => tkept_l8_eq N m p.1.2.1 p.1.2.2.1 p.1.2.2.2.2.1 p.1.2.2.2.2.2.1 p.1.2.2.2.2.2.2.1 p.1.2.2.2.2.2.2.2.1 p.2.1.1 p.2.1.2.1 p.2.1.2.2.1 p.2.2.1))
abbrev tkept_l7_at : List PI := [.c [1, 1, 1, 1, 1, 1, 1, 1, 1, 0, 1, 0, 0, 0], .c [1, 1, 1, 1, 1, 1, 1, 1, 1, 0, 1, 0, 0, 1], .l [1, 1, 1, 1, 1, 1, 1, 1, 1, 0, 1, 0, 0], .b 12, .c [1, 1, 1, 1, 1, 1, 1, 1, 1, 1]]
abbrev tkept_l7_st : Sta := ⟨[7, 15, 253, 254], ⟨[.own 0 0, .sl (.int .i64), .i .i64, .i .i64], [.segs [.sl (.pair (.int .i64) (.pair (.int .i64) .bool)), .sl (.pair (.int .i64) (.pair (.int .i64) (.int .i64))), .i .i64]]⟩⟩
abbrev tkept_l7_h (rec : (List Int) → Int → Int → (List (Int × (Int × Bool))) → (List (Int × (Int × Int))) → Int → Option ((Unit) ⊕ (Unit))) : Leaf ((Unit) ⊕ (Unit)) := ⟨tkept_l7_at, tkept_l7_st, fun p => rec p.1.2.1 p.1.2.2.1 p.1.2.2.2.1 p.2.1.1 p.2.1.2.1 p.2.1.2.2.1⟩
abbrev tkept_l7_e0 : Leaf ((Unit) ⊕ (Unit)) := ⟨[.c [1, 1, 1, 1, 1, 1, 1, 1, 1, 0, 1, 0, 0, 1, 1, 0, 0, 1, 1, 1, 1, 1, 0, 0], .c [1, 1, 1, 1, 1, 1, 1, 1, 1, 0, 1, 0, 0, 1, 1, 0, 0, 1, 1, 1, 1, 1, 0, 1], .b 13, .c [1, 1, 1, 1, 1, 1, 1, 1, 1, 0, 1, 0, 0, 1, 1, 1], .l [1, 1, 1, 1, 1, 1, 1, 1, 1, 0, 1, 0, 0], .b 12, .c [1, 1, 1, 1, 1, 1, 1, 1, 1, 1]], ⟨[], ⟨[], []⟩⟩, fun p => some (.inl ())⟩
abbrev tkept_l7_e1 : Leaf ((Unit) ⊕ (Unit)) := ⟨[.c [1, 1, 1, 1, 1, 1, 1, 1, 1, 1, 0], .c [1, 1, 1, 1, 1, 1, 1, 1, 1, 1, 1]], ⟨[], ⟨[], []⟩⟩, fun p => some (.inr ())⟩
noncomputable def tkept_l7_L (N : Nat) : LoopS := { at_ := tkept_l7_at, sta := tkept_l7_st, exits := [([.c [1, 1, 1, 1, 1, 1, 1, 1, 1, 0, 1, 0, 0, 1, 1, 0, 0, 1, 1, 1, 1, 1, 0, 0], .c [1, 1, 1, 1, 1, 1, 1, 1, 1, 0, 1, 0, 0, 1, 1, 0, 0, 1, 1, 1, 1, 1, 0, 1], .b 13, .c [1, 1, 1, 1, 1, 1, 1, 1, 1, 0, 1, 0, 0, 1, 1, 1], .l [1, 1, 1, 1, 1, 1, 1, 1, 1, 0, 1, 0, 0], .b 12, .c [1, 1, 1, 1, 1, 1, 1, 1, 1, 1]], ⟨[], ⟨[], []⟩⟩), ([.c [1, 1, 1, 1, 1, 1, 1, 1, 1, 1, 0], .c [1, 1, 1, 1, 1, 1, 1, 1, 1, 1, 1]], ⟨[], ⟨[], []⟩⟩)], run := fun p k => (tkept_l7 N N p.1.2.1 p.1.2.2.1 p.1.2.2.2.1 p.2.1.1 p.2.1.2.1 p.2.1.2.2.1).bind fun e => match e with | .inl x => k (.inl ((), ())) | .inr x => k (.inr (.inl ((), ()))) }
theorem tkept_l7_eq (N n_ : Nat) (spare : List Int) (u : Int) (u2 : Int) (t : List (Int × (Int × Bool))) (t2 : List (Int × (Int × Int))) (t3 : Int) : ev (Z := (Unit) ⊕ (Unit)) Try.prog (tkept_sp N) tkept_B [tkept_l2_L N, tkept_l3_L N, tkept_l5_L N, tkept_l4_L N, tkept_l6_L N, tkept_l1_L N, tkept_l8_L N] [tkept_l7_h (tkept_l7 N n_), tkept_l7_e0, tkept_l7_e1] none 400 true tkept_l7_at (stL tkept_l7_st (((), spare, u, u2, ()), ((t, t2, t3, ()), ()))) (stH tkept_l7_st (((), spare, u, u2, ()), ((t, t2, t3, ()), ()))) = tkept_l7 N (n_ + 1) spare u u2 t t2 t3 := by kernel_rfl
theorem tkept_l7_ok (N : Nat) {top : Bool} : LoopOK Try.prog tkept_B.c tkept_B.n tkept_B.m0 top (tkept_l7_L N) := loop_of_ev (Z := (Unit) ⊕ (Unit)) (N := N) (fun m p => tkept_l7 N m p.1.2.1 p.1.2.2.1 p.1.2.2.2.1 p.2.1.1 p.2.1.2.1 p.2.1.2.2.1) (fun e => match e with | .inl x => .inl ((), ()) | .inr x => .inr (.inl ((), ()))) (fun _ p k => bind_congr_ (tkept_l7 N N p.1.2.1 p.1.2.2.1 p.1.2.2.2.1 p.2.1.1 p.2.1.2.1 p.2.1.2.2.1) _ _ (fun e => by rcases e with x | x <;> rfl)) (fun _ => rfl) (fun m z E Xc hE hX hrec hx => leaf_of_ev (B := tkept_B) (loops := [tkept_l2_L N, tkept_l3_L N, tkept_l5_L N, tkept_l4_L N, tkept_l6_L N, tkept_l1_L N, tkept_l8_L N]) (leaves := [tkept_l7_h (tkept_l7 N m), tkept_l7_e0, tkept_l7_e1]) (tkept_all N) mixed ⟨tkept_l2_ok N, tkept_l3_ok N, tkept_l5_ok N, tkept_l4_ok N, tkept_l6_ok N, tkept_l1_ok N, tkept_l8_ok N, trivial⟩ hE hX ⟨hrec, (fun p hp => by obtain rfl := Option.some.inj hp; exact hx), (fun p hp => by obtain rfl := Option.some.inj hp; exact hx), trivial⟩ RetOK.no (fun p => tkept_l7_eq N m p.1.2.1 p.1.2.2.1 p.1.2.2.2.1 p.2.1.1 p.2.1.2.1 p.2.1.2.2.1))
abbrev tkept_j1_at : List PI := [.c [1, 1, 1, 1, 1, 1, 0], .c [1, 1, 1, 1, 1, 1, 1]]
abbrev tkept_j1_st : Sta := ⟨[7, 8, 9, 10, 11], ⟨[.own 0 0, .own 1 0, .i .i64, .sl (.int .i64), .i .i64], [.segs [.sl (.pair (.int .i64) (.pair (.int .i64) .bool)), .sl (.pair (.int .i64) (.pair (.int .i64) (.int .i64))), .i .i64], .segs [.sl (.int .u8), .i .i64, .i .u32]]⟩⟩
abbrev tkept_j1_k (N : Nat) : Leaf Bool := ⟨tkept_j1_at, tkept_j1_st, fun p => tkept_j1 N p.1.2.2.1 p.1.2.2.2.1 p.1.2.2.2.2.1 p.2.1.1 p.2.1.2.1 p.2.1.2.2.1 p.2.2.1.1 p.2.2.1.2.1 p.2.2.1.2.2.1⟩
theorem tkept_j1_eq (N : Nat) (weight : Int) (least : List Int) (e : Int) (t : List (Int × (Int × Bool))) (t2 : List (Int × (Int × Int))) (t3 : Int) (q : List Int) (q2 : Int) (q3 : Int) : ev (Z := Bool) Try.prog (tkept_sp N) tkept_B [tkept_l2_L N, tkept_l3_L N, tkept_l5_L N, tkept_l4_L N, tkept_l6_L N, tkept_l1_L N, tkept_l8_L N, tkept_l7_L N] [] (some tkept_rt) 400 true tkept_j1_at (stL tkept_j1_st (((), (), weight, least, e, ()), ((t, t2, t3, ()), (q, q2, q3, ()), ()))) (stH tkept_j1_st (((), (), weight, least, e, ()), ((t, t2, t3, ()), (q, q2, q3, ()), ()))) = tkept_j1 N weight least e t t2 t3 q q2 q3 := by kernel_rfl
theorem tkept_j1_lf (N : Nat) {z : Bool} {E : EE} {Xc : Ctx} (hE : EOK tkept_B.m0 E) (hX : CxOK true Xc) (hret : RetOK Try.prog tkept_B E Xc z (some tkept_rt)) : LeafOK Try.prog tkept_B.c tkept_B.n tkept_B.m0 E Xc z (tkept_j1_k N) := leaf_of_ev (B := tkept_B) (loops := [tkept_l2_L N, tkept_l3_L N, tkept_l5_L N, tkept_l4_L N, tkept_l6_L N, tkept_l1_L N, tkept_l8_L N, tkept_l7_L N]) (leaves := []) (tkept_all N) mixed ⟨tkept_l2_ok N, tkept_l3_ok N, tkept_l5_ok N, tkept_l4_ok N, tkept_l6_ok N, tkept_l1_ok N, tkept_l8_ok N, tkept_l7_ok N, trivial⟩ hE hX trivial hret (fun p => tkept_j1_eq N p.1.2.2.1 p.1.2.2.2.1 p.1.2.2.2.2.1 p.2.1.1 p.2.1.2.1 p.2.1.2.2.1 p.2.2.1.1 p.2.2.1.2.1 p.2.2.1.2.2.1)
abbrev tkept_st : Sta := ⟨[0, 1, 2], ⟨[.sl (.int .u8), .sl (.int .u8), .i .u8], []⟩⟩
theorem tkept_eq (N : Nat) (numbers : List Int) (tries : List Int) (heavy : Int) : ev (Z := Bool) Try.prog (tkept_sp N) tkept_B [tkept_l2_L N, tkept_l3_L N, tkept_l5_L N, tkept_l4_L N, tkept_l6_L N, tkept_l1_L N, tkept_l8_L N, tkept_l7_L N] [tkept_j1_k N] (some tkept_rt) 400 false [.c [0], .c [1]] (stL tkept_st ((numbers, tries, heavy, ()), ())) (stH tkept_st ((numbers, tries, heavy, ()), ())) = tkept_S N numbers tries heavy := by kernel_rfl
noncomputable def sp_tkept (N : Nat) : Spec := { f := 15, ins := ⟨[.sl (.int .u8), .sl (.int .u8), .i .u8], []⟩, outs := [⟨[.b], []⟩], run := fun p k => (tkept_S N p.1.1 p.1.2.1 p.1.2.2.1).bind fun r => k ((r, ()), ()) }
theorem sp_tkept_ok (N : Nat) : SpecOK Try.prog (sp_tkept N) := fn_sound (B := tkept_B) (loops := [tkept_l2_L N, tkept_l3_L N, tkept_l5_L N, tkept_l4_L N, tkept_l6_L N, tkept_l1_L N, tkept_l8_L N, tkept_l7_L N]) (leaves := [tkept_j1_k N]) (fun p => tkept_S N p.1.1 p.1.2.1 p.1.2.2.1) (fun r => ((r, ()), ())) tkept_rt (fun _ _ _ => rfl) (fun r z h => by cases h; rfl) Try.func15 (by kernel_rfl) (by kernel_rfl) (by kernel_rfl) rfl rfl (by kernel_rfl) (fun args w => Sem.pv_run _ _ _ (by kernel_rfl) w) (tkept_all N) mixed ⟨tkept_l2_ok N, tkept_l3_ok N, tkept_l5_ok N, tkept_l4_ok N, tkept_l6_ok N, tkept_l1_ok N, tkept_l8_ok N, tkept_l7_ok N, trivial⟩ (fun z E Xc hE hX hret => ⟨tkept_j1_lf N hE hX hret, trivial⟩) (fun p => tkept_eq N p.1.1 p.1.2.1 p.1.2.2.1)

end Go.Proofs.Ytfamlpbdhhikdaa

namespace Go.Proofs.Ytfamlpbdhhikdaa
set_option linter.all false
open Go

section
variable {N : Nat}
theorem compare_v (x y : Int) : compare_S N x y = some (if x < y then -1 else if y < x then 1 else 0) := by
  unfold compare_S isnan1_S
  simp only [Option.bind_some]
  rw [br_nd (by first | trivial | rfl), br_nd (by first | trivial | rfl)]
  by_cases c : x < y
  · rw [br_dec c, if_pos c]
  · rw [br_ndec c, if_neg c]
    by_cases d : y < x
    · rw [br_dec d, if_pos d]
    · rw [br_ndec d, if_neg d]
theorem comparei_l1_p {a b : List Int} (hab : a.length = b.length) (ha : a.length ≤ 1000) : ∀ (n k : Nat), a.length < n + k → k ≤ a.length → ∃ r, comparei_l1 N n a b a a.length k = some (.inr r) ∧ match r with
    | .inl c => decide (c < 0) = bef (a.drop k) (b.drop k)
    | .inr x => x = (a, b) ∧ bef (a.drop k) (b.drop k) = false
  | 0, k, h, _ => by omega
  | n + 1, k, h, hk => by
    unfold comparei_l1
    by_cases c : k < a.length
    · have g1 := gets c 0
      have g2 := gets (l := b) (k := k) (by omega) 0
      rw [br_dec (by omega), idx_eq (by omega) g1, br_ndec (by omega), idx_eq (by omega) g2, compare_v, drop_cons c 0, drop_cons (l := b) (k := k) (by omega) 0]
      simp only [Option.bind_some]
      unfold bef
      by_cases d : a.getD k 0 = b.getD k 0
      · obtain ⟨r, e, hr⟩ := comparei_l1_p hab ha n (k + 1) (by omega) (by omega)
        rw [show ((k + 1 : Nat) : Int) = (k : Int) + 1 by omega] at e
        rw [if_neg (by omega), if_neg (by omega), br_nd (by first | trivial | rfl), chk_eq (by omega), e, if_pos d]
        exact ⟨r, rfl, hr⟩
      · rw [if_neg d]
        by_cases d2 : a.getD k 0 < b.getD k 0
        · rw [if_pos d2, br_nnd (by decide), decide_eq_true d2]
          exact ⟨_, rfl, rfl⟩
        · rw [if_neg d2, if_pos (by omega), br_nnd (by decide), decide_eq_false d2]
          exact ⟨_, rfl, rfl⟩
    · rw [br_ndec (by omega), List.drop_of_length_le (by omega)]
      exact ⟨_, rfl, rfl, rfl⟩
theorem comparei_v {a b : List Int} (hab : a.length = b.length) (ha : a.length ≤ 1000) (hN : a.length < N) : ∃ c, comparei_S N a b = some c ∧ decide (c < 0) = bef a b := by
  obtain ⟨r, e, hr⟩ := comparei_l1_p (N := N) hab ha N 0 (by omega) (by omega)
  simp only [Int.natCast_zero, List.drop_zero] at e hr
  unfold comparei_S
  rw [e]
  simp only [Option.bind_some]
  cases r with
  | inl c => exact ⟨c, rfl, hr⟩
  | inr x =>
    obtain ⟨rfl, hb⟩ := hr
    simp only
    rw [br_ndec (by omega)]
    exact ⟨0, rfl, by rw [hb]; rfl⟩
theorem ixftk_gen (f : Int) : ∀ (n : Nat) (l : List Tn) (u u2 : Int), ixftk_l1 N n l f u u2 = ixL (fun x => tkept1_S N x.1 x.2.1 x.2.2 f) n l u u2
  | 0, _, _, _ => rfl
  | n + 1, l, u, u2 => by unfold ixftk_l1 ixL; simp only [ixftk_gen f n]
theorem coftk_v {u : List Tn} {f : Int} (hu : u.length ≤ 1000) (hN : u.length < N) : coftk_S N u f = some (u.any fun x => decide (x.1 = f)) := by
  have h := ixS_any (f := fun x : Tn => tkept1_S N x.1 x.2.1 x.2.2 f) (p := fun x => decide (x.1 = f)) (s := u) (N := N) (fun x _ => rfl) (by omega) hN
  unfold coftk_S ixftk_S
  unfold ixS at h
  rw [ixftk_gen]
  exact h
variable {ws : List Wd} {ts : List Tn} {br_ : Int} {b : List Int}
theorem tkept_l2_p {wt e often u : Int} {least spare : List Int} (ho : 2 ≤ often ∧ often ≤ 4) (hn : ws.length ≤ 12) : ∀ (n k : Nat) (b2 b3 : Int) (L : List Int), ws.length < n + k → k ≤ ws.length → Bell b b2 → okC k 0 L →
    Ok (tkept_l2 N n wt least e spare often u ws.length k ws ts br_ b b2 b3 L) fun z => ∃ q2 q3 L', z = (wt, least, e, spare, u, ws, ts, br_, b, q2, q3, L') ∧ Bell b q2 ∧ okC ws.length 0 L'
  | 0, k, b2, b3, L, h, _, _, _ => by omega
  | n + 1, k, b2, b3, L, h, hk, hb, hL => by
    unfold tkept_l2
    refine Ok.brd (fun c => ?_) (fun c => ?_)
    · have hlen : L.length ≤ 12 := by
        by_cases e : L = []
        · subst e; simp
        · have := okC_len hL e; omega
      have hj : ∀ b2 b3 L, Bell b b2 → okC ((k + 1 : Nat) : Int) 0 L → Ok (tkept_j2 N (tkept_l2 N n) wt least e spare often u ws.length k ws ts br_ b b2 b3 L) fun z => ∃ q2 q3 L', z = (wt, least, e, spare, u, ws, ts, br_, b, q2, q3, L') ∧ Bell b q2 ∧ okC ws.length 0 L' := by
        intro b2 b3 L hb hL
        have ih := tkept_l2_p (wt := wt) (e := e) (u := u) (least := least) (spare := spare) ho hn n (k + 1) b2 b3 L (by omega) (by omega) hb hL
        rw [show ((k + 1 : Nat) : Int) = (k : Int) + 1 by omega] at ih
        unfold tkept_j2
        exact Ok.chk (by omega) ih
      refine Ok.bind (seldom_ok N hb (by omega)) ?_
      rintro ⟨z, e1, e2, e3⟩ ⟨hc, hb3⟩
      dsimp only at hc hb3 ⊢
      obtain rfl := hc.symm
      refine Ok.br (fun _ => Ok.lim (by simp; omega) (hj _ _ _ hb3 ?_)) (fun _ => hj _ _ _ hb3 (okC_up (by omega) hL))
      have := okC_snoc hL (by omega)
      rwa [show (k : Int) + 1 = ((k + 1 : Nat) : Int) by omega] at this
    · obtain rfl : k = ws.length := by omega
      exact Ok.some ⟨_, _, _, rfl, hb, hL⟩
theorem tkept_l3_p {wt e u n' f : Int} {least spare : List Int} {is kp : Bool} {q : List Int} {q2 q3 : Int} (hF : TFine ws ts br_) {l : List Int} (hl : l.length ≤ 1000) (hw : inW ws l) : ∀ (n k : Nat) (s : Int), l.length < n + k → k ≤ l.length → 0 ≤ s ∧ s ≤ 20 * k →
    tkept_l3 N n wt least e spare is n' f s kp u l.length k ws ts br_ q q2 q3 l = some (wt, least, e, spare, is, n', f, s + ((l.drop k).map fun w => (ws.getD w.toNat (0, 0, false)).2.1).sum, kp, u, ws, ts, br_, q, q2, q3, l)
  | 0, k, s, h, _, _ => by omega
  | n + 1, k, s, h, hk, hs => by
    unfold tkept_l3
    by_cases c : k < l.length
    · have g := get_get (f := fun x_43 => idx ws x_43 fun x_44 => chk (s + x_44.2.1) <| chk ((k : Int) + 1) <| tkept_l3 N n wt least e spare is n' f (s + x_44.2.1) kp u l.length ((k : Int) + 1) ws ts br_ q q2 q3 l) 0 c
      have hx := hw _ (getD_mem (d := 0) c)
      rw [drop_cons c 0]
      rw [br_dec (by omega), rng_eq (by omega), Int.toNat_natCast, g]
      generalize l.getD k 0 = x at *
      have hm := (hF.w _ (getD_mem (d := (0, 0, false)) (show x.toNat < ws.length by omega))).2
      have g2 : ws[x.toNat]? = some (ws.getD x.toNat (0, 0, false)) := by
        simp [List.getD, show x.toNat < ws.length by omega]
      have ih := tkept_l3_p (wt := wt) (e := e) (u := u) (n' := n') (f := f) (least := least) (spare := spare) (is := is) (kp := kp) (q := q) (q2 := q2) (q3 := q3) hF hl hw n (k + 1) (s + (ws.getD x.toNat (0, 0, false)).2.1) (by omega) (by omega) (by omega)
      rw [show ((k + 1 : Nat) : Int) = (k : Int) + 1 by omega] at ih
      rw [idx_eq hx.1 g2, chk_eq (by omega), chk_eq (by omega), ih, List.map_cons, List.sum_cons, Int.add_assoc]
    · rw [br_ndec (by omega), List.drop_of_length_le (by omega)]; simp
theorem tkept_l5_p {wt e u n' f s : Int} {least spare : List Int} {is kp : Bool} {q : List Int} {q2 q3 : Int} {l : List Int} (hl : l.length ≤ 100) (hN : 110 ≤ N) {u2 : List Tn} {u3 u4 : Int} {y : Tn} (hy : -1000 ≤ y.2.1 ∧ y.2.2 ≤ 1000) : ∀ (n : Nat) (w : Int) (core : Bool), (y.2.2 + 1 - w).toNat < n → y.2.1 ≤ w →
    tkept_l5 N n wt least e spare is n' f s kp core w u u2 u3 u4 ws ts br_ q q2 q3 l y.1 y.2.1 y.2.2 = some (wt, least, e, spare, is, n', f, s, kp, (core && (wordsL w (y.2.2 + 1)).all fun w => l.contains w), u, u2, u3, u4, ws, ts, br_, q, q2, q3, l, y.1, y.2.1, y.2.2)
  | 0, w, _, h, _ => by omega
  | n + 1, w, core, h, h3 => by
    unfold tkept_l5
    by_cases c : w ≤ y.2.2
    · have ew : wordsL w (y.2.2 + 1) = w :: wordsL (w + 1) (y.2.2 + 1) := by
        unfold wordsL
        rw [show (y.2.2 + 1 - w).toNat = (y.2.2 + 1 - (w + 1)).toNat + 1 by omega, List.range_succ_eq_map, List.map_cons, List.map_map]
        congr 1
        · simp
        · refine List.map_congr_left fun i _ => ?_
          simp only [Function.comp]; omega
      have ih := fun core => tkept_l5_p (wt := wt) (e := e) (u := u) (n' := n') (f := f) (s := s) (least := least) (spare := spare) (is := is) (kp := kp) (q := q) (q2 := q2) (q3 := q3) hl hN (u2 := u2) (u3 := u3) (u4 := u4) hy n (w + 1) core (by omega) (by omega)
      rw [ew, List.all_cons, br_dec c]
      cases core
      · rw [br_false, chk_eq (by omega), ih]; rfl
      · rw [br_true, containsi_v (by omega) (by omega)]
        simp only [Option.bind_some]
        rw [chk_eq (by omega), ih]; rfl
    · rw [br_ndec c]
      have : wordsL w (y.2.2 + 1) = [] := by unfold wordsL; rw [show (y.2.2 + 1 - w).toNat = 0 by omega]; rfl
      rw [this]; simp
theorem tkept_l4_p {wt e u n' f s : Int} {least spare : List Int} {is : Bool} {q : List Int} {q2 q3 : Int} {l : List Int} (hl : l.length ≤ 100) (hN : 110 ≤ N) (hF : TFine ws ts br_) : ∀ (n k : Nat) (kp : Bool), ts.length < n + k → k ≤ ts.length →
    tkept_l4 N n wt least e spare is n' f s kp u ts ts.length k ws ts br_ q q2 q3 l = some (wt, least, e, spare, is, n', f, s, (kp && (ts.drop k).all (keepP l)), u, ws, ts, br_, q, q2, q3, l)
  | 0, k, _, h, _ => by omega
  | n + 1, k, kp, h, hk => by
    have ht := hF.t; have hn := hF.n
    unfold tkept_l4
    by_cases c : k < ts.length
    · have g := gets c (0, 0, 0)
      have hx := hF.x _ (getD_mem (d := (0, 0, 0)) c)
      rw [drop_cons c (0, 0, 0)]
      generalize ts.getD k (0, 0, 0) = y at *
      have ih := fun kp => tkept_l4_p (wt := wt) (e := e) (u := u) (n' := n') (f := f) (s := s) (least := least) (spare := spare) (is := is) (q := q) (q2 := q2) (q3 := q3) hl hN hF n (k + 1) kp (by omega) (by omega)
      rw [show ((k + 1 : Nat) : Int) = (k : Int) + 1 by omega] at ih
      rw [br_dec (by omega), idx_eq (by omega) g, tkept_l5_p hl hN (by omega) N _ _ (by omega) (by omega)]
      simp only [Option.bind_some, Bool.true_and]
      rw [List.all_cons]
      have ek : keepP l y = (!((wordsL y.2.1 (y.2.2 + 1)).all fun w => l.contains w) || l.contains y.1) := by
        unfold keepP sayP coreB
        cases (wordsL y.2.1 (y.2.2 + 1)).all fun w => l.contains w <;> simp
      rw [ek]
      cases kp
      · rw [br_false, chk_eq (by omega), ih]; rfl
      · rw [br_true]
        cases (wordsL y.2.1 (y.2.2 + 1)).all fun w => l.contains w
        · rw [Bool.not_false, br_true, chk_eq (by omega), ih]; simp
        · rw [Bool.not_true, br_false, containsi_v (by omega) (by omega)]
          simp only [Option.bind_some]
          rw [chk_eq (by omega), ih]; simp
    · rw [br_ndec (by omega), List.drop_of_length_le (by omega)]; simp
/-! ### To leave out one word -/
theorem okC_del {m : Int} : ∀ {c : List Int} {lo : Int} (i : Nat), okC m lo c → okC m lo (c.take i ++ c.drop (i + 1))
  | [], _, i, _ => by simp [okC]
  | a :: r, lo, 0, ⟨⟨h1, h2⟩, h3⟩ => by
    simp only [List.take_zero, List.nil_append, Nat.zero_add, List.drop_succ_cons, List.drop_zero]
    exact okC_mono (by omega) h3
  | a :: r, lo, i + 1, ⟨h1, h3⟩ => by
    simp only [List.take_succ_cons, List.drop_succ_cons, List.cons_append]
    exact ⟨h1, okC_del i h3⟩
theorem mem_del {l : List Int} {i : Nat} (hi : i < l.length) {x : Int} (h : x ∈ l) : x = l.getD i 0 ∨ x ∈ l.take i ++ l.drop (i + 1) := by
  have e : l = l.take i ++ l.drop i := (List.take_append_drop i l).symm
  rw [drop_cons hi 0] at e
  rw [e] at h
  simp only [List.mem_append, List.mem_cons] at h ⊢
  rcases h with h | h | h
  · exact .inr (.inl h)
  · exact .inl h
  · exact .inr (.inr h)
theorem keep_del {l : List Int} {i : Nat} (hi : i < l.length) {x : Tn} (h : keepP l x = true) (h2 : keepP (l.take i ++ l.drop (i + 1)) x = false) : x.1 = l.getD i 0 := by
  unfold keepP sayP at h h2
  rw [Bool.not_eq_false'] at h2
  rw [Bool.and_eq_true] at h2
  obtain ⟨h3, h4⟩ := h2
  have hc : coreB l x = true := by
    rw [coreB_iff, List.all_eq_true] at h3 ⊢
    intro w hw
    have := h3 w hw
    rw [List.contains_iff_mem] at this ⊢
    rcases List.mem_append.1 this with h | h
    · exact List.mem_of_mem_take h
    · exact List.mem_of_mem_drop h
  rw [hc, Bool.true_and, Bool.not_not, List.contains_iff_mem] at h
  rcases mem_del hi h with e | e
  · exact e
  · rw [Bool.not_eq_true', ← Bool.not_eq_true, List.contains_iff_mem] at h4
    exact absurd e h4
theorem tkept_l6_p {wt e u : Int} {least spare : List Int} {q : List Int} {q2 q3 : Int} {l : List Int} (hl : okC ws.length 0 l) (hl2 : 2 ≤ l.length) (hN : 110 ≤ N) (hF : TFine ws ts br_) (hk : ts.all (keepP l) = true) : ∀ (n k : Nat), l.length < n + k → k ≤ l.length →
    tkept_l6 N n wt least e spare l u l l.length k ws ts br_ q q2 q3 = some (.inr (wt, least, e, spare, u, ws, ts, br_, q, q2, q3))
  | 0, k, h, _ => by omega
  | n + 1, k, h, hk' => by
    have ht := hF.t; have hn := hF.n
    have hll := okC_len hl (by intro e; subst e; simp at hl2)
    unfold tkept_l6
    by_cases c : k < l.length
    · have ih := tkept_l6_p (wt := wt) (e := e) (u := u) (least := least) (spare := spare) (q := q) (q2 := q2) (q3 := q3) hl hl2 hN hF hk n (k + 1) (by omega) (by omega)
      rw [show ((k + 1 : Nat) : Int) = (k : Int) + 1 by omega] at ih
      have hd := okC_del k hl
      have hlen : (l.take k ++ l.drop (k + 1)).length = l.length - 1 := by simp; omega
      have hk0 := keptE_of (checkT_of hF) (l := l.take k ++ l.drop (k + 1)) (by intro e; rw [e] at hlen; simp at hlen; omega) (okC_mem hd) (okC_asc hd)
      rw [br_dec (by omega), idx_eq (by omega) (gets c 0), cloneo_v (by intro e; subst e; simp at hl2) (by omega)]
      simp only [Option.bind_some]
      have ed : delete_S N k ((k : Int) + 1) l = some (l.take k ++ l.drop (k + 1)) := by
        unfold delete_S
        rw [if_pos (by omega), Int.toNat_natCast, show ((k : Int) + 1).toNat = k + 1 by omega]
      rw [chk_eq (by omega), ed]
      simp only [Option.bind_some]
      rw [lkeeps_v hN (by omega) (by omega) (by omega)]
      unfold keepsR
      rw [hk0, if_neg (by simp)]
      simp only [Option.bind_some]
      rw [br_nd (by first | trivial | rfl)]
      cases hp : ts.all (keepP (l.take k ++ l.drop (k + 1)))
      · rw [Bool.not_false, br_true, coftk_v (by omega) (by omega)]
        simp only [Option.bind_some]
        have : (ts.any fun x => decide (x.1 = l.getD k 0)) = true := by
          rw [List.all_eq_false] at hp
          obtain ⟨x, hx, h2⟩ := hp
          rw [List.any_eq_true]
          exact ⟨x, hx, by rw [decide_eq_true_eq]; exact keep_del c (List.all_eq_true.1 hk x hx) (by simpa using h2)⟩
        rw [this, Bool.not_true, br_false, chk_eq (by omega), ih]
      · rw [Bool.not_true, br_false, chk_eq (by omega), ih]
    · rw [br_ndec (by omega)]
/-! ### The rounds -/
theorem tkept_l1_p {wt e : Int} {least spare : List Int} (hN : 110 ≤ N) (hF : TFine ws ts br_)
    (hL : e = 0 ∧ LeastW ws.length (goodP ws ts wt) least ∨ e ≠ 0 ∧ ∀ c, okC ws.length 0 c → c ≠ [] → goodP ws ts wt c = false) : ∀ (n k : Nat) (b2 b3 : Int), 8 < n + k → k ≤ 8 → Bell b b2 →
    Ok (tkept_l1 N n wt least e spare k ws ts br_ b b2 b3) fun z => z = .inr (.inr (spare, ws, ts, br_))
  | 0, k, b2, b3, h, _, _ => by omega
  | n + 1, k, b2, b3, h, hk, hb => by
    have ht := hF.t; have hn := hF.n
    unfold tkept_l1
    refine Ok.brd (fun c => ?_) (fun c => Ok.some rfl)
    refine Ok.bind (strike_ok N hb (by omega)) ?_
    rintro ⟨often, d1, d2, d3⟩ ⟨hoften, hc, hb1⟩
    dsimp only at hoften hc hb1 ⊢
    obtain rfl := hc.symm
    have e2 := tkept_l2_p (N := N) (ws := ws) (ts := ts) (br_ := br_) (b := b) (wt := wt) (e := e) (often := often) (u := k) (least := least) (spare := spare) (by omega) hn N 0 d2 d3 [] (by omega) (by omega) hb1 trivial
    simp only [Int.natCast_zero] at e2
    refine Ok.bind e2 ?_
    rintro z ⟨q2, q3, l, rfl, hb2, hl⟩
    dsimp only
    have hll : l.length ≤ 12 := by
      by_cases e : l = []
      · subst e; simp
      · have := okC_len hl e; omega
    have hj : ∀ b2 b3, Bell b b2 → Ok (tkept_j3 N (tkept_l1 N n) wt least e spare k ws ts br_ b b2 b3) fun z => z = .inr (.inr (spare, ws, ts, br_)) := by
      intro b2 b3 hb
      have ih := tkept_l1_p (spare := spare) hN hF hL n (k + 1) b2 b3 (by omega) (by omega) hb
      rw [show ((k + 1 : Nat) : Int) = (k : Int) + 1 by omega] at ih
      unfold tkept_j3
      exact Ok.chk (by omega) ih
    refine Ok.brd (fun _ => hj _ _ hb2) (fun c2 => ?_)
    have h0 : l ≠ [] := by intro e; subst e; simp at c2
    have hasc := okC_asc hl
    have hin : inW ws l := okC_mem hl
    have hk0 := keptE_of (checkT_of hF) h0 hin hasc
    have e3 := fun is n' f kp u => tkept_l3_p (N := N) (ws := ws) (ts := ts) (br_ := br_) (wt := wt) (e := e) (u := u) (n' := n') (f := f) (least := least) (spare := spare) (is := is) (kp := kp) (q := b) (q2 := q2) (q3 := q3) hF (l := l) (by omega) hin N 0 0 (by omega) (by omega) (by omega)
    have e4 := fun is n' f s u => tkept_l4_p (N := N) (ws := ws) (ts := ts) (br_ := br_) (wt := wt) (e := e) (u := u) (n' := n') (f := f) (s := s) (least := least) (spare := spare) (is := is) (q := b) (q2 := q2) (q3 := q3) (l := l) (by omega) hN hF N 0 true (by omega) (by omega)
    simp only [Int.natCast_zero, List.drop_zero, Int.zero_add, Bool.true_and] at e3 e4
    rw [lkeeps_v hN (by omega) (by omega) (by omega)]
    unfold keepsR
    rw [hk0, if_neg (by simp)]
    simp only [Option.bind_some]
    rw [e3]
    simp only [Option.bind_some]
    rw [e4]
    simp only [Option.bind_some]
    rw [br_nd (by first | trivial | rfl), beq_self_eq_true, Bool.not_true, br_false, br_nd (by rfl)]
    have rest : ts.all (keepP l) = true → Ok (br (decide ((l.length : Int) < 2)) (tkept_j3 N (tkept_l1 N n) wt least e spare k ws ts br_ b q2 q3)
        ((tkept_l6 N N wt least e spare l k l (l.length : Int) 0 ws ts br_ b q2 q3).bind fun e => match e with
        | .inl _ => some (.inr (.inl ()))
        | .inr (weight_114, least_115, e_116, spare_117, u_118, t_119, t2_120, t3_121, q_122, q2_123, q3_124) =>
          tkept_j3 N (tkept_l1 N n) weight_114 least_115 e_116 spare_117 u_118 t_119 t2_120 t3_121 q_122 q2_123 q3_124)) fun z => z = .inr (.inr (spare, ws, ts, br_)) := by
      intro hkeep
      refine Ok.brd (fun _ => hj _ _ hb2) (fun c3 => ?_)
      have e6 := tkept_l6_p (N := N) (ws := ws) (ts := ts) (br_ := br_) (wt := wt) (e := e) (u := k) (least := least) (spare := spare) (q := b) (q2 := q2) (q3 := q3) hl (by omega) hN hF hkeep N 0 (by omega) (by omega)
      simp only [Int.natCast_zero] at e6
      rw [e6]
      exact hj _ _ hb2
    cases hkeep : ts.all (keepP l)
    · rw [br_false, Bool.not_false, br_true]
      exact hj _ _ hb2
    rw [br_true]
    simp only [Bool.not_true, br_false]
    have hr := rest hkeep
    refine Ok.brd (fun c3 => ?_) (fun _ => hr)
    have hg : goodP ws ts wt l = true := by
      unfold goodP
      rw [hkeep, Bool.and_true, decide_eq_true_eq]
      exact c3
    rcases hL with ⟨he, hL⟩ | ⟨he, hL⟩
    rotate_left
    · have := hL l hl h0
      rw [hg] at this; cases this
    have hcmp := hL.2.2.2 l hl h0 hg
    rw [br_nd he, br_ndec (by omega)]
    refine Ok.brd (fun c4 => ?_) (fun _ => hr)
    obtain ⟨x, ex, hx⟩ := comparei_v (N := N) (a := l) (b := least) (by omega) (by omega) (by omega)
    rw [ex]
    simp only [Option.bind_some]
    have : bef l least = false := by
      rcases hcmp with h | ⟨_, h⟩
      · omega
      · exact h
    rw [hx, this, br_false]
    exact hr
theorem tkept_l8_p {w : Nat} {u u2 : Int} {spare : List Int} (hn : ws.length ≤ 12) (hw : w < ws.length) : ∀ (n k : Nat), ws.length < n + k → k ≤ ws.length →
    tkept_l8 N n spare w u u2 ws.length k ws ts br_ (wordsL 0 (min k w : Nat) ++ wordsL (w + 1) k) = some (spare, (w : Int), u, u2, ws, ts, br_, butL ws.length w)
  | 0, k, h, _ => by omega
  | n + 1, k, h, hk => by
    unfold tkept_l8
    by_cases c : k < ws.length
    · have ih := tkept_l8_p (u := u) (u2 := u2) (spare := spare) hn hw n (k + 1) (by omega) (by omega)
      have hj : ∀ O, O = wordsL 0 (min (k + 1) w : Nat) ++ wordsL (w + 1) ((k : Int) + 1) → tkept_j4 N (tkept_l8 N n) spare w u u2 ws.length k ws ts br_ O = some (spare, (w : Int), u, u2, ws, ts, br_, butL ws.length w) := by
        rintro O rfl
        rw [show ((k + 1 : Nat) : Int) = (k : Int) + 1 by omega] at ih
        unfold tkept_j4
        rw [chk_eq (by omega), ih]
      rw [br_dec (by omega)]
      by_cases d : (k : Int) = w
      · rw [br_nd d, hj]
        rw [show min (k + 1) w = min k w by omega, wordsL_nil (a := (w : Int) + 1) (b := (k : Int)) (by omega), wordsL_nil (a := (w : Int) + 1) (b := (k : Int) + 1) (by omega)]
      · rw [br_nnd d, lim_eq (by simp [wordsL_len]; omega), hj]
        by_cases e : k < w
        · rw [show min (k + 1) w = k + 1 by omega, show min k w = k by omega, wordsL_nil (a := (w : Int) + 1) (b := (k : Int)) (by omega), wordsL_nil (a := (w : Int) + 1) (b := (k : Int) + 1) (by omega), show ((k + 1 : Nat) : Int) = (k : Int) + 1 by omega, wordsL_snoc (by omega)]; simp
        · rw [show min (k + 1) w = w by omega, show min k w = w by omega, wordsL_snoc (a := (w : Int) + 1) (b := (k : Int)) (by omega)]; simp
    · rw [br_ndec (by omega)]
      obtain rfl : k = ws.length := by omega
      rw [show min ws.length w = w by omega]; rfl
theorem butL_okC {m w : Int} (h : 0 ≤ w ∧ w < m) : okC m 0 (butL m w) := by
  refine okC_of (ascB_of fun i hi => ?_) (fun x hx => ?_)
  · have hlen := butL_len h
    have g : ∀ i : Nat, (i : Int) < m - 1 → (butL m w).getD i 0 = if (i : Int) < w then (i : Int) else i + 1 := by
      intro i hi
      unfold butL
      have e0 : (wordsL 0 w).length = w.toNat := by rw [wordsL_len]; omega
      by_cases c : (i : Int) < w
      · rw [if_pos c]
        have : (wordsL 0 w ++ wordsL (w + 1) m).getD i 0 = (wordsL 0 w).getD i 0 := by
          simp only [List.getD]
          rw [List.getElem?_append_left (by omega)]
        rw [this, wordsL_get (by omega)]; omega
      · rw [if_neg c]
        have : (wordsL 0 w ++ wordsL (w + 1) m).getD i 0 = (wordsL (w + 1) m).getD (i - w.toNat) 0 := by
          simp only [List.getD]
          rw [List.getElem?_append_right (by omega), e0]
        rw [this, wordsL_get (by omega)]; omega
    rw [g i (by omega), g (i + 1) (by omega)]
    split <;> split <;> omega
  · unfold butL at hx
    rw [List.mem_append, mem_wordsL, mem_wordsL] at hx
    omega
theorem spareK_has {w : Nat} (hw : w < ws.length) : (spareK ws ts ws.length).contains (w : Int) = (decide (1 < ws.length) && ts.all (keepP (butL ws.length w))) := by
  rw [Bool.eq_iff_iff, List.contains_iff_mem]
  unfold spareK
  simp only [List.mem_map, List.mem_filter, List.mem_range]
  constructor
  · rintro ⟨a, ⟨_, h2⟩, h3⟩
    obtain rfl : a = w := by omega
    exact h2
  · intro h
    exact ⟨w, ⟨hw, h⟩, rfl⟩
theorem tkept_l7_p (hN : 110 ≤ N) (hF : TFine ws ts br_) : ∀ (n k : Nat), ws.length < n + k → k ≤ ws.length → tkept_l7 N n (spareK ws ts ws.length) ws.length k ws ts br_ = some (.inr ())
  | 0, k, h, _ => by omega
  | n + 1, k, h, hk => by
    have ht := hF.t; have hn := hF.n
    unfold tkept_l7
    by_cases c : k < ws.length
    · have ih := tkept_l7_p hN hF n (k + 1) (by omega) (by omega)
      rw [show ((k + 1 : Nat) : Int) = (k : Int) + 1 by omega] at ih
      have e := tkept_l8_p (N := N) (ws := ws) (ts := ts) (br_ := br_) (w := k) (u := ws.length) (u2 := k) (spare := spareK ws ts ws.length) hn c N 0 (by omega) (by omega)
      rw [show min 0 k = 0 by omega, Int.natCast_zero, wordsL_nil (by omega), wordsL_nil (by omega), List.append_nil] at e
      have hb := butL_len (m := ws.length) (w := k) (by omega)
      have hbo := butL_okC (m := ws.length) (w := k) (by omega)
      have hsl := spareK_len ws ts ws.length
      rw [br_dec (by omega), e]
      simp only [Option.bind_some]
      rw [lkeeps_v hN (by omega) (by omega) (by omega)]
      unfold keepsR
      simp only [Option.bind_some]
      by_cases d : 1 < ws.length
      · have hk0 := keptE_of (checkT_of hF) (l := butL ws.length k) (by intro e; rw [e] at hb; simp at hb; omega) (okC_mem hbo) (okC_asc hbo)
        rw [hk0, if_neg (by simp)]
        simp only
        rw [br_dec (by first | trivial | rfl), containsi_v (by omega) (by omega)]
        simp only [Option.bind_some]
        rw [spareK_has c, decide_eq_true d, Bool.true_and, beq_self_eq_true, Bool.not_true, br_false, chk_eq (by omega), ih]
      · have hk2 : keptE ws ts br_ (butL ws.length k) = 2 := by
          unfold keptE
          rw [checkT_of hF, if_neg (by simp), if_pos (by omega)]
        rw [hk2, if_pos (by decide)]
        simp only
        rw [br_ndec (by decide), containsi_v (by omega) (by omega)]
        simp only [Option.bind_some]
        rw [spareK_has c, decide_eq_false d, Bool.false_and, beq_self_eq_true, Bool.not_true, br_false, chk_eq (by omega), ih]
    · rw [br_ndec (by omega)]
end
theorem tkept_true {ns qs : List Int} {p : Int} (h1 : Ty.inB (.sl (.int .u8)) ns) (h2 : Ty.inB (.sl (.int .u8)) qs) (h3 : Ty.inB (.int .u8) p) : tkept_S 1100 ns qs p = some true := by
  have aw : Ok ((awake_S 1100).bind fun x => some x) (· = true) := by rw [awake_v]; exact ⟨_, rfl, rfl⟩
  have l1 : ns.length ≤ 9223372036854775807 := h1.1
  have l2 : qs.length ≤ 9223372036854775807 := h2.1
  have p0 : 0 ≤ p ∧ p < 256 := by
    exact u8_in h3
  suffices hs : Ok (tkept_S 1100 ns qs p) (· = true) by
    obtain ⟨r, e, rfl⟩ := hs
    exact e
  unfold tkept_S hang_S
  simp only [Option.bind_some]
  obtain ⟨⟨ws, ts, br_, b, b2, b3⟩, em, hF, hm, hb⟩ := made_v (N := 1100) (b := ns) (by omega) (words := 9) (turns := 3) (b2 := 0) (b3 := 0) (by omega) (by omega) ⟨l1, by omega, by omega⟩
  dsimp only at hF hm hb
  rw [em]
  simp only [Option.bind_some]
  have hn := hF.n; have ht := hF.t; have hn0 := hF.n0
  have c0 := checkT_of hF
  have hq : Bell qs 0 := ⟨l2, by omega, by omega⟩
  rw [IntWalk.i64_in _ (by omega), Int.tmod_eq_emod_of_nonneg (by omega)]
  have hpp : 0 ≤ p % 40 ∧ p % 40 < 40 := by omega
  generalize p % 40 = wt at hpp ⊢
  obtain ⟨least, e, q1, r1⟩ := least_v (N := 1100) (ws := ws) (ts := ts) (br_ := br_) (wt := wt) (by omega) (by omega) (by omega)
  unfold LeastQ at r1
  rw [if_neg (by simpa using c0), if_neg (by omega)] at r1
  rw [q1]
  simp only [Option.bind_some]
  have fin : (e = 0 ∧ LeastW ws.length (goodP ws ts wt) least ∨ e ≠ 0 ∧ ∀ c, okC ws.length 0 c → c ≠ [] → goodP ws ts wt c = false) → Ok (tkept_j1 1100 wt least e ws ts br_ qs 0 0) (· = true) := by
    intro hL
    unfold tkept_j1
    rw [spare_v (by omega) (by omega) (by omega)]
    unfold spareR
    rw [if_neg (by simpa using c0)]
    simp only [Option.bind_some]
    rw [br_nd (by first | trivial | rfl)]
    have e1 := tkept_l1_p (N := 1100) (b := qs) (spare := spareK ws ts ws.length) (by omega) hF hL 1100 0 0 0 (by omega) (by omega) hq
    simp only [Int.natCast_zero] at e1
    refine Ok.bind e1 ?_
    rintro z rfl
    dsimp only
    have e7 := tkept_l7_p (N := 1100) (by omega) hF 1100 0 (by omega) (by omega)
    simp only [Int.natCast_zero] at e7
    rw [e7]
    exact aw
  rcases r1 with ⟨he, hL⟩ | ⟨⟨he, _⟩, hL⟩
  · have hk0 := keptE_of c0 hL.2.1 (okC_mem hL.1) (okC_asc hL.1)
    have hlen := okC_len hL.1 hL.2.1
    have hg := hL.2.2.1
    unfold goodP at hg
    rw [Bool.and_eq_true, decide_eq_true_eq] at hg
    rw [br_dec he, lkeeps_v (by omega) (by omega) (by omega) (by omega)]
    unfold keepsR
    rw [hk0, if_neg (by simp)]
    simp only [Option.bind_some]
    rw [br_nd (by first | trivial | rfl), hg.2, Bool.not_true, br_false, br_ndec (by omega)]
    exact fin (.inl ⟨he, hL⟩)
  · rw [br_ndec (by omega), br_nd he]
    exact fin (.inr ⟨by omega, hL⟩)
end Go.Proofs.Ytfamlpbdhhikdaa

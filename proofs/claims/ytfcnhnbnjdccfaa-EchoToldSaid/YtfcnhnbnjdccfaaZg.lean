/-
  Parts of a proof, put together: E7, Pl29, E8, Pl31, Pl32, Pl33, Pl34, Pl24, Pl25, Pl26.
  Conditions: none.
-/
import Derived.Test.YtfcnhnbnjdccfaaZf
namespace Go.Proofs.Ytfcnhnbnjdccfaa
set_option linter.all false
open Go

def bound_j4 (N : Nat) (d : Qa) (i : Int) (a : Int) (b : Int) (n : Int) (g : List Int) : Option (Int × List Int) :=
 br (decide (0 < i))
  (br (decide (0 < b))
   (chk (i - 1) <|
   idx d.2.1 (i - 1) fun x_7 =>
   chk (b - 1) <|
   idx d.2.2.2.2 (b - 1) fun x_8 =>
   br (decide (x_7 = x_8))
    (chk (i - 1) <|
    chk (b - 1) <|
    rng (i - 1) 11 <|
    rng a 7 <|
    rng (b - 1) 7 <|
    get g ((((i - 1).toNat * 49) + a.toNat * 7) + (b - 1).toNat) fun x_9 =>
    some ((min n x_9), g))
    (some (n, g)))
   (some (n, g)))
  (some (n, g))
def bound_j3 (N : Nat) (d : Qa) (i : Int) (a : Int) (b : Int) (n : Int) (g : List Int) : Option (Int × List Int) :=
 br (decide (0 < i))
  (br (decide (0 < a))
   (chk (i - 1) <|
   idx d.2.1 (i - 1) fun x_4 =>
   chk (a - 1) <|
   idx d.2.2.2.1 (a - 1) fun x_5 =>
   br (decide (x_4 = x_5))
    (chk (i - 1) <|
    chk (a - 1) <|
    rng (i - 1) 11 <|
    rng (a - 1) 7 <|
    rng b 7 <|
    get g ((((i - 1).toNat * 49) + (a - 1).toNat * 7) + b.toNat) fun x_6 =>
    bound_j4 N d i a b (min n x_6) g)
    (bound_j4 N d i a b n g))
   (bound_j4 N d i a b n g))
  (bound_j4 N d i a b n g)
def bound_j2 (N : Nat) (d : Qa) (i : Int) (a : Int) (b : Int) (n : Int) (g : List Int) : Option (Int × List Int) :=
 br (decide (0 < b))
  (chk (b - 1) <|
  rng i 11 <|
  rng a 7 <|
  rng (b - 1) 7 <|
  get g (((i.toNat * 49) + a.toNat * 7) + (b - 1).toNat) fun x_3 =>
  chk (x_3 + 1) <|
  bound_j3 N d i a b (min n (x_3 + 1)) g)
  (bound_j3 N d i a b n g)
def bound_j1 (N : Nat) (d : Qa) (i : Int) (a : Int) (b : Int) (n : Int) (g : List Int) : Option (Int × List Int) :=
 br (decide (0 < a))
  (chk (a - 1) <|
  rng i 11 <|
  rng (a - 1) 7 <|
  rng b 7 <|
  get g (((i.toNat * 49) + (a - 1).toNat * 7) + b.toNat) fun x_2 =>
  chk (x_2 + 1) <|
  bound_j2 N d i a b (min n (x_2 + 1)) g)
  (bound_j2 N d i a b n g)
def bound_S (N : Nat) (d : Qa) (i : Int) (a : Int) (b : Int) (g : List Int) : Option (Int × List Int) :=
 chk (i + a) <|
 chk ((i + a) + b) <|
 br (decide (((i + a) + b) = 0))
  (some (0, g))
  (br (decide (0 < i))
   (chk (i - 1) <|
   rng (i - 1) 11 <|
   rng a 7 <|
   rng b 7 <|
   get g ((((i - 1).toNat * 49) + a.toNat * 7) + b.toNat) fun x_1 =>
   chk (x_1 + 1) <|
   bound_j1 N d i a b (min 99 (x_1 + 1)) g)
   (bound_j1 N d i a b 99 g))
noncomputable def bound_sp (N : Nat) : List Spec := []
theorem bound_all (N : Nat) : AllP (SpecOK Try.prog) (bound_sp N) := trivial
noncomputable def bound_c : Code := (Try.f110.body).getD .skip
noncomputable abbrev bound_B : Body := { c := bound_c, n := 142, res := [.tmp 10], outs := [⟨[.i .i64], [.segs [.arr (.int .i64) 539]]⟩], m0 := 1 }
abbrev bound_rt : altD bound_B.outs → Option (Int × List Int) := fun r => some (r.1.1, r.2.1.1)
abbrev bound_j4_at : List PI := [.c [1, 1, 1, 1, 1, 1, 1, 0, 0], .c [1, 1, 1, 1, 1, 1, 1, 0, 1], .c [1, 1, 1, 1, 1, 1, 1, 1]]
abbrev bound_j4_st : Sta := ⟨[0, 1, 2, 3, 4, 11], ⟨[.fe Qb, .own 0 0, .i .i64, .i .i64, .i .i64, .i .i64], [.segs [.arr (.int .i64) 539]]⟩⟩
abbrev bound_j4_k (N : Nat) : Leaf (Int × List Int) := ⟨bound_j4_at, bound_j4_st, fun p => bound_j4 N p.1.1 p.1.2.2.1 p.1.2.2.2.1 p.1.2.2.2.2.1 p.1.2.2.2.2.2.1 p.2.1.1⟩
theorem bound_j4_eq (N : Nat) (d : Qa) (i : Int) (a : Int) (b : Int) (n : Int) (g : List Int) : ev (Z := Int × List Int) Try.prog (bound_sp N) bound_B [] [] (some bound_rt) 400 true bound_j4_at (stL bound_j4_st ((d, (), i, a, b, n, ()), ((g, ()), ()))) (stH bound_j4_st ((d, (), i, a, b, n, ()), ((g, ()), ()))) = bound_j4 N d i a b n g := by kernel_rfl
theorem bound_j4_lf (N : Nat) {z : Int × List Int} {E : EE} {Xc : Ctx} (hE : EOK bound_B.m0 E) (hX : CxOK true Xc) (hret : RetOK Try.prog bound_B E Xc z (some bound_rt)) : LeafOK Try.prog bound_B.c bound_B.n bound_B.m0 E Xc z (bound_j4_k N) := leaf_of_ev (B := bound_B) (loops := []) (leaves := []) (bound_all N) mixed trivial hE hX trivial hret (fun p => bound_j4_eq N p.1.1 p.1.2.2.1 p.1.2.2.2.1 p.1.2.2.2.2.1 p.1.2.2.2.2.2.1 p.2.1.1)
abbrev bound_j3_at : List PI := [.c [1, 1, 1, 1, 1, 1, 0, 0], .c [1, 1, 1, 1, 1, 1, 0, 1], .c [1, 1, 1, 1, 1, 1, 1]]
abbrev bound_j3_st : Sta := ⟨[0, 1, 2, 3, 4, 11], ⟨[.fe Qb, .own 0 0, .i .i64, .i .i64, .i .i64, .i .i64], [.segs [.arr (.int .i64) 539]]⟩⟩
abbrev bound_j3_k (N : Nat) : Leaf (Int × List Int) := ⟨bound_j3_at, bound_j3_st, fun p => bound_j3 N p.1.1 p.1.2.2.1 p.1.2.2.2.1 p.1.2.2.2.2.1 p.1.2.2.2.2.2.1 p.2.1.1⟩
theorem bound_j3_eq (N : Nat) (d : Qa) (i : Int) (a : Int) (b : Int) (n : Int) (g : List Int) : ev (Z := Int × List Int) Try.prog (bound_sp N) bound_B [] [bound_j4_k N] (some bound_rt) 400 true bound_j3_at (stL bound_j3_st ((d, (), i, a, b, n, ()), ((g, ()), ()))) (stH bound_j3_st ((d, (), i, a, b, n, ()), ((g, ()), ()))) = bound_j3 N d i a b n g := by kernel_rfl
theorem bound_j3_lf (N : Nat) {z : Int × List Int} {E : EE} {Xc : Ctx} (hE : EOK bound_B.m0 E) (hX : CxOK true Xc) (hret : RetOK Try.prog bound_B E Xc z (some bound_rt)) : LeafOK Try.prog bound_B.c bound_B.n bound_B.m0 E Xc z (bound_j3_k N) := leaf_of_ev (B := bound_B) (loops := []) (leaves := [bound_j4_k N]) (bound_all N) mixed trivial hE hX ⟨bound_j4_lf N hE hX hret, trivial⟩ hret (fun p => bound_j3_eq N p.1.1 p.1.2.2.1 p.1.2.2.2.1 p.1.2.2.2.2.1 p.1.2.2.2.2.2.1 p.2.1.1)
abbrev bound_j2_at : List PI := [.c [1, 1, 1, 1, 1, 0, 0], .c [1, 1, 1, 1, 1, 0, 1], .c [1, 1, 1, 1, 1, 1]]
abbrev bound_j2_st : Sta := ⟨[0, 1, 2, 3, 4, 11], ⟨[.fe Qb, .own 0 0, .i .i64, .i .i64, .i .i64, .i .i64], [.segs [.arr (.int .i64) 539]]⟩⟩
abbrev bound_j2_k (N : Nat) : Leaf (Int × List Int) := ⟨bound_j2_at, bound_j2_st, fun p => bound_j2 N p.1.1 p.1.2.2.1 p.1.2.2.2.1 p.1.2.2.2.2.1 p.1.2.2.2.2.2.1 p.2.1.1⟩
theorem bound_j2_eq (N : Nat) (d : Qa) (i : Int) (a : Int) (b : Int) (n : Int) (g : List Int) : ev (Z := Int × List Int) Try.prog (bound_sp N) bound_B [] [bound_j4_k N, bound_j3_k N] (some bound_rt) 400 true bound_j2_at (stL bound_j2_st ((d, (), i, a, b, n, ()), ((g, ()), ()))) (stH bound_j2_st ((d, (), i, a, b, n, ()), ((g, ()), ()))) = bound_j2 N d i a b n g := by kernel_rfl
theorem bound_j2_lf (N : Nat) {z : Int × List Int} {E : EE} {Xc : Ctx} (hE : EOK bound_B.m0 E) (hX : CxOK true Xc) (hret : RetOK Try.prog bound_B E Xc z (some bound_rt)) : LeafOK Try.prog bound_B.c bound_B.n bound_B.m0 E Xc z (bound_j2_k N) := leaf_of_ev (B := bound_B) (loops := []) (leaves := [bound_j4_k N, bound_j3_k N]) (bound_all N) mixed trivial hE hX ⟨bound_j4_lf N hE hX hret, bound_j3_lf N hE hX hret, trivial⟩ hret (fun p => bound_j2_eq N p.1.1 p.1.2.2.1 p.1.2.2.2.1 p.1.2.2.2.2.1 p.1.2.2.2.2.2.1 p.2.1.1)
abbrev bound_j1_at : List PI := [.c [1, 1, 1, 1, 0, 0], .c [1, 1, 1, 1, 0, 1], .c [1, 1, 1, 1, 1]]
abbrev bound_j1_st : Sta := ⟨[0, 1, 2, 3, 4, 11], ⟨[.fe Qb, .own 0 0, .i .i64, .i .i64, .i .i64, .i .i64], [.segs [.arr (.int .i64) 539]]⟩⟩
abbrev bound_j1_k (N : Nat) : Leaf (Int × List Int) := ⟨bound_j1_at, bound_j1_st, fun p => bound_j1 N p.1.1 p.1.2.2.1 p.1.2.2.2.1 p.1.2.2.2.2.1 p.1.2.2.2.2.2.1 p.2.1.1⟩
theorem bound_j1_eq (N : Nat) (d : Qa) (i : Int) (a : Int) (b : Int) (n : Int) (g : List Int) : ev (Z := Int × List Int) Try.prog (bound_sp N) bound_B [] [bound_j4_k N, bound_j3_k N, bound_j2_k N] (some bound_rt) 400 true bound_j1_at (stL bound_j1_st ((d, (), i, a, b, n, ()), ((g, ()), ()))) (stH bound_j1_st ((d, (), i, a, b, n, ()), ((g, ()), ()))) = bound_j1 N d i a b n g := by kernel_rfl
theorem bound_j1_lf (N : Nat) {z : Int × List Int} {E : EE} {Xc : Ctx} (hE : EOK bound_B.m0 E) (hX : CxOK true Xc) (hret : RetOK Try.prog bound_B E Xc z (some bound_rt)) : LeafOK Try.prog bound_B.c bound_B.n bound_B.m0 E Xc z (bound_j1_k N) := leaf_of_ev (B := bound_B) (loops := []) (leaves := [bound_j4_k N, bound_j3_k N, bound_j2_k N]) (bound_all N) mixed trivial hE hX ⟨bound_j4_lf N hE hX hret, bound_j3_lf N hE hX hret, bound_j2_lf N hE hX hret, trivial⟩ hret (fun p => bound_j1_eq N p.1.1 p.1.2.2.1 p.1.2.2.2.1 p.1.2.2.2.2.1 p.1.2.2.2.2.2.1 p.2.1.1)
abbrev bound_st : Sta := ⟨[0, 1, 2, 3, 4], ⟨[.fe Qb, .own 0 0, .i .i64, .i .i64, .i .i64], [.segs [.arr (.int .i64) 539]]⟩⟩
theorem bound_eq (N : Nat) (d : Qa) (i : Int) (a : Int) (b : Int) (g : List Int) : ev (Z := Int × List Int) Try.prog (bound_sp N) bound_B [] [bound_j4_k N, bound_j3_k N, bound_j2_k N, bound_j1_k N] (some bound_rt) 400 false [.c [0], .c [1]] (stL bound_st ((d, (), i, a, b, ()), ((g, ()), ()))) (stH bound_st ((d, (), i, a, b, ()), ((g, ()), ()))) = bound_S N d i a b g := by kernel_rfl
noncomputable def sp_bound (N : Nat) : Spec := { f := 110, ins := ⟨[.fe Qb, .own 0 0, .i .i64, .i .i64, .i .i64], [.segs [.arr (.int .i64) 539]]⟩, outs := [⟨[.i .i64], [.segs [.arr (.int .i64) 539]]⟩], run := fun p k => (bound_S N p.1.1 p.1.2.2.1 p.1.2.2.2.1 p.1.2.2.2.2.1 p.2.1.1).bind fun r => k ((r.1, ()), ((r.2, ()), ())) }
theorem sp_bound_ok (N : Nat) : SpecOK Try.prog (sp_bound N) := fn_sound (B := bound_B) (loops := []) (leaves := [bound_j4_k N, bound_j3_k N, bound_j2_k N, bound_j1_k N]) (fun p => bound_S N p.1.1 p.1.2.2.1 p.1.2.2.2.1 p.1.2.2.2.2.1 p.2.1.1) (fun r => ((r.1, ()), ((r.2, ()), ()))) bound_rt (fun _ _ _ => rfl) (fun r z h => by cases h; rfl) Try.func110 (by kernel_rfl) (by kernel_rfl) (by kernel_rfl) rfl rfl (by kernel_rfl) (fun args w => Sem.pv_run _ _ _ (by kernel_rfl) w) (bound_all N) mixed trivial (fun z E Xc hE hX hret => ⟨bound_j4_lf N hE hX hret, bound_j3_lf N hE hX hret, bound_j2_lf N hE hX hret, bound_j1_lf N hE hX hret, trivial⟩) (fun p => bound_eq N p.1.1 p.1.2.2.1 p.1.2.2.2.1 p.1.2.2.2.2.1 p.2.1.1)

def shows11_S (N : Nat) (k : List Int) (u : Qa) : Option Bool :=
 chk ((u.2.2.2.2.length : Int) + 1) <|
 some (decide ((k.length : Int) = ((u.2.2.2.2.length : Int) + 1)))
noncomputable def shows11_sp (N : Nat) : List Spec := []
theorem shows11_all (N : Nat) : AllP (SpecOK Try.prog) (shows11_sp N) := trivial
noncomputable def shows11_c : Code := (Try.f106.body).getD .skip
noncomputable abbrev shows11_B : Body := { c := shows11_c, n := 13, res := [.tmp 3], outs := [⟨[.b], []⟩], m0 := 0 }
abbrev shows11_rt : altD shows11_B.outs → Option Bool := fun r => some r.1.1
abbrev shows11_st : Sta := ⟨[0, 1], ⟨[.sl (.int .i64), .fe Qz], []⟩⟩
theorem shows11_eq (N : Nat) (k : List Int) (u : Qa) : ev (Z := Bool) Try.prog (shows11_sp N) shows11_B [] [] (some shows11_rt) 400 false [.c [0], .c [1]] (stL shows11_st ((k, u, ()), ())) (stH shows11_st ((k, u, ()), ())) = shows11_S N k u := by kernel_rfl
noncomputable def sp_shows11 (N : Nat) : Spec := { f := 106, ins := ⟨[.sl (.int .i64), .fe Qz], []⟩, outs := [⟨[.b], []⟩], run := fun p k => (shows11_S N p.1.1 p.1.2.1).bind fun r => k ((r, ()), ()) }
theorem sp_shows11_ok (N : Nat) : SpecOK Try.prog (sp_shows11 N) := fn_sound (B := shows11_B) (loops := []) (leaves := []) (fun p => shows11_S N p.1.1 p.1.2.1) (fun r => ((r, ()), ())) shows11_rt (fun _ _ _ => rfl) (fun r z h => by cases h; rfl) Try.func106 (by kernel_rfl) (by kernel_rfl) (by kernel_rfl) rfl rfl (by kernel_rfl) (fun args w => Sem.pv_run _ _ _ (by kernel_rfl) w) (shows11_all N) mixed trivial (fun z E Xc hE hX hret => trivial) (fun p => shows11_eq N p.1.1 p.1.2.1)

def every1g_S (N : Nat) (x : List Int) (g : Qa) : Option (Bool × Qa) :=
 (shows11_S N x g).bind fun x_1 =>
 some ((!x_1), g)
noncomputable def every1g_sp (N : Nat) : List Spec := [sp_shows11 N]
theorem every1g_all (N : Nat) : AllP (SpecOK Try.prog) (every1g_sp N) := ⟨sp_shows11_ok N, trivial⟩
noncomputable def every1g_c : Code := (Try.f126.body).getD .skip
noncomputable abbrev every1g_B : Body := { c := every1g_c, n := 8, res := [.tmp 3], outs := [⟨[.b], [.segs [.fn 106 [] [.fe Qz]]]⟩], m0 := 1 }
abbrev every1g_rt : altD every1g_B.outs → Option (Bool × Qa) := fun r => some (r.1.1, r.2.1.1.2.1)
abbrev every1g_st : Sta := ⟨[0, 1], ⟨[.sl (.int .i64), .own 0 0], [.segs [.fn 106 [] [.fe Qz]]]⟩⟩
theorem every1g_eq (N : Nat) (x : List Int) (g : Qa) : ev (Z := Bool × Qa) Try.prog (every1g_sp N) every1g_B [] [] (some every1g_rt) 400 false [.c [0], .c [1]] (stL every1g_st ((x, (), ()), ((((), (g, ())), ()), ()))) (stH every1g_st ((x, (), ()), ((((), (g, ())), ()), ()))) = every1g_S N x g := by kernel_rfl
noncomputable def sp_every1g (N : Nat) : Spec := { f := 126, ins := ⟨[.sl (.int .i64), .own 0 0], [.segs [.fn 106 [] [.fe Qz]]]⟩, outs := [⟨[.b], [.segs [.fn 106 [] [.fe Qz]]]⟩], run := fun p k => (every1g_S N p.1.1 p.2.1.1.2.1).bind fun r => k ((r.1, ()), ((((), (r.2, ())), ()), ())) }
theorem sp_every1g_ok (N : Nat) : SpecOK Try.prog (sp_every1g N) := fn_sound (B := every1g_B) (loops := []) (leaves := []) (fun p => every1g_S N p.1.1 p.2.1.1.2.1) (fun r => ((r.1, ()), ((((), (r.2, ())), ()), ()))) every1g_rt (fun _ _ _ => rfl) (fun r z h => by cases h; rfl) Try.func126 (by kernel_rfl) (by kernel_rfl) (by kernel_rfl) rfl rfl (by kernel_rfl) (fun args w => Sem.pv_run _ _ _ (by kernel_rfl) w) (every1g_all N) mixed trivial (fun z E Xc hE hX hret => trivial) (fun p => every1g_eq N p.1.1 p.2.1.1.2.1)

def ixfg_l1 (N : Nat) : Nat → Qj → Int → Int → (Qa) → Option ((Int × Qa) ⊕ (Qa))
 | 0, _, _, _, _ => none
 | n_ + 1, s, u, u2, f =>
  br (decide (u2 < u))
   (idx s u2 fun x_1 =>
   (every1g_S N x_1 f).bind fun (x_2, y_3) =>
   br x_2
    (some (.inl (u2, y_3)))
    (chk (u2 + 1) <|
    ixfg_l1 N n_ s u (u2 + 1) y_3))
   (some (.inr f))
def ixfg_S (N : Nat) (s : List Qe) (f : Qa) : Option (Int × Qa) :=
 (ixfg_l1 N N s (s.length : Int) 0 f).bind fun e => match e with
 | .inl (i_4, g_5) =>
  some (i_4, g_5)
 | .inr g_6 =>
  some (-1, g_6)
noncomputable def ixfg_sp (N : Nat) : List Spec := [sp_every1g N]
theorem ixfg_all (N : Nat) : AllP (SpecOK Try.prog) (ixfg_sp N) := ⟨sp_every1g_ok N, trivial⟩
noncomputable def ixfg_c : Code := (Try.f132.body).getD .skip
noncomputable abbrev ixfg_B : Body := { c := ixfg_c, n := 19, res := [.tmp 4], outs := [⟨[.i .i64], [.segs [.fn 106 [] [.fe Qz]]]⟩], m0 := 1 }
abbrev ixfg_rt : altD ixfg_B.outs → Option (Int × Qa) := fun r => some (r.1.1, r.2.1.1.2.1)
abbrev ixfg_l1_at : List PI := [.c [1, 0, 1, 0, 0, 0], .c [1, 0, 1, 0, 0, 1], .l [1, 0, 1, 0, 0], .b 0, .c [1, 1]]
abbrev ixfg_l1_st : Sta := ⟨[0, 1, 7, 8], ⟨[.sl Qf, .fn 126 [] [.own 0 0], .i .i64, .i .i64], [.segs [.fn 106 [] [.fe Qz]]]⟩⟩
abbrev ixfg_l1_h (rec : Qj → Int → Int → (Qa) → Option ((Int × Qa) ⊕ (Qa))) : Leaf ((Int × Qa) ⊕ (Qa)) := ⟨ixfg_l1_at, ixfg_l1_st, fun p => rec p.1.1 p.1.2.2.1 p.1.2.2.2.1 p.2.1.1.2.1⟩
abbrev ixfg_l1_e0 : Leaf ((Int × Qa) ⊕ (Qa)) := ⟨[.c [1, 0, 1, 0, 0, 1, 1, 0, 0, 1, 1, 0, 0], .c [1, 0, 1, 0, 0, 1, 1, 0, 0, 1, 1, 0, 1], .b 1, .c [1, 0, 1, 0, 0, 1, 1, 1], .l [1, 0, 1, 0, 0], .b 0, .c [1, 1]], ⟨[5], ⟨[.i .i64], [.segs [.fn 106 [] [.fe Qz]]]⟩⟩, fun p => some (.inl (p.1.1, p.2.1.1.2.1))⟩
abbrev ixfg_l1_e1 : Leaf ((Int × Qa) ⊕ (Qa)) := ⟨[.c [1, 1, 0], .c [1, 1, 1]], ⟨[], ⟨[], [.segs [.fn 106 [] [.fe Qz]]]⟩⟩, fun p => some (.inr p.2.1.1.2.1)⟩
noncomputable def ixfg_l1_L (N : Nat) : LoopS := { at_ := ixfg_l1_at, sta := ixfg_l1_st, exits := [([.c [1, 0, 1, 0, 0, 1, 1, 0, 0, 1, 1, 0, 0], .c [1, 0, 1, 0, 0, 1, 1, 0, 0, 1, 1, 0, 1], .b 1, .c [1, 0, 1, 0, 0, 1, 1, 1], .l [1, 0, 1, 0, 0], .b 0, .c [1, 1]], ⟨[5], ⟨[.i .i64], [.segs [.fn 106 [] [.fe Qz]]]⟩⟩), ([.c [1, 1, 0], .c [1, 1, 1]], ⟨[], ⟨[], [.segs [.fn 106 [] [.fe Qz]]]⟩⟩)], run := fun p k => (ixfg_l1 N N p.1.1 p.1.2.2.1 p.1.2.2.2.1 p.2.1.1.2.1).bind fun e => match e with | .inl x => k (.inl ((x.1, ()), ((((), (x.2, ())), ()), ()))) | .inr x => k (.inr (.inl ((), ((((), (x, ())), ()), ())))) }
theorem ixfg_l1_eq (N n_ : Nat) (s : List Qe) (u : Int) (u2 : Int) (f : Qa) : ev (Z := (Int × Qa) ⊕ (Qa)) Try.prog (ixfg_sp N) ixfg_B [] [ixfg_l1_h (ixfg_l1 N n_), ixfg_l1_e0, ixfg_l1_e1] none 400 true ixfg_l1_at (stL ixfg_l1_st ((s, ((), ((), ())), u, u2, ()), ((((), (f, ())), ()), ()))) (stH ixfg_l1_st ((s, ((), ((), ())), u, u2, ()), ((((), (f, ())), ()), ()))) = ixfg_l1 N (n_ + 1) s u u2 f := by kernel_rfl
theorem ixfg_l1_ok (N : Nat) {top : Bool} : LoopOK Try.prog ixfg_B.c ixfg_B.n ixfg_B.m0 top (ixfg_l1_L N) := loop_of_ev (Z := (Int × Qa) ⊕ (Qa)) (N := N) (fun m p => ixfg_l1 N m p.1.1 p.1.2.2.1 p.1.2.2.2.1 p.2.1.1.2.1) (fun e => match e with | .inl x => .inl ((x.1, ()), ((((), (x.2, ())), ()), ())) | .inr x => .inr (.inl ((), ((((), (x, ())), ()), ())))) (fun _ p k => bind_congr_ (ixfg_l1 N N p.1.1 p.1.2.2.1 p.1.2.2.2.1 p.2.1.1.2.1) _ _ (fun e => by rcases e with x | x <;> rfl)) (fun _ => rfl) (fun m z E Xc hE hX hrec hx => leaf_of_ev (B := ixfg_B) (loops := []) (leaves := [ixfg_l1_h (ixfg_l1 N m), ixfg_l1_e0, ixfg_l1_e1]) (ixfg_all N) mixed trivial hE hX ⟨hrec, (fun p hp => by obtain rfl := Option.some.inj hp; exact hx), (fun p hp => by obtain rfl := Option.some.inj hp; exact hx), trivial⟩ RetOK.no (fun p => ixfg_l1_eq N m p.1.1 p.1.2.2.1 p.1.2.2.2.1 p.2.1.1.2.1))
abbrev ixfg_st : Sta := ⟨[0, 1], ⟨[.sl Qf, .fn 126 [] [.own 0 0]], [.segs [.fn 106 [] [.fe Qz]]]⟩⟩
theorem ixfg_eq (N : Nat) (s : List Qe) (f : Qa) : ev (Z := Int × Qa) Try.prog (ixfg_sp N) ixfg_B [ixfg_l1_L N] [] (some ixfg_rt) 400 false [.c [0], .c [1]] (stL ixfg_st ((s, ((), ((), ())), ()), ((((), (f, ())), ()), ()))) (stH ixfg_st ((s, ((), ((), ())), ()), ((((), (f, ())), ()), ()))) = ixfg_S N s f := by kernel_rfl
noncomputable def sp_ixfg (N : Nat) : Spec := { f := 132, ins := ⟨[.sl Qf, .fn 126 [] [.own 0 0]], [.segs [.fn 106 [] [.fe Qz]]]⟩, outs := [⟨[.i .i64], [.segs [.fn 106 [] [.fe Qz]]]⟩], run := fun p k => (ixfg_S N p.1.1 p.2.1.1.2.1).bind fun r => k ((r.1, ()), ((((), (r.2, ())), ()), ())) }
theorem sp_ixfg_ok (N : Nat) : SpecOK Try.prog (sp_ixfg N) := fn_sound (B := ixfg_B) (loops := [ixfg_l1_L N]) (leaves := []) (fun p => ixfg_S N p.1.1 p.2.1.1.2.1) (fun r => ((r.1, ()), ((((), (r.2, ())), ()), ()))) ixfg_rt (fun _ _ _ => rfl) (fun r z h => by cases h; rfl) Try.func132 (by kernel_rfl) (by kernel_rfl) (by kernel_rfl) rfl rfl (by kernel_rfl) (fun args w => Sem.pv_run _ _ _ (by kernel_rfl) w) (ixfg_all N) mixed ⟨ixfg_l1_ok N, trivial⟩ (fun z E Xc hE hX hret => trivial) (fun p => ixfg_eq N p.1.1 p.2.1.1.2.1)

def cofg_S (N : Nat) (s : List Qe) (f : Qa) : Option (Bool × Qa) :=
 (ixfg_S N s f).bind fun (x_1, y_2) =>
 some ((decide (0 ≤ x_1)), y_2)
noncomputable def cofg_sp (N : Nat) : List Spec := [sp_ixfg N]
theorem cofg_all (N : Nat) : AllP (SpecOK Try.prog) (cofg_sp N) := ⟨sp_ixfg_ok N, trivial⟩
noncomputable def cofg_c : Code := (Try.f115.body).getD .skip
noncomputable abbrev cofg_B : Body := { c := cofg_c, n := 9, res := [.tmp 4], outs := [⟨[.b], [.segs [.fn 106 [] [.fe Qz]]]⟩], m0 := 1 }
abbrev cofg_rt : altD cofg_B.outs → Option (Bool × Qa) := fun r => some (r.1.1, r.2.1.1.2.1)
abbrev cofg_st : Sta := ⟨[0, 1], ⟨[.sl Qf, .fn 126 [] [.own 0 0]], [.segs [.fn 106 [] [.fe Qz]]]⟩⟩
theorem cofg_eq (N : Nat) (s : List Qe) (f : Qa) : ev (Z := Bool × Qa) Try.prog (cofg_sp N) cofg_B [] [] (some cofg_rt) 400 false [.c [0], .c [1]] (stL cofg_st ((s, ((), ((), ())), ()), ((((), (f, ())), ()), ()))) (stH cofg_st ((s, ((), ((), ())), ()), ((((), (f, ())), ()), ()))) = cofg_S N s f := by kernel_rfl
noncomputable def sp_cofg (N : Nat) : Spec := { f := 115, ins := ⟨[.sl Qf, .fn 126 [] [.own 0 0]], [.segs [.fn 106 [] [.fe Qz]]]⟩, outs := [⟨[.b], [.segs [.fn 106 [] [.fe Qz]]]⟩], run := fun p k => (cofg_S N p.1.1 p.2.1.1.2.1).bind fun r => k ((r.1, ()), ((((), (r.2, ())), ()), ())) }
theorem sp_cofg_ok (N : Nat) : SpecOK Try.prog (sp_cofg N) := fn_sound (B := cofg_B) (loops := []) (leaves := []) (fun p => cofg_S N p.1.1 p.2.1.1.2.1) (fun r => ((r.1, ()), ((((), (r.2, ())), ()), ()))) cofg_rt (fun _ _ _ => rfl) (fun r z h => by cases h; rfl) Try.func115 (by kernel_rfl) (by kernel_rfl) (by kernel_rfl) rfl rfl (by kernel_rfl) (fun args w => Sem.pv_run _ _ _ (by kernel_rfl) w) (cofg_all N) mixed trivial (fun z E Xc hE hX hret => trivial) (fun p => cofg_eq N p.1.1 p.2.1.1.2.1)

def everyg_S (N : Nat) (l : List Qe) (holds : Qa) : Option Bool :=
 (cofg_S N l holds).bind fun (x_1, y_2) =>
 some (!x_1)
noncomputable def everyg_sp (N : Nat) : List Spec := [sp_cofg N]
theorem everyg_all (N : Nat) : AllP (SpecOK Try.prog) (everyg_sp N) := ⟨sp_cofg_ok N, trivial⟩
noncomputable def everyg_c : Code := (Try.f94.body).getD .skip
noncomputable abbrev everyg_B : Body := { c := everyg_c, n := 9, res := [.tmp 4], outs := [⟨[.b], []⟩], m0 := 0 }
abbrev everyg_rt : altD everyg_B.outs → Option Bool := fun r => some r.1.1
abbrev everyg_st : Sta := ⟨[0, 1], ⟨[.sl Qf, .fn 106 [] [.fe Qz]], []⟩⟩
theorem everyg_eq (N : Nat) (l : List Qe) (holds : Qa) : ev (Z := Bool) Try.prog (everyg_sp N) everyg_B [] [] (some everyg_rt) 400 false [.c [0], .c [1]] (stL everyg_st ((l, ((), (holds, ())), ()), ())) (stH everyg_st ((l, ((), (holds, ())), ()), ())) = everyg_S N l holds := by kernel_rfl
noncomputable def sp_everyg (N : Nat) : Spec := { f := 94, ins := ⟨[.sl Qf, .fn 106 [] [.fe Qz]], []⟩, outs := [⟨[.b], []⟩], run := fun p k => (everyg_S N p.1.1 p.1.2.1.2.1).bind fun r => k ((r, ()), ()) }
theorem sp_everyg_ok (N : Nat) : SpecOK Try.prog (sp_everyg N) := fn_sound (B := everyg_B) (loops := []) (leaves := []) (fun p => everyg_S N p.1.1 p.1.2.1.2.1) (fun r => ((r, ()), ())) everyg_rt (fun _ _ _ => rfl) (fun r z h => by cases h; rfl) Try.func94 (by kernel_rfl) (by kernel_rfl) (by kernel_rfl) rfl rfl (by kernel_rfl) (fun args w => Sem.pv_run _ _ _ (by kernel_rfl) w) (everyg_all N) mixed trivial (fun z E Xc hE hX hret => trivial) (fun p => everyg_eq N p.1.1 p.1.2.1.2.1)

def shows1_S (N : Nat) (l : List Qe) (u : Qa) : Option Bool :=
 chk ((u.2.2.2.1.length : Int) + 1) <|
 br (decide ((l.length : Int) = ((u.2.2.2.1.length : Int) + 1)))
  ((everyg_S N l u).bind fun x_1 =>
  some x_1)
  (some false)
noncomputable def shows1_sp (N : Nat) : List Spec := [sp_everyg N]
theorem shows1_all (N : Nat) : AllP (SpecOK Try.prog) (shows1_sp N) := ⟨sp_everyg_ok N, trivial⟩
noncomputable def shows1_c : Code := (Try.f105.body).getD .skip
noncomputable abbrev shows1_B : Body := { c := shows1_c, n := 18, res := [.tmp 3], outs := [⟨[.b], []⟩], m0 := 0 }
abbrev shows1_rt : altD shows1_B.outs → Option Bool := fun r => some r.1.1
abbrev shows1_st : Sta := ⟨[0, 1], ⟨[.sl Qf, .fe Qz], []⟩⟩
theorem shows1_eq (N : Nat) (l : List Qe) (u : Qa) : ev (Z := Bool) Try.prog (shows1_sp N) shows1_B [] [] (some shows1_rt) 400 false [.c [0], .c [1]] (stL shows1_st ((l, u, ()), ())) (stH shows1_st ((l, u, ()), ())) = shows1_S N l u := by kernel_rfl
noncomputable def sp_shows1 (N : Nat) : Spec := { f := 105, ins := ⟨[.sl Qf, .fe Qz], []⟩, outs := [⟨[.b], []⟩], run := fun p k => (shows1_S N p.1.1 p.1.2.1).bind fun r => k ((r, ()), ()) }
theorem sp_shows1_ok (N : Nat) : SpecOK Try.prog (sp_shows1 N) := fn_sound (B := shows1_B) (loops := []) (leaves := []) (fun p => shows1_S N p.1.1 p.1.2.1) (fun r => ((r, ()), ())) shows1_rt (fun _ _ _ => rfl) (fun r z h => by cases h; rfl) Try.func105 (by kernel_rfl) (by kernel_rfl) (by kernel_rfl) rfl rfl (by kernel_rfl) (fun args w => Sem.pv_run _ _ _ (by kernel_rfl) w) (shows1_all N) mixed trivial (fun z E Xc hE hX hret => trivial) (fun p => shows1_eq N p.1.1 p.1.2.1)

def every1h_S (N : Nat) (x : List Qe) (g : Qa) : Option (Bool × Qa) :=
 (shows1_S N x g).bind fun x_1 =>
 some ((!x_1), g)
noncomputable def every1h_sp (N : Nat) : List Spec := [sp_shows1 N]
theorem every1h_all (N : Nat) : AllP (SpecOK Try.prog) (every1h_sp N) := ⟨sp_shows1_ok N, trivial⟩
noncomputable def every1h_c : Code := (Try.f130.body).getD .skip
noncomputable abbrev every1h_B : Body := { c := every1h_c, n := 8, res := [.tmp 3], outs := [⟨[.b], [.segs [.fn 105 [] [.fe Qz]]]⟩], m0 := 1 }
abbrev every1h_rt : altD every1h_B.outs → Option (Bool × Qa) := fun r => some (r.1.1, r.2.1.1.2.1)
abbrev every1h_st : Sta := ⟨[0, 1], ⟨[.sl Qf, .own 0 0], [.segs [.fn 105 [] [.fe Qz]]]⟩⟩
theorem every1h_eq (N : Nat) (x : List Qe) (g : Qa) : ev (Z := Bool × Qa) Try.prog (every1h_sp N) every1h_B [] [] (some every1h_rt) 400 false [.c [0], .c [1]] (stL every1h_st ((x, (), ()), ((((), (g, ())), ()), ()))) (stH every1h_st ((x, (), ()), ((((), (g, ())), ()), ()))) = every1h_S N x g := by kernel_rfl
noncomputable def sp_every1h (N : Nat) : Spec := { f := 130, ins := ⟨[.sl Qf, .own 0 0], [.segs [.fn 105 [] [.fe Qz]]]⟩, outs := [⟨[.b], [.segs [.fn 105 [] [.fe Qz]]]⟩], run := fun p k => (every1h_S N p.1.1 p.2.1.1.2.1).bind fun r => k ((r.1, ()), ((((), (r.2, ())), ()), ())) }
theorem sp_every1h_ok (N : Nat) : SpecOK Try.prog (sp_every1h N) := fn_sound (B := every1h_B) (loops := []) (leaves := []) (fun p => every1h_S N p.1.1 p.2.1.1.2.1) (fun r => ((r.1, ()), ((((), (r.2, ())), ()), ()))) every1h_rt (fun _ _ _ => rfl) (fun r z h => by cases h; rfl) Try.func130 (by kernel_rfl) (by kernel_rfl) (by kernel_rfl) rfl rfl (by kernel_rfl) (fun args w => Sem.pv_run _ _ _ (by kernel_rfl) w) (every1h_all N) mixed trivial (fun z E Xc hE hX hret => trivial) (fun p => every1h_eq N p.1.1 p.2.1.1.2.1)

def ixfh_l1 (N : Nat) : Nat → (List Qj) → Int → Int → (Qa) → Option ((Int × Qa) ⊕ (Qa))
 | 0, _, _, _, _ => none
 | n_ + 1, s, u, u2, f =>
  br (decide (u2 < u))
   (idx s u2 fun x_1 =>
   (every1h_S N x_1 f).bind fun (x_2, y_3) =>
   br x_2
    (some (.inl (u2, y_3)))
    (chk (u2 + 1) <|
    ixfh_l1 N n_ s u (u2 + 1) y_3))
   (some (.inr f))
def ixfh_S (N : Nat) (s : List Qj) (f : Qa) : Option (Int × Qa) :=
 (ixfh_l1 N N s (s.length : Int) 0 f).bind fun e => match e with
 | .inl (i_4, g_5) =>
  some (i_4, g_5)
 | .inr g_6 =>
  some (-1, g_6)
noncomputable def ixfh_sp (N : Nat) : List Spec := [sp_every1h N]
theorem ixfh_all (N : Nat) : AllP (SpecOK Try.prog) (ixfh_sp N) := ⟨sp_every1h_ok N, trivial⟩
noncomputable def ixfh_c : Code := (Try.f135.body).getD .skip
noncomputable abbrev ixfh_B : Body := { c := ixfh_c, n := 19, res := [.tmp 4], outs := [⟨[.i .i64], [.segs [.fn 105 [] [.fe Qz]]]⟩], m0 := 1 }
abbrev ixfh_rt : altD ixfh_B.outs → Option (Int × Qa) := fun r => some (r.1.1, r.2.1.1.2.1)
abbrev ixfh_l1_at : List PI := [.c [1, 0, 1, 0, 0, 0], .c [1, 0, 1, 0, 0, 1], .l [1, 0, 1, 0, 0], .b 0, .c [1, 1]]
abbrev ixfh_l1_st : Sta := ⟨[0, 1, 7, 8], ⟨[.sl (.sl Qf), .fn 130 [] [.own 0 0], .i .i64, .i .i64], [.segs [.fn 105 [] [.fe Qz]]]⟩⟩
abbrev ixfh_l1_h (rec : (List Qj) → Int → Int → (Qa) → Option ((Int × Qa) ⊕ (Qa))) : Leaf ((Int × Qa) ⊕ (Qa)) := ⟨ixfh_l1_at, ixfh_l1_st, fun p => rec p.1.1 p.1.2.2.1 p.1.2.2.2.1 p.2.1.1.2.1⟩
abbrev ixfh_l1_e0 : Leaf ((Int × Qa) ⊕ (Qa)) := ⟨[.c [1, 0, 1, 0, 0, 1, 1, 0, 0, 1, 1, 0, 0], .c [1, 0, 1, 0, 0, 1, 1, 0, 0, 1, 1, 0, 1], .b 1, .c [1, 0, 1, 0, 0, 1, 1, 1], .l [1, 0, 1, 0, 0], .b 0, .c [1, 1]], ⟨[5], ⟨[.i .i64], [.segs [.fn 105 [] [.fe Qz]]]⟩⟩, fun p => some (.inl (p.1.1, p.2.1.1.2.1))⟩
abbrev ixfh_l1_e1 : Leaf ((Int × Qa) ⊕ (Qa)) := ⟨[.c [1, 1, 0], .c [1, 1, 1]], ⟨[], ⟨[], [.segs [.fn 105 [] [.fe Qz]]]⟩⟩, fun p => some (.inr p.2.1.1.2.1)⟩
noncomputable def ixfh_l1_L (N : Nat) : LoopS := { at_ := ixfh_l1_at, sta := ixfh_l1_st, exits := [([.c [1, 0, 1, 0, 0, 1, 1, 0, 0, 1, 1, 0, 0], .c [1, 0, 1, 0, 0, 1, 1, 0, 0, 1, 1, 0, 1], .b 1, .c [1, 0, 1, 0, 0, 1, 1, 1], .l [1, 0, 1, 0, 0], .b 0, .c [1, 1]], ⟨[5], ⟨[.i .i64], [.segs [.fn 105 [] [.fe Qz]]]⟩⟩), ([.c [1, 1, 0], .c [1, 1, 1]], ⟨[], ⟨[], [.segs [.fn 105 [] [.fe Qz]]]⟩⟩)], run := fun p k => (ixfh_l1 N N p.1.1 p.1.2.2.1 p.1.2.2.2.1 p.2.1.1.2.1).bind fun e => match e with | .inl x => k (.inl ((x.1, ()), ((((), (x.2, ())), ()), ()))) | .inr x => k (.inr (.inl ((), ((((), (x, ())), ()), ())))) }
theorem ixfh_l1_eq (N n_ : Nat) (s : List Qj) (u : Int) (u2 : Int) (f : Qa) : ev (Z := (Int × Qa) ⊕ (Qa)) Try.prog (ixfh_sp N) ixfh_B [] [ixfh_l1_h (ixfh_l1 N n_), ixfh_l1_e0, ixfh_l1_e1] none 400 true ixfh_l1_at (stL ixfh_l1_st ((s, ((), ((), ())), u, u2, ()), ((((), (f, ())), ()), ()))) (stH ixfh_l1_st ((s, ((), ((), ())), u, u2, ()), ((((), (f, ())), ()), ()))) = ixfh_l1 N (n_ + 1) s u u2 f := by kernel_rfl
theorem ixfh_l1_ok (N : Nat) {top : Bool} : LoopOK Try.prog ixfh_B.c ixfh_B.n ixfh_B.m0 top (ixfh_l1_L N) := loop_of_ev (Z := (Int × Qa) ⊕ (Qa)) (N := N) (fun m p => ixfh_l1 N m p.1.1 p.1.2.2.1 p.1.2.2.2.1 p.2.1.1.2.1) (fun e => match e with | .inl x => .inl ((x.1, ()), ((((), (x.2, ())), ()), ())) | .inr x => .inr (.inl ((), ((((), (x, ())), ()), ())))) (fun _ p k => bind_congr_ (ixfh_l1 N N p.1.1 p.1.2.2.1 p.1.2.2.2.1 p.2.1.1.2.1) _ _ (fun e => by rcases e with x | x <;> rfl)) (fun _ => rfl) (fun m z E Xc hE hX hrec hx => leaf_of_ev (B := ixfh_B) (loops := []) (leaves := [ixfh_l1_h (ixfh_l1 N m), ixfh_l1_e0, ixfh_l1_e1]) (ixfh_all N) mixed trivial hE hX ⟨hrec, (fun p hp => by obtain rfl := Option.some.inj hp; exact hx), (fun p hp => by obtain rfl := Option.some.inj hp; exact hx), trivial⟩ RetOK.no (fun p => ixfh_l1_eq N m p.1.1 p.1.2.2.1 p.1.2.2.2.1 p.2.1.1.2.1))
abbrev ixfh_st : Sta := ⟨[0, 1], ⟨[.sl (.sl Qf), .fn 130 [] [.own 0 0]], [.segs [.fn 105 [] [.fe Qz]]]⟩⟩
theorem ixfh_eq (N : Nat) (s : List Qj) (f : Qa) : ev (Z := Int × Qa) Try.prog (ixfh_sp N) ixfh_B [ixfh_l1_L N] [] (some ixfh_rt) 400 false [.c [0], .c [1]] (stL ixfh_st ((s, ((), ((), ())), ()), ((((), (f, ())), ()), ()))) (stH ixfh_st ((s, ((), ((), ())), ()), ((((), (f, ())), ()), ()))) = ixfh_S N s f := by kernel_rfl
noncomputable def sp_ixfh (N : Nat) : Spec := { f := 135, ins := ⟨[.sl (.sl Qf), .fn 130 [] [.own 0 0]], [.segs [.fn 105 [] [.fe Qz]]]⟩, outs := [⟨[.i .i64], [.segs [.fn 105 [] [.fe Qz]]]⟩], run := fun p k => (ixfh_S N p.1.1 p.2.1.1.2.1).bind fun r => k ((r.1, ()), ((((), (r.2, ())), ()), ())) }
theorem sp_ixfh_ok (N : Nat) : SpecOK Try.prog (sp_ixfh N) := fn_sound (B := ixfh_B) (loops := [ixfh_l1_L N]) (leaves := []) (fun p => ixfh_S N p.1.1 p.2.1.1.2.1) (fun r => ((r.1, ()), ((((), (r.2, ())), ()), ()))) ixfh_rt (fun _ _ _ => rfl) (fun r z h => by cases h; rfl) Try.func135 (by kernel_rfl) (by kernel_rfl) (by kernel_rfl) rfl rfl (by kernel_rfl) (fun args w => Sem.pv_run _ _ _ (by kernel_rfl) w) (ixfh_all N) mixed ⟨ixfh_l1_ok N, trivial⟩ (fun z E Xc hE hX hret => trivial) (fun p => ixfh_eq N p.1.1 p.2.1.1.2.1)

def cofh_S (N : Nat) (s : List Qj) (f : Qa) : Option (Bool × Qa) :=
 (ixfh_S N s f).bind fun (x_1, y_2) =>
 some ((decide (0 ≤ x_1)), y_2)
noncomputable def cofh_sp (N : Nat) : List Spec := [sp_ixfh N]
theorem cofh_all (N : Nat) : AllP (SpecOK Try.prog) (cofh_sp N) := ⟨sp_ixfh_ok N, trivial⟩
noncomputable def cofh_c : Code := (Try.f129.body).getD .skip
noncomputable abbrev cofh_B : Body := { c := cofh_c, n := 9, res := [.tmp 4], outs := [⟨[.b], [.segs [.fn 105 [] [.fe Qz]]]⟩], m0 := 1 }
abbrev cofh_rt : altD cofh_B.outs → Option (Bool × Qa) := fun r => some (r.1.1, r.2.1.1.2.1)
abbrev cofh_st : Sta := ⟨[0, 1], ⟨[.sl (.sl Qf), .fn 130 [] [.own 0 0]], [.segs [.fn 105 [] [.fe Qz]]]⟩⟩
theorem cofh_eq (N : Nat) (s : List Qj) (f : Qa) : ev (Z := Bool × Qa) Try.prog (cofh_sp N) cofh_B [] [] (some cofh_rt) 400 false [.c [0], .c [1]] (stL cofh_st ((s, ((), ((), ())), ()), ((((), (f, ())), ()), ()))) (stH cofh_st ((s, ((), ((), ())), ()), ((((), (f, ())), ()), ()))) = cofh_S N s f := by kernel_rfl
noncomputable def sp_cofh (N : Nat) : Spec := { f := 129, ins := ⟨[.sl (.sl Qf), .fn 130 [] [.own 0 0]], [.segs [.fn 105 [] [.fe Qz]]]⟩, outs := [⟨[.b], [.segs [.fn 105 [] [.fe Qz]]]⟩], run := fun p k => (cofh_S N p.1.1 p.2.1.1.2.1).bind fun r => k ((r.1, ()), ((((), (r.2, ())), ()), ())) }
theorem sp_cofh_ok (N : Nat) : SpecOK Try.prog (sp_cofh N) := fn_sound (B := cofh_B) (loops := []) (leaves := []) (fun p => cofh_S N p.1.1 p.2.1.1.2.1) (fun r => ((r.1, ()), ((((), (r.2, ())), ()), ()))) cofh_rt (fun _ _ _ => rfl) (fun r z h => by cases h; rfl) Try.func129 (by kernel_rfl) (by kernel_rfl) (by kernel_rfl) rfl rfl (by kernel_rfl) (fun args w => Sem.pv_run _ _ _ (by kernel_rfl) w) (cofh_all N) mixed trivial (fun z E Xc hE hX hret => trivial) (fun p => cofh_eq N p.1.1 p.2.1.1.2.1)

def everyh_S (N : Nat) (l : List Qj) (holds : Qa) : Option Bool :=
 (cofh_S N l holds).bind fun (x_1, y_2) =>
 some (!x_1)
noncomputable def everyh_sp (N : Nat) : List Spec := [sp_cofh N]
theorem everyh_all (N : Nat) : AllP (SpecOK Try.prog) (everyh_sp N) := ⟨sp_cofh_ok N, trivial⟩
noncomputable def everyh_c : Code := (Try.f104.body).getD .skip
noncomputable abbrev everyh_B : Body := { c := everyh_c, n := 9, res := [.tmp 4], outs := [⟨[.b], []⟩], m0 := 0 }
abbrev everyh_rt : altD everyh_B.outs → Option Bool := fun r => some r.1.1
abbrev everyh_st : Sta := ⟨[0, 1], ⟨[.sl (.sl Qf), .fn 105 [] [.fe Qz]], []⟩⟩
theorem everyh_eq (N : Nat) (l : List Qj) (holds : Qa) : ev (Z := Bool) Try.prog (everyh_sp N) everyh_B [] [] (some everyh_rt) 400 false [.c [0], .c [1]] (stL everyh_st ((l, ((), (holds, ())), ()), ())) (stH everyh_st ((l, ((), (holds, ())), ()), ())) = everyh_S N l holds := by kernel_rfl
noncomputable def sp_everyh (N : Nat) : Spec := { f := 104, ins := ⟨[.sl (.sl Qf), .fn 105 [] [.fe Qz]], []⟩, outs := [⟨[.b], []⟩], run := fun p k => (everyh_S N p.1.1 p.1.2.1.2.1).bind fun r => k ((r, ()), ()) }
theorem sp_everyh_ok (N : Nat) : SpecOK Try.prog (sp_everyh N) := fn_sound (B := everyh_B) (loops := []) (leaves := []) (fun p => everyh_S N p.1.1 p.1.2.1.2.1) (fun r => ((r, ()), ())) everyh_rt (fun _ _ _ => rfl) (fun r z h => by cases h; rfl) Try.func104 (by kernel_rfl) (by kernel_rfl) (by kernel_rfl) rfl rfl (by kernel_rfl) (fun args w => Sem.pv_run _ _ _ (by kernel_rfl) w) (everyh_all N) mixed trivial (fun z E Xc hE hX hret => trivial) (fun p => everyh_eq N p.1.1 p.1.2.1.2.1)

def shows211_S (N : Nat) (n : Int) : Option Bool :=
 (in__S N n 0 99).bind fun x_1 =>
 some x_1
noncomputable def shows211_sp (N : Nat) : List Spec := [sp_in_ N]
theorem shows211_all (N : Nat) : AllP (SpecOK Try.prog) (shows211_sp N) := ⟨sp_in__ok N, trivial⟩
noncomputable def shows211_c : Code := (Try.f109.body).getD .skip
noncomputable abbrev shows211_B : Body := { c := shows211_c, n := 5, res := [.tmp 2], outs := [⟨[.b], []⟩], m0 := 0 }
abbrev shows211_rt : altD shows211_B.outs → Option Bool := fun r => some r.1.1
abbrev shows211_st : Sta := ⟨[0], ⟨[.i .i64], []⟩⟩
theorem shows211_eq (N : Nat) (n : Int) : ev (Z := Bool) Try.prog (shows211_sp N) shows211_B [] [] (some shows211_rt) 400 false [.c [0], .c [1]] (stL shows211_st ((n, ()), ())) (stH shows211_st ((n, ()), ())) = shows211_S N n := by kernel_rfl
noncomputable def sp_shows211 (N : Nat) : Spec := { f := 109, ins := ⟨[.i .i64], []⟩, outs := [⟨[.b], []⟩], run := fun p k => (shows211_S N p.1.1).bind fun r => k ((r, ()), ()) }
theorem sp_shows211_ok (N : Nat) : SpecOK Try.prog (sp_shows211 N) := fn_sound (B := shows211_B) (loops := []) (leaves := []) (fun p => shows211_S N p.1.1) (fun r => ((r, ()), ())) shows211_rt (fun _ _ _ => rfl) (fun r z h => by cases h; rfl) Try.func109 (by kernel_rfl) (by kernel_rfl) (by kernel_rfl) rfl rfl (by kernel_rfl) (fun args w => Sem.pv_run _ _ _ (by kernel_rfl) w) (shows211_all N) mixed trivial (fun z E Xc hE hX hret => trivial) (fun p => shows211_eq N p.1.1)

def every1j_S (N : Nat) (x : Int) : Option Bool :=
 (shows211_S N x).bind fun x_1 =>
 some (!x_1)
noncomputable def every1j_sp (N : Nat) : List Spec := [sp_shows211 N]
theorem every1j_all (N : Nat) : AllP (SpecOK Try.prog) (every1j_sp N) := ⟨sp_shows211_ok N, trivial⟩
noncomputable def every1j_c : Code := (Try.f125.body).getD .skip
noncomputable abbrev every1j_B : Body := { c := every1j_c, n := 8, res := [.tmp 3], outs := [⟨[.b], [.segs [.fn 109 [] []]]⟩], m0 := 1 }
abbrev every1j_rt : altD every1j_B.outs → Option Bool := fun r => some r.1.1
abbrev every1j_st : Sta := ⟨[0, 1], ⟨[.i .i64, .own 0 0], [.segs [.fn 109 [] []]]⟩⟩
theorem every1j_eq (N : Nat) (x : Int) : ev (Z := Bool) Try.prog (every1j_sp N) every1j_B [] [] (some every1j_rt) 400 false [.c [0], .c [1]] (stL every1j_st ((x, (), ()), ((((), ()), ()), ()))) (stH every1j_st ((x, (), ()), ((((), ()), ()), ()))) = every1j_S N x := by kernel_rfl
noncomputable def sp_every1j (N : Nat) : Spec := { f := 125, ins := ⟨[.i .i64, .own 0 0], [.segs [.fn 109 [] []]]⟩, outs := [⟨[.b], [.segs [.fn 109 [] []]]⟩], run := fun p k => (every1j_S N p.1.1).bind fun r => k ((r, ()), ((((), ()), ()), ())) }
theorem sp_every1j_ok (N : Nat) : SpecOK Try.prog (sp_every1j N) := fn_sound (B := every1j_B) (loops := []) (leaves := []) (fun p => every1j_S N p.1.1) (fun r => ((r, ()), ((((), ()), ()), ()))) every1j_rt (fun _ _ _ => rfl) (fun r z h => by cases h; rfl) Try.func125 (by kernel_rfl) (by kernel_rfl) (by kernel_rfl) rfl rfl (by kernel_rfl) (fun args w => Sem.pv_run _ _ _ (by kernel_rfl) w) (every1j_all N) mixed trivial (fun z E Xc hE hX hret => trivial) (fun p => every1j_eq N p.1.1)

def ixfj_l1 (N : Nat) : Nat → Qe → Int → Int → Option ((Int) ⊕ (Unit))
 | 0, _, _, _ => none
 | n_ + 1, s, u, u2 =>
  br (decide (u2 < u))
   (idx s u2 fun x_1 =>
   (every1j_S N x_1).bind fun x_2 =>
   br x_2
    (some (.inl u2))
    (chk (u2 + 1) <|
    ixfj_l1 N n_ s u (u2 + 1)))
   (some (.inr ()))
def ixfj_S (N : Nat) (s : List Int) : Option Int :=
 (ixfj_l1 N N s (s.length : Int) 0).bind fun e => match e with
 | .inl i_3 =>
  some i_3
 | .inr _ =>
  some (-1)
noncomputable def ixfj_sp (N : Nat) : List Spec := [sp_every1j N]
theorem ixfj_all (N : Nat) : AllP (SpecOK Try.prog) (ixfj_sp N) := ⟨sp_every1j_ok N, trivial⟩
noncomputable def ixfj_c : Code := (Try.f134.body).getD .skip
noncomputable abbrev ixfj_B : Body := { c := ixfj_c, n := 19, res := [.tmp 4], outs := [⟨[.i .i64], [.segs [.fn 109 [] []]]⟩], m0 := 1 }
abbrev ixfj_rt : altD ixfj_B.outs → Option Int := fun r => some r.1.1
abbrev ixfj_l1_at : List PI := [.c [1, 0, 1, 0, 0, 0], .c [1, 0, 1, 0, 0, 1], .l [1, 0, 1, 0, 0], .b 0, .c [1, 1]]
abbrev ixfj_l1_st : Sta := ⟨[0, 1, 7, 8], ⟨[.sl (.int .i64), .fn 125 [] [.own 0 0], .i .i64, .i .i64], [.segs [.fn 109 [] []]]⟩⟩
abbrev ixfj_l1_h (rec : Qe → Int → Int → Option ((Int) ⊕ (Unit))) : Leaf ((Int) ⊕ (Unit)) := ⟨ixfj_l1_at, ixfj_l1_st, fun p => rec p.1.1 p.1.2.2.1 p.1.2.2.2.1⟩
abbrev ixfj_l1_e0 : Leaf ((Int) ⊕ (Unit)) := ⟨[.c [1, 0, 1, 0, 0, 1, 1, 0, 0, 1, 1, 0, 0], .c [1, 0, 1, 0, 0, 1, 1, 0, 0, 1, 1, 0, 1], .b 1, .c [1, 0, 1, 0, 0, 1, 1, 1], .l [1, 0, 1, 0, 0], .b 0, .c [1, 1]], ⟨[5], ⟨[.i .i64], [.segs [.fn 109 [] []]]⟩⟩, fun p => some (.inl p.1.1)⟩
abbrev ixfj_l1_e1 : Leaf ((Int) ⊕ (Unit)) := ⟨[.c [1, 1, 0], .c [1, 1, 1]], ⟨[], ⟨[], [.segs [.fn 109 [] []]]⟩⟩, fun p => some (.inr ())⟩
noncomputable def ixfj_l1_L (N : Nat) : LoopS := { at_ := ixfj_l1_at, sta := ixfj_l1_st, exits := [([.c [1, 0, 1, 0, 0, 1, 1, 0, 0, 1, 1, 0, 0], .c [1, 0, 1, 0, 0, 1, 1, 0, 0, 1, 1, 0, 1], .b 1, .c [1, 0, 1, 0, 0, 1, 1, 1], .l [1, 0, 1, 0, 0], .b 0, .c [1, 1]], ⟨[5], ⟨[.i .i64], [.segs [.fn 109 [] []]]⟩⟩), ([.c [1, 1, 0], .c [1, 1, 1]], ⟨[], ⟨[], [.segs [.fn 109 [] []]]⟩⟩)], run := fun p k => (ixfj_l1 N N p.1.1 p.1.2.2.1 p.1.2.2.2.1).bind fun e => match e with | .inl x => k (.inl ((x, ()), ((((), ()), ()), ()))) | .inr x => k (.inr (.inl ((), ((((), ()), ()), ())))) }
theorem ixfj_l1_eq (N n_ : Nat) (s : List Int) (u : Int) (u2 : Int) : ev (Z := (Int) ⊕ (Unit)) Try.prog (ixfj_sp N) ixfj_B [] [ixfj_l1_h (ixfj_l1 N n_), ixfj_l1_e0, ixfj_l1_e1] none 400 true ixfj_l1_at (stL ixfj_l1_st ((s, ((), ((), ())), u, u2, ()), ((((), ()), ()), ()))) (stH ixfj_l1_st ((s, ((), ((), ())), u, u2, ()), ((((), ()), ()), ()))) = ixfj_l1 N (n_ + 1) s u u2 := by kernel_rfl
theorem ixfj_l1_ok (N : Nat) {top : Bool} : LoopOK Try.prog ixfj_B.c ixfj_B.n ixfj_B.m0 top (ixfj_l1_L N) := loop_of_ev (Z := (Int) ⊕ (Unit)) (N := N) (fun m p => ixfj_l1 N m p.1.1 p.1.2.2.1 p.1.2.2.2.1) (fun e => match e with | .inl x => .inl ((x, ()), ((((), ()), ()), ())) | .inr x => .inr (.inl ((), ((((), ()), ()), ())))) (fun _ p k => bind_congr_ (ixfj_l1 N N p.1.1 p.1.2.2.1 p.1.2.2.2.1) _ _ (fun e => by rcases e with x | x <;> rfl)) (fun _ => rfl) (fun m z E Xc hE hX hrec hx => leaf_of_ev (B := ixfj_B) (loops := []) (leaves := [ixfj_l1_h (ixfj_l1 N m), ixfj_l1_e0, ixfj_l1_e1]) (ixfj_all N) mixed trivial hE hX ⟨hrec, (fun p hp => by obtain rfl := Option.some.inj hp; exact hx), (fun p hp => by obtain rfl := Option.some.inj hp; exact hx), trivial⟩ RetOK.no (fun p => ixfj_l1_eq N m p.1.1 p.1.2.2.1 p.1.2.2.2.1))
abbrev ixfj_st : Sta := ⟨[0, 1], ⟨[.sl (.int .i64), .fn 125 [] [.own 0 0]], [.segs [.fn 109 [] []]]⟩⟩
theorem ixfj_eq (N : Nat) (s : List Int) : ev (Z := Int) Try.prog (ixfj_sp N) ixfj_B [ixfj_l1_L N] [] (some ixfj_rt) 400 false [.c [0], .c [1]] (stL ixfj_st ((s, ((), ((), ())), ()), ((((), ()), ()), ()))) (stH ixfj_st ((s, ((), ((), ())), ()), ((((), ()), ()), ()))) = ixfj_S N s := by kernel_rfl
noncomputable def sp_ixfj (N : Nat) : Spec := { f := 134, ins := ⟨[.sl (.int .i64), .fn 125 [] [.own 0 0]], [.segs [.fn 109 [] []]]⟩, outs := [⟨[.i .i64], [.segs [.fn 109 [] []]]⟩], run := fun p k => (ixfj_S N p.1.1).bind fun r => k ((r, ()), ((((), ()), ()), ())) }
theorem sp_ixfj_ok (N : Nat) : SpecOK Try.prog (sp_ixfj N) := fn_sound (B := ixfj_B) (loops := [ixfj_l1_L N]) (leaves := []) (fun p => ixfj_S N p.1.1) (fun r => ((r, ()), ((((), ()), ()), ()))) ixfj_rt (fun _ _ _ => rfl) (fun r z h => by cases h; rfl) Try.func134 (by kernel_rfl) (by kernel_rfl) (by kernel_rfl) rfl rfl (by kernel_rfl) (fun args w => Sem.pv_run _ _ _ (by kernel_rfl) w) (ixfj_all N) mixed ⟨ixfj_l1_ok N, trivial⟩ (fun z E Xc hE hX hret => trivial) (fun p => ixfj_eq N p.1.1)

def cofj_S (N : Nat) (s : List Int) : Option Bool :=
 (ixfj_S N s).bind fun x_1 =>
 some (decide (0 ≤ x_1))
noncomputable def cofj_sp (N : Nat) : List Spec := [sp_ixfj N]
theorem cofj_all (N : Nat) : AllP (SpecOK Try.prog) (cofj_sp N) := ⟨sp_ixfj_ok N, trivial⟩
noncomputable def cofj_c : Code := (Try.f124.body).getD .skip
noncomputable abbrev cofj_B : Body := { c := cofj_c, n := 9, res := [.tmp 4], outs := [⟨[.b], [.segs [.fn 109 [] []]]⟩], m0 := 1 }
abbrev cofj_rt : altD cofj_B.outs → Option Bool := fun r => some r.1.1
abbrev cofj_st : Sta := ⟨[0, 1], ⟨[.sl (.int .i64), .fn 125 [] [.own 0 0]], [.segs [.fn 109 [] []]]⟩⟩
theorem cofj_eq (N : Nat) (s : List Int) : ev (Z := Bool) Try.prog (cofj_sp N) cofj_B [] [] (some cofj_rt) 400 false [.c [0], .c [1]] (stL cofj_st ((s, ((), ((), ())), ()), ((((), ()), ()), ()))) (stH cofj_st ((s, ((), ((), ())), ()), ((((), ()), ()), ()))) = cofj_S N s := by kernel_rfl
noncomputable def sp_cofj (N : Nat) : Spec := { f := 124, ins := ⟨[.sl (.int .i64), .fn 125 [] [.own 0 0]], [.segs [.fn 109 [] []]]⟩, outs := [⟨[.b], [.segs [.fn 109 [] []]]⟩], run := fun p k => (cofj_S N p.1.1).bind fun r => k ((r, ()), ((((), ()), ()), ())) }
theorem sp_cofj_ok (N : Nat) : SpecOK Try.prog (sp_cofj N) := fn_sound (B := cofj_B) (loops := []) (leaves := []) (fun p => cofj_S N p.1.1) (fun r => ((r, ()), ((((), ()), ()), ()))) cofj_rt (fun _ _ _ => rfl) (fun r z h => by cases h; rfl) Try.func124 (by kernel_rfl) (by kernel_rfl) (by kernel_rfl) rfl rfl (by kernel_rfl) (fun args w => Sem.pv_run _ _ _ (by kernel_rfl) w) (cofj_all N) mixed trivial (fun z E Xc hE hX hret => trivial) (fun p => cofj_eq N p.1.1)

def everyj_S (N : Nat) (l : List Int) : Option Bool :=
 (cofj_S N l).bind fun x_1 =>
 some (!x_1)
noncomputable def everyj_sp (N : Nat) : List Spec := [sp_cofj N]
theorem everyj_all (N : Nat) : AllP (SpecOK Try.prog) (everyj_sp N) := ⟨sp_cofj_ok N, trivial⟩
noncomputable def everyj_c : Code := (Try.f91.body).getD .skip
noncomputable abbrev everyj_B : Body := { c := everyj_c, n := 9, res := [.tmp 4], outs := [⟨[.b], []⟩], m0 := 0 }
abbrev everyj_rt : altD everyj_B.outs → Option Bool := fun r => some r.1.1
abbrev everyj_st : Sta := ⟨[0, 1], ⟨[.sl (.int .i64), .fn 109 [] []], []⟩⟩
theorem everyj_eq (N : Nat) (l : List Int) : ev (Z := Bool) Try.prog (everyj_sp N) everyj_B [] [] (some everyj_rt) 400 false [.c [0], .c [1]] (stL everyj_st ((l, ((), ()), ()), ())) (stH everyj_st ((l, ((), ()), ()), ())) = everyj_S N l := by kernel_rfl
noncomputable def sp_everyj (N : Nat) : Spec := { f := 91, ins := ⟨[.sl (.int .i64), .fn 109 [] []], []⟩, outs := [⟨[.b], []⟩], run := fun p k => (everyj_S N p.1.1).bind fun r => k ((r, ()), ()) }
theorem sp_everyj_ok (N : Nat) : SpecOK Try.prog (sp_everyj N) := fn_sound (B := everyj_B) (loops := []) (leaves := []) (fun p => everyj_S N p.1.1) (fun r => ((r, ()), ())) everyj_rt (fun _ _ _ => rfl) (fun r z h => by cases h; rfl) Try.func91 (by kernel_rfl) (by kernel_rfl) (by kernel_rfl) rfl rfl (by kernel_rfl) (fun args w => Sem.pv_run _ _ _ (by kernel_rfl) w) (everyj_all N) mixed trivial (fun z E Xc hE hX hret => trivial) (fun p => everyj_eq N p.1.1)

def shows21_S (N : Nat) (k : List Int) : Option Bool :=
 (everyj_S N k).bind fun x_1 =>
 some x_1
noncomputable def shows21_sp (N : Nat) : List Spec := [sp_everyj N]
theorem shows21_all (N : Nat) : AllP (SpecOK Try.prog) (shows21_sp N) := ⟨sp_everyj_ok N, trivial⟩
noncomputable def shows21_c : Code := (Try.f108.body).getD .skip
noncomputable abbrev shows21_B : Body := { c := shows21_c, n := 5, res := [.tmp 2], outs := [⟨[.b], []⟩], m0 := 0 }
abbrev shows21_rt : altD shows21_B.outs → Option Bool := fun r => some r.1.1
abbrev shows21_st : Sta := ⟨[0], ⟨[.sl (.int .i64)], []⟩⟩
theorem shows21_eq (N : Nat) (k : List Int) : ev (Z := Bool) Try.prog (shows21_sp N) shows21_B [] [] (some shows21_rt) 400 false [.c [0], .c [1]] (stL shows21_st ((k, ()), ())) (stH shows21_st ((k, ()), ())) = shows21_S N k := by kernel_rfl
noncomputable def sp_shows21 (N : Nat) : Spec := { f := 108, ins := ⟨[.sl (.int .i64)], []⟩, outs := [⟨[.b], []⟩], run := fun p k => (shows21_S N p.1.1).bind fun r => k ((r, ()), ()) }
theorem sp_shows21_ok (N : Nat) : SpecOK Try.prog (sp_shows21 N) := fn_sound (B := shows21_B) (loops := []) (leaves := []) (fun p => shows21_S N p.1.1) (fun r => ((r, ()), ())) shows21_rt (fun _ _ _ => rfl) (fun r z h => by cases h; rfl) Try.func108 (by kernel_rfl) (by kernel_rfl) (by kernel_rfl) rfl rfl (by kernel_rfl) (fun args w => Sem.pv_run _ _ _ (by kernel_rfl) w) (shows21_all N) mixed trivial (fun z E Xc hE hX hret => trivial) (fun p => shows21_eq N p.1.1)

def every1k_S (N : Nat) (x : List Int) : Option Bool :=
 (shows21_S N x).bind fun x_1 =>
 some (!x_1)
noncomputable def every1k_sp (N : Nat) : List Spec := [sp_shows21 N]
theorem every1k_all (N : Nat) : AllP (SpecOK Try.prog) (every1k_sp N) := ⟨sp_shows21_ok N, trivial⟩
noncomputable def every1k_c : Code := (Try.f126.body).getD .skip
noncomputable abbrev every1k_B : Body := { c := every1k_c, n := 8, res := [.tmp 3], outs := [⟨[.b], [.segs [.fn 108 [] []]]⟩], m0 := 1 }
abbrev every1k_rt : altD every1k_B.outs → Option Bool := fun r => some r.1.1
abbrev every1k_st : Sta := ⟨[0, 1], ⟨[.sl (.int .i64), .own 0 0], [.segs [.fn 108 [] []]]⟩⟩
theorem every1k_eq (N : Nat) (x : List Int) : ev (Z := Bool) Try.prog (every1k_sp N) every1k_B [] [] (some every1k_rt) 400 false [.c [0], .c [1]] (stL every1k_st ((x, (), ()), ((((), ()), ()), ()))) (stH every1k_st ((x, (), ()), ((((), ()), ()), ()))) = every1k_S N x := by kernel_rfl
noncomputable def sp_every1k (N : Nat) : Spec := { f := 126, ins := ⟨[.sl (.int .i64), .own 0 0], [.segs [.fn 108 [] []]]⟩, outs := [⟨[.b], [.segs [.fn 108 [] []]]⟩], run := fun p k => (every1k_S N p.1.1).bind fun r => k ((r, ()), ((((), ()), ()), ())) }
theorem sp_every1k_ok (N : Nat) : SpecOK Try.prog (sp_every1k N) := fn_sound (B := every1k_B) (loops := []) (leaves := []) (fun p => every1k_S N p.1.1) (fun r => ((r, ()), ((((), ()), ()), ()))) every1k_rt (fun _ _ _ => rfl) (fun r z h => by cases h; rfl) Try.func126 (by kernel_rfl) (by kernel_rfl) (by kernel_rfl) rfl rfl (by kernel_rfl) (fun args w => Sem.pv_run _ _ _ (by kernel_rfl) w) (every1k_all N) mixed trivial (fun z E Xc hE hX hret => trivial) (fun p => every1k_eq N p.1.1)

def ixfk_l1 (N : Nat) : Nat → Qj → Int → Int → Option ((Int) ⊕ (Unit))
 | 0, _, _, _ => none
 | n_ + 1, s, u, u2 =>
  br (decide (u2 < u))
   (idx s u2 fun x_1 =>
   (every1k_S N x_1).bind fun x_2 =>
   br x_2
    (some (.inl u2))
    (chk (u2 + 1) <|
    ixfk_l1 N n_ s u (u2 + 1)))
   (some (.inr ()))
def ixfk_S (N : Nat) (s : List Qe) : Option Int :=
 (ixfk_l1 N N s (s.length : Int) 0).bind fun e => match e with
 | .inl i_3 =>
  some i_3
 | .inr _ =>
  some (-1)
noncomputable def ixfk_sp (N : Nat) : List Spec := [sp_every1k N]
theorem ixfk_all (N : Nat) : AllP (SpecOK Try.prog) (ixfk_sp N) := ⟨sp_every1k_ok N, trivial⟩
noncomputable def ixfk_c : Code := (Try.f132.body).getD .skip
noncomputable abbrev ixfk_B : Body := { c := ixfk_c, n := 19, res := [.tmp 4], outs := [⟨[.i .i64], [.segs [.fn 108 [] []]]⟩], m0 := 1 }
abbrev ixfk_rt : altD ixfk_B.outs → Option Int := fun r => some r.1.1
abbrev ixfk_l1_at : List PI := [.c [1, 0, 1, 0, 0, 0], .c [1, 0, 1, 0, 0, 1], .l [1, 0, 1, 0, 0], .b 0, .c [1, 1]]
abbrev ixfk_l1_st : Sta := ⟨[0, 1, 7, 8], ⟨[.sl Qf, .fn 126 [] [.own 0 0], .i .i64, .i .i64], [.segs [.fn 108 [] []]]⟩⟩
abbrev ixfk_l1_h (rec : Qj → Int → Int → Option ((Int) ⊕ (Unit))) : Leaf ((Int) ⊕ (Unit)) := ⟨ixfk_l1_at, ixfk_l1_st, fun p => rec p.1.1 p.1.2.2.1 p.1.2.2.2.1⟩
abbrev ixfk_l1_e0 : Leaf ((Int) ⊕ (Unit)) := ⟨[.c [1, 0, 1, 0, 0, 1, 1, 0, 0, 1, 1, 0, 0], .c [1, 0, 1, 0, 0, 1, 1, 0, 0, 1, 1, 0, 1], .b 1, .c [1, 0, 1, 0, 0, 1, 1, 1], .l [1, 0, 1, 0, 0], .b 0, .c [1, 1]], ⟨[5], ⟨[.i .i64], [.segs [.fn 108 [] []]]⟩⟩, fun p => some (.inl p.1.1)⟩
abbrev ixfk_l1_e1 : Leaf ((Int) ⊕ (Unit)) := ⟨[.c [1, 1, 0], .c [1, 1, 1]], ⟨[], ⟨[], [.segs [.fn 108 [] []]]⟩⟩, fun p => some (.inr ())⟩
noncomputable def ixfk_l1_L (N : Nat) : LoopS := { at_ := ixfk_l1_at, sta := ixfk_l1_st, exits := [([.c [1, 0, 1, 0, 0, 1, 1, 0, 0, 1, 1, 0, 0], .c [1, 0, 1, 0, 0, 1, 1, 0, 0, 1, 1, 0, 1], .b 1, .c [1, 0, 1, 0, 0, 1, 1, 1], .l [1, 0, 1, 0, 0], .b 0, .c [1, 1]], ⟨[5], ⟨[.i .i64], [.segs [.fn 108 [] []]]⟩⟩), ([.c [1, 1, 0], .c [1, 1, 1]], ⟨[], ⟨[], [.segs [.fn 108 [] []]]⟩⟩)], run := fun p k => (ixfk_l1 N N p.1.1 p.1.2.2.1 p.1.2.2.2.1).bind fun e => match e with | .inl x => k (.inl ((x, ()), ((((), ()), ()), ()))) | .inr x => k (.inr (.inl ((), ((((), ()), ()), ())))) }
theorem ixfk_l1_eq (N n_ : Nat) (s : List Qe) (u : Int) (u2 : Int) : ev (Z := (Int) ⊕ (Unit)) Try.prog (ixfk_sp N) ixfk_B [] [ixfk_l1_h (ixfk_l1 N n_), ixfk_l1_e0, ixfk_l1_e1] none 400 true ixfk_l1_at (stL ixfk_l1_st ((s, ((), ((), ())), u, u2, ()), ((((), ()), ()), ()))) (stH ixfk_l1_st ((s, ((), ((), ())), u, u2, ()), ((((), ()), ()), ()))) = ixfk_l1 N (n_ + 1) s u u2 := by kernel_rfl
theorem ixfk_l1_ok (N : Nat) {top : Bool} : LoopOK Try.prog ixfk_B.c ixfk_B.n ixfk_B.m0 top (ixfk_l1_L N) := loop_of_ev (Z := (Int) ⊕ (Unit)) (N := N) (fun m p => ixfk_l1 N m p.1.1 p.1.2.2.1 p.1.2.2.2.1) (fun e => match e with | .inl x => .inl ((x, ()), ((((), ()), ()), ())) | .inr x => .inr (.inl ((), ((((), ()), ()), ())))) (fun _ p k => bind_congr_ (ixfk_l1 N N p.1.1 p.1.2.2.1 p.1.2.2.2.1) _ _ (fun e => by rcases e with x | x <;> rfl)) (fun _ => rfl) (fun m z E Xc hE hX hrec hx => leaf_of_ev (B := ixfk_B) (loops := []) (leaves := [ixfk_l1_h (ixfk_l1 N m), ixfk_l1_e0, ixfk_l1_e1]) (ixfk_all N) mixed trivial hE hX ⟨hrec, (fun p hp => by obtain rfl := Option.some.inj hp; exact hx), (fun p hp => by obtain rfl := Option.some.inj hp; exact hx), trivial⟩ RetOK.no (fun p => ixfk_l1_eq N m p.1.1 p.1.2.2.1 p.1.2.2.2.1))
abbrev ixfk_st : Sta := ⟨[0, 1], ⟨[.sl Qf, .fn 126 [] [.own 0 0]], [.segs [.fn 108 [] []]]⟩⟩
theorem ixfk_eq (N : Nat) (s : List Qe) : ev (Z := Int) Try.prog (ixfk_sp N) ixfk_B [ixfk_l1_L N] [] (some ixfk_rt) 400 false [.c [0], .c [1]] (stL ixfk_st ((s, ((), ((), ())), ()), ((((), ()), ()), ()))) (stH ixfk_st ((s, ((), ((), ())), ()), ((((), ()), ()), ()))) = ixfk_S N s := by kernel_rfl
noncomputable def sp_ixfk (N : Nat) : Spec := { f := 132, ins := ⟨[.sl Qf, .fn 126 [] [.own 0 0]], [.segs [.fn 108 [] []]]⟩, outs := [⟨[.i .i64], [.segs [.fn 108 [] []]]⟩], run := fun p k => (ixfk_S N p.1.1).bind fun r => k ((r, ()), ((((), ()), ()), ())) }
theorem sp_ixfk_ok (N : Nat) : SpecOK Try.prog (sp_ixfk N) := fn_sound (B := ixfk_B) (loops := [ixfk_l1_L N]) (leaves := []) (fun p => ixfk_S N p.1.1) (fun r => ((r, ()), ((((), ()), ()), ()))) ixfk_rt (fun _ _ _ => rfl) (fun r z h => by cases h; rfl) Try.func132 (by kernel_rfl) (by kernel_rfl) (by kernel_rfl) rfl rfl (by kernel_rfl) (fun args w => Sem.pv_run _ _ _ (by kernel_rfl) w) (ixfk_all N) mixed ⟨ixfk_l1_ok N, trivial⟩ (fun z E Xc hE hX hret => trivial) (fun p => ixfk_eq N p.1.1)

def cofk_S (N : Nat) (s : List Qe) : Option Bool :=
 (ixfk_S N s).bind fun x_1 =>
 some (decide (0 ≤ x_1))
noncomputable def cofk_sp (N : Nat) : List Spec := [sp_ixfk N]
theorem cofk_all (N : Nat) : AllP (SpecOK Try.prog) (cofk_sp N) := ⟨sp_ixfk_ok N, trivial⟩
noncomputable def cofk_c : Code := (Try.f115.body).getD .skip
noncomputable abbrev cofk_B : Body := { c := cofk_c, n := 9, res := [.tmp 4], outs := [⟨[.b], [.segs [.fn 108 [] []]]⟩], m0 := 1 }
abbrev cofk_rt : altD cofk_B.outs → Option Bool := fun r => some r.1.1
abbrev cofk_st : Sta := ⟨[0, 1], ⟨[.sl Qf, .fn 126 [] [.own 0 0]], [.segs [.fn 108 [] []]]⟩⟩
theorem cofk_eq (N : Nat) (s : List Qe) : ev (Z := Bool) Try.prog (cofk_sp N) cofk_B [] [] (some cofk_rt) 400 false [.c [0], .c [1]] (stL cofk_st ((s, ((), ((), ())), ()), ((((), ()), ()), ()))) (stH cofk_st ((s, ((), ((), ())), ()), ((((), ()), ()), ()))) = cofk_S N s := by kernel_rfl
noncomputable def sp_cofk (N : Nat) : Spec := { f := 115, ins := ⟨[.sl Qf, .fn 126 [] [.own 0 0]], [.segs [.fn 108 [] []]]⟩, outs := [⟨[.b], [.segs [.fn 108 [] []]]⟩], run := fun p k => (cofk_S N p.1.1).bind fun r => k ((r, ()), ((((), ()), ()), ())) }
theorem sp_cofk_ok (N : Nat) : SpecOK Try.prog (sp_cofk N) := fn_sound (B := cofk_B) (loops := []) (leaves := []) (fun p => cofk_S N p.1.1) (fun r => ((r, ()), ((((), ()), ()), ()))) cofk_rt (fun _ _ _ => rfl) (fun r z h => by cases h; rfl) Try.func115 (by kernel_rfl) (by kernel_rfl) (by kernel_rfl) rfl rfl (by kernel_rfl) (fun args w => Sem.pv_run _ _ _ (by kernel_rfl) w) (cofk_all N) mixed trivial (fun z E Xc hE hX hret => trivial) (fun p => cofk_eq N p.1.1)

def everyk_S (N : Nat) (l : List Qe) : Option Bool :=
 (cofk_S N l).bind fun x_1 =>
 some (!x_1)
noncomputable def everyk_sp (N : Nat) : List Spec := [sp_cofk N]
theorem everyk_all (N : Nat) : AllP (SpecOK Try.prog) (everyk_sp N) := ⟨sp_cofk_ok N, trivial⟩
noncomputable def everyk_c : Code := (Try.f94.body).getD .skip
noncomputable abbrev everyk_B : Body := { c := everyk_c, n := 9, res := [.tmp 4], outs := [⟨[.b], []⟩], m0 := 0 }
abbrev everyk_rt : altD everyk_B.outs → Option Bool := fun r => some r.1.1
abbrev everyk_st : Sta := ⟨[0, 1], ⟨[.sl Qf, .fn 108 [] []], []⟩⟩
theorem everyk_eq (N : Nat) (l : List Qe) : ev (Z := Bool) Try.prog (everyk_sp N) everyk_B [] [] (some everyk_rt) 400 false [.c [0], .c [1]] (stL everyk_st ((l, ((), ()), ()), ())) (stH everyk_st ((l, ((), ()), ()), ())) = everyk_S N l := by kernel_rfl
noncomputable def sp_everyk (N : Nat) : Spec := { f := 94, ins := ⟨[.sl Qf, .fn 108 [] []], []⟩, outs := [⟨[.b], []⟩], run := fun p k => (everyk_S N p.1.1).bind fun r => k ((r, ()), ()) }
theorem sp_everyk_ok (N : Nat) : SpecOK Try.prog (sp_everyk N) := fn_sound (B := everyk_B) (loops := []) (leaves := []) (fun p => everyk_S N p.1.1) (fun r => ((r, ()), ())) everyk_rt (fun _ _ _ => rfl) (fun r z h => by cases h; rfl) Try.func94 (by kernel_rfl) (by kernel_rfl) (by kernel_rfl) rfl rfl (by kernel_rfl) (fun args w => Sem.pv_run _ _ _ (by kernel_rfl) w) (everyk_all N) mixed trivial (fun z E Xc hE hX hret => trivial) (fun p => everyk_eq N p.1.1)

def shows2_S (N : Nat) (l : List Qe) : Option Bool :=
 (everyk_S N l).bind fun x_1 =>
 some x_1
noncomputable def shows2_sp (N : Nat) : List Spec := [sp_everyk N]
theorem shows2_all (N : Nat) : AllP (SpecOK Try.prog) (shows2_sp N) := ⟨sp_everyk_ok N, trivial⟩
noncomputable def shows2_c : Code := (Try.f107.body).getD .skip
noncomputable abbrev shows2_B : Body := { c := shows2_c, n := 5, res := [.tmp 2], outs := [⟨[.b], []⟩], m0 := 0 }
abbrev shows2_rt : altD shows2_B.outs → Option Bool := fun r => some r.1.1
abbrev shows2_st : Sta := ⟨[0], ⟨[.sl Qf], []⟩⟩
theorem shows2_eq (N : Nat) (l : List Qe) : ev (Z := Bool) Try.prog (shows2_sp N) shows2_B [] [] (some shows2_rt) 400 false [.c [0], .c [1]] (stL shows2_st ((l, ()), ())) (stH shows2_st ((l, ()), ())) = shows2_S N l := by kernel_rfl
noncomputable def sp_shows2 (N : Nat) : Spec := { f := 107, ins := ⟨[.sl Qf], []⟩, outs := [⟨[.b], []⟩], run := fun p k => (shows2_S N p.1.1).bind fun r => k ((r, ()), ()) }
theorem sp_shows2_ok (N : Nat) : SpecOK Try.prog (sp_shows2 N) := fn_sound (B := shows2_B) (loops := []) (leaves := []) (fun p => shows2_S N p.1.1) (fun r => ((r, ()), ())) shows2_rt (fun _ _ _ => rfl) (fun r z h => by cases h; rfl) Try.func107 (by kernel_rfl) (by kernel_rfl) (by kernel_rfl) rfl rfl (by kernel_rfl) (fun args w => Sem.pv_run _ _ _ (by kernel_rfl) w) (shows2_all N) mixed trivial (fun z E Xc hE hX hret => trivial) (fun p => shows2_eq N p.1.1)

def every1l_S (N : Nat) (x : List Qe) : Option Bool :=
 (shows2_S N x).bind fun x_1 =>
 some (!x_1)
noncomputable def every1l_sp (N : Nat) : List Spec := [sp_shows2 N]
theorem every1l_all (N : Nat) : AllP (SpecOK Try.prog) (every1l_sp N) := ⟨sp_shows2_ok N, trivial⟩
noncomputable def every1l_c : Code := (Try.f130.body).getD .skip
noncomputable abbrev every1l_B : Body := { c := every1l_c, n := 8, res := [.tmp 3], outs := [⟨[.b], [.segs [.fn 107 [] []]]⟩], m0 := 1 }
abbrev every1l_rt : altD every1l_B.outs → Option Bool := fun r => some r.1.1
abbrev every1l_st : Sta := ⟨[0, 1], ⟨[.sl Qf, .own 0 0], [.segs [.fn 107 [] []]]⟩⟩
theorem every1l_eq (N : Nat) (x : List Qe) : ev (Z := Bool) Try.prog (every1l_sp N) every1l_B [] [] (some every1l_rt) 400 false [.c [0], .c [1]] (stL every1l_st ((x, (), ()), ((((), ()), ()), ()))) (stH every1l_st ((x, (), ()), ((((), ()), ()), ()))) = every1l_S N x := by kernel_rfl
noncomputable def sp_every1l (N : Nat) : Spec := { f := 130, ins := ⟨[.sl Qf, .own 0 0], [.segs [.fn 107 [] []]]⟩, outs := [⟨[.b], [.segs [.fn 107 [] []]]⟩], run := fun p k => (every1l_S N p.1.1).bind fun r => k ((r, ()), ((((), ()), ()), ())) }
theorem sp_every1l_ok (N : Nat) : SpecOK Try.prog (sp_every1l N) := fn_sound (B := every1l_B) (loops := []) (leaves := []) (fun p => every1l_S N p.1.1) (fun r => ((r, ()), ((((), ()), ()), ()))) every1l_rt (fun _ _ _ => rfl) (fun r z h => by cases h; rfl) Try.func130 (by kernel_rfl) (by kernel_rfl) (by kernel_rfl) rfl rfl (by kernel_rfl) (fun args w => Sem.pv_run _ _ _ (by kernel_rfl) w) (every1l_all N) mixed trivial (fun z E Xc hE hX hret => trivial) (fun p => every1l_eq N p.1.1)

def ixfl_l1 (N : Nat) : Nat → (List Qj) → Int → Int → Option ((Int) ⊕ (Unit))
 | 0, _, _, _ => none
 | n_ + 1, s, u, u2 =>
  br (decide (u2 < u))
   (idx s u2 fun x_1 =>
   (every1l_S N x_1).bind fun x_2 =>
   br x_2
    (some (.inl u2))
    (chk (u2 + 1) <|
    ixfl_l1 N n_ s u (u2 + 1)))
   (some (.inr ()))
def ixfl_S (N : Nat) (s : List Qj) : Option Int :=
 (ixfl_l1 N N s (s.length : Int) 0).bind fun e => match e with
 | .inl i_3 =>
  some i_3
 | .inr _ =>
  some (-1)
noncomputable def ixfl_sp (N : Nat) : List Spec := [sp_every1l N]
theorem ixfl_all (N : Nat) : AllP (SpecOK Try.prog) (ixfl_sp N) := ⟨sp_every1l_ok N, trivial⟩
noncomputable def ixfl_c : Code := (Try.f135.body).getD .skip
noncomputable abbrev ixfl_B : Body := { c := ixfl_c, n := 19, res := [.tmp 4], outs := [⟨[.i .i64], [.segs [.fn 107 [] []]]⟩], m0 := 1 }
abbrev ixfl_rt : altD ixfl_B.outs → Option Int := fun r => some r.1.1
abbrev ixfl_l1_at : List PI := [.c [1, 0, 1, 0, 0, 0], .c [1, 0, 1, 0, 0, 1], .l [1, 0, 1, 0, 0], .b 0, .c [1, 1]]
abbrev ixfl_l1_st : Sta := ⟨[0, 1, 7, 8], ⟨[.sl (.sl Qf), .fn 130 [] [.own 0 0], .i .i64, .i .i64], [.segs [.fn 107 [] []]]⟩⟩
abbrev ixfl_l1_h (rec : (List Qj) → Int → Int → Option ((Int) ⊕ (Unit))) : Leaf ((Int) ⊕ (Unit)) := ⟨ixfl_l1_at, ixfl_l1_st, fun p => rec p.1.1 p.1.2.2.1 p.1.2.2.2.1⟩
abbrev ixfl_l1_e0 : Leaf ((Int) ⊕ (Unit)) := ⟨[.c [1, 0, 1, 0, 0, 1, 1, 0, 0, 1, 1, 0, 0], .c [1, 0, 1, 0, 0, 1, 1, 0, 0, 1, 1, 0, 1], .b 1, .c [1, 0, 1, 0, 0, 1, 1, 1], .l [1, 0, 1, 0, 0], .b 0, .c [1, 1]], ⟨[5], ⟨[.i .i64], [.segs [.fn 107 [] []]]⟩⟩, fun p => some (.inl p.1.1)⟩
abbrev ixfl_l1_e1 : Leaf ((Int) ⊕ (Unit)) := ⟨[.c [1, 1, 0], .c [1, 1, 1]], ⟨[], ⟨[], [.segs [.fn 107 [] []]]⟩⟩, fun p => some (.inr ())⟩
noncomputable def ixfl_l1_L (N : Nat) : LoopS := { at_ := ixfl_l1_at, sta := ixfl_l1_st, exits := [([.c [1, 0, 1, 0, 0, 1, 1, 0, 0, 1, 1, 0, 0], .c [1, 0, 1, 0, 0, 1, 1, 0, 0, 1, 1, 0, 1], .b 1, .c [1, 0, 1, 0, 0, 1, 1, 1], .l [1, 0, 1, 0, 0], .b 0, .c [1, 1]], ⟨[5], ⟨[.i .i64], [.segs [.fn 107 [] []]]⟩⟩), ([.c [1, 1, 0], .c [1, 1, 1]], ⟨[], ⟨[], [.segs [.fn 107 [] []]]⟩⟩)], run := fun p k => (ixfl_l1 N N p.1.1 p.1.2.2.1 p.1.2.2.2.1).bind fun e => match e with | .inl x => k (.inl ((x, ()), ((((), ()), ()), ()))) | .inr x => k (.inr (.inl ((), ((((), ()), ()), ())))) }
theorem ixfl_l1_eq (N n_ : Nat) (s : List Qj) (u : Int) (u2 : Int) : ev (Z := (Int) ⊕ (Unit)) Try.prog (ixfl_sp N) ixfl_B [] [ixfl_l1_h (ixfl_l1 N n_), ixfl_l1_e0, ixfl_l1_e1] none 400 true ixfl_l1_at (stL ixfl_l1_st ((s, ((), ((), ())), u, u2, ()), ((((), ()), ()), ()))) (stH ixfl_l1_st ((s, ((), ((), ())), u, u2, ()), ((((), ()), ()), ()))) = ixfl_l1 N (n_ + 1) s u u2 := by kernel_rfl
theorem ixfl_l1_ok (N : Nat) {top : Bool} : LoopOK Try.prog ixfl_B.c ixfl_B.n ixfl_B.m0 top (ixfl_l1_L N) := loop_of_ev (Z := (Int) ⊕ (Unit)) (N := N) (fun m p => ixfl_l1 N m p.1.1 p.1.2.2.1 p.1.2.2.2.1) (fun e => match e with | .inl x => .inl ((x, ()), ((((), ()), ()), ())) | .inr x => .inr (.inl ((), ((((), ()), ()), ())))) (fun _ p k => bind_congr_ (ixfl_l1 N N p.1.1 p.1.2.2.1 p.1.2.2.2.1) _ _ (fun e => by rcases e with x | x <;> rfl)) (fun _ => rfl) (fun m z E Xc hE hX hrec hx => leaf_of_ev (B := ixfl_B) (loops := []) (leaves := [ixfl_l1_h (ixfl_l1 N m), ixfl_l1_e0, ixfl_l1_e1]) (ixfl_all N) mixed trivial hE hX ⟨hrec, (fun p hp => by obtain rfl := Option.some.inj hp; exact hx), (fun p hp => by obtain rfl := Option.some.inj hp; exact hx), trivial⟩ RetOK.no (fun p => ixfl_l1_eq N m p.1.1 p.1.2.2.1 p.1.2.2.2.1))
abbrev ixfl_st : Sta := ⟨[0, 1], ⟨[.sl (.sl Qf), .fn 130 [] [.own 0 0]], [.segs [.fn 107 [] []]]⟩⟩
theorem ixfl_eq (N : Nat) (s : List Qj) : ev (Z := Int) Try.prog (ixfl_sp N) ixfl_B [ixfl_l1_L N] [] (some ixfl_rt) 400 false [.c [0], .c [1]] (stL ixfl_st ((s, ((), ((), ())), ()), ((((), ()), ()), ()))) (stH ixfl_st ((s, ((), ((), ())), ()), ((((), ()), ()), ()))) = ixfl_S N s := by kernel_rfl
noncomputable def sp_ixfl (N : Nat) : Spec := { f := 135, ins := ⟨[.sl (.sl Qf), .fn 130 [] [.own 0 0]], [.segs [.fn 107 [] []]]⟩, outs := [⟨[.i .i64], [.segs [.fn 107 [] []]]⟩], run := fun p k => (ixfl_S N p.1.1).bind fun r => k ((r, ()), ((((), ()), ()), ())) }
theorem sp_ixfl_ok (N : Nat) : SpecOK Try.prog (sp_ixfl N) := fn_sound (B := ixfl_B) (loops := [ixfl_l1_L N]) (leaves := []) (fun p => ixfl_S N p.1.1) (fun r => ((r, ()), ((((), ()), ()), ()))) ixfl_rt (fun _ _ _ => rfl) (fun r z h => by cases h; rfl) Try.func135 (by kernel_rfl) (by kernel_rfl) (by kernel_rfl) rfl rfl (by kernel_rfl) (fun args w => Sem.pv_run _ _ _ (by kernel_rfl) w) (ixfl_all N) mixed ⟨ixfl_l1_ok N, trivial⟩ (fun z E Xc hE hX hret => trivial) (fun p => ixfl_eq N p.1.1)

def cofl_S (N : Nat) (s : List Qj) : Option Bool :=
 (ixfl_S N s).bind fun x_1 =>
 some (decide (0 ≤ x_1))
noncomputable def cofl_sp (N : Nat) : List Spec := [sp_ixfl N]
theorem cofl_all (N : Nat) : AllP (SpecOK Try.prog) (cofl_sp N) := ⟨sp_ixfl_ok N, trivial⟩
noncomputable def cofl_c : Code := (Try.f129.body).getD .skip
noncomputable abbrev cofl_B : Body := { c := cofl_c, n := 9, res := [.tmp 4], outs := [⟨[.b], [.segs [.fn 107 [] []]]⟩], m0 := 1 }
abbrev cofl_rt : altD cofl_B.outs → Option Bool := fun r => some r.1.1
abbrev cofl_st : Sta := ⟨[0, 1], ⟨[.sl (.sl Qf), .fn 130 [] [.own 0 0]], [.segs [.fn 107 [] []]]⟩⟩
theorem cofl_eq (N : Nat) (s : List Qj) : ev (Z := Bool) Try.prog (cofl_sp N) cofl_B [] [] (some cofl_rt) 400 false [.c [0], .c [1]] (stL cofl_st ((s, ((), ((), ())), ()), ((((), ()), ()), ()))) (stH cofl_st ((s, ((), ((), ())), ()), ((((), ()), ()), ()))) = cofl_S N s := by kernel_rfl
noncomputable def sp_cofl (N : Nat) : Spec := { f := 129, ins := ⟨[.sl (.sl Qf), .fn 130 [] [.own 0 0]], [.segs [.fn 107 [] []]]⟩, outs := [⟨[.b], [.segs [.fn 107 [] []]]⟩], run := fun p k => (cofl_S N p.1.1).bind fun r => k ((r, ()), ((((), ()), ()), ())) }
theorem sp_cofl_ok (N : Nat) : SpecOK Try.prog (sp_cofl N) := fn_sound (B := cofl_B) (loops := []) (leaves := []) (fun p => cofl_S N p.1.1) (fun r => ((r, ()), ((((), ()), ()), ()))) cofl_rt (fun _ _ _ => rfl) (fun r z h => by cases h; rfl) Try.func129 (by kernel_rfl) (by kernel_rfl) (by kernel_rfl) rfl rfl (by kernel_rfl) (fun args w => Sem.pv_run _ _ _ (by kernel_rfl) w) (cofl_all N) mixed trivial (fun z E Xc hE hX hret => trivial) (fun p => cofl_eq N p.1.1)

def everyl_S (N : Nat) (l : List Qj) : Option Bool :=
 (cofl_S N l).bind fun x_1 =>
 some (!x_1)
noncomputable def everyl_sp (N : Nat) : List Spec := [sp_cofl N]
theorem everyl_all (N : Nat) : AllP (SpecOK Try.prog) (everyl_sp N) := ⟨sp_cofl_ok N, trivial⟩
noncomputable def everyl_c : Code := (Try.f104.body).getD .skip
noncomputable abbrev everyl_B : Body := { c := everyl_c, n := 9, res := [.tmp 4], outs := [⟨[.b], []⟩], m0 := 0 }
abbrev everyl_rt : altD everyl_B.outs → Option Bool := fun r => some r.1.1
abbrev everyl_st : Sta := ⟨[0, 1], ⟨[.sl (.sl Qf), .fn 107 [] []], []⟩⟩
theorem everyl_eq (N : Nat) (l : List Qj) : ev (Z := Bool) Try.prog (everyl_sp N) everyl_B [] [] (some everyl_rt) 400 false [.c [0], .c [1]] (stL everyl_st ((l, ((), ()), ()), ())) (stH everyl_st ((l, ((), ()), ()), ())) = everyl_S N l := by kernel_rfl
noncomputable def sp_everyl (N : Nat) : Spec := { f := 104, ins := ⟨[.sl (.sl Qf), .fn 107 [] []], []⟩, outs := [⟨[.b], []⟩], run := fun p k => (everyl_S N p.1.1).bind fun r => k ((r, ()), ()) }
theorem sp_everyl_ok (N : Nat) : SpecOK Try.prog (sp_everyl N) := fn_sound (B := everyl_B) (loops := []) (leaves := []) (fun p => everyl_S N p.1.1) (fun r => ((r, ()), ())) everyl_rt (fun _ _ _ => rfl) (fun r z h => by cases h; rfl) Try.func104 (by kernel_rfl) (by kernel_rfl) (by kernel_rfl) rfl rfl (by kernel_rfl) (fun args w => Sem.pv_run _ _ _ (by kernel_rfl) w) (everyl_all N) mixed trivial (fun z E Xc hE hX hret => trivial) (fun p => everyl_eq N p.1.1)

def shows_l3 (N : Nat) : Nat → Int → Int → (List Qj) → Int → Int → Qj → Int → Int → Qe → Int → Int → (Qa) → Qe → Option ((Unit) ⊕ Qv)
 | 0, _, _, _, _, _, _, _, _, _, _, _, _, _ => none
 | n_ + 1, i, a, u, u2, u3, u4, u5, u6, u7, u8, u9, d, g =>
  br (decide (u9 < u8))
   (idx u7 u9 fun x_7 =>
   rng i 11 <|
   rng a 7 <|
   rng u9 7 <|
   get g (((i.toNat * 49) + a.toNat * 7) + u9.toNat) fun _ =>
   (bound_S N d i a u9 (g.set (((i.toNat * 49) + a.toNat * 7) + u9.toNat) x_7)).bind fun (x_9, y_10) =>
   br (decide (x_9 < x_7))
    (some (.inl ()))
    (chk (u9 + 1) <|
    shows_l3 N n_ i a u u2 u3 u4 u5 u6 u7 u8 (u9 + 1) d y_10))
   (some (.inr (i, u, u2, u3, u4, u5, u6, d, g)))
def shows_l2 (N : Nat) : Nat → Int → (List Qj) → Int → Int → Qj → Int → Int → (Qa) → Qe → Option ((Unit) ⊕ (List Qj × Int × Int × Qa × List Int))
 | 0, _, _, _, _, _, _, _, _, _ => none
 | n_ + 1, i, u, u2, u3, u4, u5, u6, d, g =>
  br (decide (u6 < u5))
   (idx u4 u6 fun x_6 =>
   (shows_l3 N N i u6 u u2 u3 u4 u5 u6 x_6 (x_6.length : Int) 0 d g).bind fun e => match e with
   | .inl _ =>
    some (.inl ())
   | .inr (i_11, u_12, u2_13, u3_14, u4_15, u5_16, u6_17, d_18, g_19) =>
    chk (u6_17 + 1) <|
    shows_l2 N n_ i_11 u_12 u2_13 u3_14 u4_15 u5_16 (u6_17 + 1) d_18 g_19)
   (some (.inr (u, u2, u3, d, g)))
def shows_l1 (N : Nat) : Nat → (List Qj) → Int → Int → (Qa) → Qe → Option ((Unit) ⊕ (Qa × List Int))
 | 0, _, _, _, _, _ => none
 | n_ + 1, u, u2, u3, d, g =>
  br (decide (u3 < u2))
   (idx u u3 fun x_5 =>
   (shows_l2 N N u3 u u2 u3 x_5 (x_5.length : Int) 0 d g).bind fun e => match e with
   | .inl _ =>
    some (.inl ())
   | .inr (u_20, u2_21, u3_22, d_23, g_24) =>
    chk (u3_22 + 1) <|
    shows_l1 N n_ u_20 u2_21 (u3_22 + 1) d_23 g_24)
   (some (.inr (d, g)))
def shows_S (N : Nat) (e : List Qe) (e2 : List Int) (e3 : Int) (p : Int) (p2 : Int) (marks : List Qj) : Option Qc :=
 ((opened_S N e e2 e3 p p2).bind fun e => match e with
 | .inl (x_1, y_2) =>
  (br (!decide (y_2 = 0))
   (some (0, y_2))
   (chk ((x_1.2.1.length : Int) + 1) <|
   br (!decide ((marks.length : Int) = ((x_1.2.1.length : Int) + 1)))
    (some (0, 2))
    ((everyh_S N marks x_1).bind fun x_3 =>
    br (!x_3)
     (some (0, 2))
     ((everyl_S N marks).bind fun x_4 =>
     br (!x_4)
      (some (0, 3))
      ((shows_l1 N N marks (marks.length : Int) 0 x_1 (List.replicate 539 (0 : Int))).bind fun e => match e with
      | .inl _ =>
       some (0, 8)
      | .inr (d_25, g_26) =>
       rng (d_25.2.1.length : Int) 11 <|
       rng (d_25.2.2.2.1.length : Int) 7 <|
       rng (d_25.2.2.2.2.length : Int) 7 <|
       get g_26 ((((d_25.2.1.length : Int).toNat * 49) + (d_25.2.2.2.1.length : Int).toNat * 7) + (d_25.2.2.2.2.length : Int).toNat) fun x_27 =>
       some (x_27, 0))))))
 | .inr x_28 =>
  (br (!decide (x_28 = 0))
   (some (0, x_28))
   (none)))
noncomputable def shows_sp (N : Nat) : List Spec := [sp_opened N, sp_bound N, sp_everyh N, sp_everyl N]
theorem shows_all (N : Nat) : AllP (SpecOK Try.prog) (shows_sp N) := ⟨sp_opened_ok N, sp_bound_ok N, sp_everyh_ok N, sp_everyl_ok N, trivial⟩
noncomputable def shows_c : Code := (Try.f65.body).getD .skip
noncomputable abbrev shows_B : Body := { c := shows_c, n := 106, res := [.tmp 6, .tmp 7], outs := [⟨[.i .i64, .i .i64], []⟩], m0 := 0 }
abbrev shows_rt : altD shows_B.outs → Option Qc := fun r => some (r.1.1, r.1.2.1)
abbrev shows_l3_at : List PI := [.c [1, 1, 1, 1, 0, 1, 0, 0, 1, 1, 0, 0, 1, 1, 0, 0, 1, 1, 0, 0, 1, 1, 0, 0, 0], .c [1, 1, 1, 1, 0, 1, 0, 0, 1, 1, 0, 0, 1, 1, 0, 0, 1, 1, 0, 0, 1, 1, 0, 0, 1], .l [1, 1, 1, 1, 0, 1, 0, 0, 1, 1, 0, 0, 1, 1, 0, 0, 1, 1, 0, 0, 1, 1, 0, 0], .b 5, .b 4, .c [1, 1, 1, 1, 0, 1, 0, 0, 1, 1, 0, 0, 1, 1, 0, 0, 1, 1, 1], .l [1, 1, 1, 1, 0, 1, 0, 0, 1, 1, 0, 0, 1, 1, 0, 0], .b 3, .b 2, .c [1, 1, 1, 1, 0, 1, 0, 0, 1, 1, 1], .l [1, 1, 1, 1, 0, 1, 0, 0], .b 1, .c [1, 1, 1, 1, 1]]
abbrev shows_l3_st : Sta := ⟨[8, 10, 11, 13, 48, 49, 50, 55, 56, 57, 62, 63, 64], ⟨[.own 0 0, .own 1 0, .i .i64, .i .i64, .sl (.sl Qf), .i .i64, .i .i64, .sl Qf, .i .i64, .i .i64, .sl (.int .i64), .i .i64, .i .i64], [.segs [.fe Qb], .segs [.arr (.int .i64) 539]]⟩⟩
abbrev shows_l3_h (rec : Int → Int → (List Qj) → Int → Int → Qj → Int → Int → Qe → Int → Int → (Qa) → Qe → Option ((Unit) ⊕ Qv)) : Leaf ((Unit) ⊕ Qv) := ⟨shows_l3_at, shows_l3_st, fun p => rec p.1.2.2.1 p.1.2.2.2.1 p.1.2.2.2.2.1 p.1.2.2.2.2.2.1 p.1.2.2.2.2.2.2.1 p.1.2.2.2.2.2.2.2.1 p.1.2.2.2.2.2.2.2.2.1 p.1.2.2.2.2.2.2.2.2.2.1 p.1.2.2.2.2.2.2.2.2.2.2.1 p.1.2.2.2.2.2.2.2.2.2.2.2.1 p.1.2.2.2.2.2.2.2.2.2.2.2.2.1 p.2.1.1 p.2.2.1.1⟩
abbrev shows_l3_e0 : Leaf ((Unit) ⊕ Qv) := ⟨[.c [1, 1, 1, 1, 0, 1, 0, 0, 1, 1, 0, 0, 1, 1, 0, 0, 1, 1, 0, 0, 1, 1, 0, 0, 1, 1, 0, 0, 1, 1, 1, 0, 0], .c [1, 1, 1, 1, 0, 1, 0, 0, 1, 1, 0, 0, 1, 1, 0, 0, 1, 1, 0, 0, 1, 1, 0, 0, 1, 1, 0, 0, 1, 1, 1, 0, 1], .b 6, .c [1, 1, 1, 1, 0, 1, 0, 0, 1, 1, 0, 0, 1, 1, 0, 0, 1, 1, 0, 0, 1, 1, 0, 0, 1, 1, 1], .l [1, 1, 1, 1, 0, 1, 0, 0, 1, 1, 0, 0, 1, 1, 0, 0, 1, 1, 0, 0, 1, 1, 0, 0], .b 5, .b 4, .c [1, 1, 1, 1, 0, 1, 0, 0, 1, 1, 0, 0, 1, 1, 0, 0, 1, 1, 1], .l [1, 1, 1, 1, 0, 1, 0, 0, 1, 1, 0, 0, 1, 1, 0, 0], .b 3, .b 2, .c [1, 1, 1, 1, 0, 1, 0, 0, 1, 1, 1], .l [1, 1, 1, 1, 0, 1, 0, 0], .b 1, .c [1, 1, 1, 1, 1]], ⟨[], ⟨[], []⟩⟩, fun p => some (.inl ())⟩
abbrev shows_l3_e1 : Leaf ((Unit) ⊕ Qv) := ⟨[.c [1, 1, 1, 1, 0, 1, 0, 0, 1, 1, 0, 0, 1, 1, 0, 0, 1, 1, 1], .l [1, 1, 1, 1, 0, 1, 0, 0, 1, 1, 0, 0, 1, 1, 0, 0], .b 3, .b 2, .c [1, 1, 1, 1, 0, 1, 0, 0, 1, 1, 1], .l [1, 1, 1, 1, 0, 1, 0, 0], .b 1, .c [1, 1, 1, 1, 1]], ⟨[8, 10, 11, 48, 49, 50, 55, 56, 57], ⟨[.own 0 0, .own 1 0, .i .i64, .sl (.sl Qf), .i .i64, .i .i64, .sl Qf, .i .i64, .i .i64], [.segs [.fe Qb], .segs [.arr (.int .i64) 539]]⟩⟩, fun p => some (.inr (p.1.2.2.1, p.1.2.2.2.1, p.1.2.2.2.2.1, p.1.2.2.2.2.2.1, p.1.2.2.2.2.2.2.1, p.1.2.2.2.2.2.2.2.1, p.1.2.2.2.2.2.2.2.2.1, p.2.1.1, p.2.2.1.1))⟩
noncomputable def shows_l3_L (N : Nat) : LoopS := { at_ := shows_l3_at, sta := shows_l3_st, exits := [([.c [1, 1, 1, 1, 0, 1, 0, 0, 1, 1, 0, 0, 1, 1, 0, 0, 1, 1, 0, 0, 1, 1, 0, 0, 1, 1, 0, 0, 1, 1, 1, 0, 0], .c [1, 1, 1, 1, 0, 1, 0, 0, 1, 1, 0, 0, 1, 1, 0, 0, 1, 1, 0, 0, 1, 1, 0, 0, 1, 1, 0, 0, 1, 1, 1, 0, 1], .b 6, .c [1, 1, 1, 1, 0, 1, 0, 0, 1, 1, 0, 0, 1, 1, 0, 0, 1, 1, 0, 0, 1, 1, 0, 0, 1, 1, 1], .l [1, 1, 1, 1, 0, 1, 0, 0, 1, 1, 0, 0, 1, 1, 0, 0, 1, 1, 0, 0, 1, 1, 0, 0], .b 5, .b 4, .c [1, 1, 1, 1, 0, 1, 0, 0, 1, 1, 0, 0, 1, 1, 0, 0, 1, 1, 1], .l [1, 1, 1, 1, 0, 1, 0, 0, 1, 1, 0, 0, 1, 1, 0, 0], .b 3, .b 2, .c [1, 1, 1, 1, 0, 1, 0, 0, 1, 1, 1], .l [1, 1, 1, 1, 0, 1, 0, 0], .b 1, .c [1, 1, 1, 1, 1]], ⟨[], ⟨[], []⟩⟩), ([.c [1, 1, 1, 1, 0, 1, 0, 0, 1, 1, 0, 0, 1, 1, 0, 0, 1, 1, 1], .l [1, 1, 1, 1, 0, 1, 0, 0, 1, 1, 0, 0, 1, 1, 0, 0], .b 3, .b 2, .c [1, 1, 1, 1, 0, 1, 0, 0, 1, 1, 1], .l [1, 1, 1, 1, 0, 1, 0, 0], .b 1, .c [1, 1, 1, 1, 1]], ⟨[8, 10, 11, 48, 49, 50, 55, 56, 57], ⟨[.own 0 0, .own 1 0, .i .i64, .sl (.sl Qf), .i .i64, .i .i64, .sl Qf, .i .i64, .i .i64], [.segs [.fe Qb], .segs [.arr (.int .i64) 539]]⟩⟩)], run := fun p k => (shows_l3 N N p.1.2.2.1 p.1.2.2.2.1 p.1.2.2.2.2.1 p.1.2.2.2.2.2.1 p.1.2.2.2.2.2.2.1 p.1.2.2.2.2.2.2.2.1 p.1.2.2.2.2.2.2.2.2.1 p.1.2.2.2.2.2.2.2.2.2.1 p.1.2.2.2.2.2.2.2.2.2.2.1 p.1.2.2.2.2.2.2.2.2.2.2.2.1 p.1.2.2.2.2.2.2.2.2.2.2.2.2.1 p.2.1.1 p.2.2.1.1).bind fun e => match e with | .inl x => k (.inl ((), ())) | .inr x => k (.inr (.inl (((), (), x.1, x.2.1, x.2.2.1, x.2.2.2.1, x.2.2.2.2.1, x.2.2.2.2.2.1, x.2.2.2.2.2.2.1, ()), ((x.2.2.2.2.2.2.2.1, ()), (x.2.2.2.2.2.2.2.2, ()), ())))) }
theorem shows_l3_eq (N n_ : Nat) (i : Int) (a : Int) (u : List Qj) (u2 : Int) (u3 : Int) (u4 : List Qe) (u5 : Int) (u6 : Int) (u7 : List Int) (u8 : Int) (u9 : Int) (d : Qa) (g : List Int) : ev (Z := (Unit) ⊕ Qv) Try.prog (shows_sp N) shows_B [] [shows_l3_h (shows_l3 N n_), shows_l3_e0, shows_l3_e1] none 400 true shows_l3_at (stL shows_l3_st (((), (), i, a, u, u2, u3, u4, u5, u6, u7, u8, u9, ()), ((d, ()), (g, ()), ()))) (stH shows_l3_st (((), (), i, a, u, u2, u3, u4, u5, u6, u7, u8, u9, ()), ((d, ()), (g, ()), ()))) = shows_l3 N (n_ + 1) i a u u2 u3 u4 u5 u6 u7 u8 u9 d g := by kernel_rfl
theorem shows_l3_ok (N : Nat) {top : Bool} : LoopOK Try.prog shows_B.c shows_B.n shows_B.m0 top (shows_l3_L N) := loop_of_ev (Z := (Unit) ⊕ Qv) (N := N) (fun m p => shows_l3 N m p.1.2.2.1 p.1.2.2.2.1 p.1.2.2.2.2.1 p.1.2.2.2.2.2.1 p.1.2.2.2.2.2.2.1 p.1.2.2.2.2.2.2.2.1 p.1.2.2.2.2.2.2.2.2.1 p.1.2.2.2.2.2.2.2.2.2.1 p.1.2.2.2.2.2.2.2.2.2.2.1 p.1.2.2.2.2.2.2.2.2.2.2.2.1 p.1.2.2.2.2.2.2.2.2.2.2.2.2.1 p.2.1.1 p.2.2.1.1) (fun e => match e with | .inl x => .inl ((), ()) | .inr x => .inr (.inl (((), (), x.1, x.2.1, x.2.2.1, x.2.2.2.1, x.2.2.2.2.1, x.2.2.2.2.2.1, x.2.2.2.2.2.2.1, ()), ((x.2.2.2.2.2.2.2.1, ()), (x.2.2.2.2.2.2.2.2, ()), ())))) (fun _ p k => bind_congr_ (shows_l3 N N p.1.2.2.1 p.1.2.2.2.1 p.1.2.2.2.2.1 p.1.2.2.2.2.2.1 p.1.2.2.2.2.2.2.1 p.1.2.2.2.2.2.2.2.1 p.1.2.2.2.2.2.2.2.2.1 p.1.2.2.2.2.2.2.2.2.2.1 p.1.2.2.2.2.2.2.2.2.2.2.1 p.1.2.2.2.2.2.2.2.2.2.2.2.1 p.1.2.2.2.2.2.2.2.2.2.2.2.2.1 p.2.1.1 p.2.2.1.1) _ _ (fun e => by rcases e with x | x <;> rfl)) (fun _ => rfl) (fun m z E Xc hE hX hrec hx => leaf_of_ev (B := shows_B) (loops := []) (leaves := [shows_l3_h (shows_l3 N m), shows_l3_e0, shows_l3_e1]) (shows_all N) mixed trivial hE hX ⟨hrec, (fun p hp => by obtain rfl := Option.some.inj hp; exact hx), (fun p hp => by obtain rfl := Option.some.inj hp; exact hx), trivial⟩ RetOK.no (fun p => shows_l3_eq N m p.1.2.2.1 p.1.2.2.2.1 p.1.2.2.2.2.1 p.1.2.2.2.2.2.1 p.1.2.2.2.2.2.2.1 p.1.2.2.2.2.2.2.2.1 p.1.2.2.2.2.2.2.2.2.1 p.1.2.2.2.2.2.2.2.2.2.1 p.1.2.2.2.2.2.2.2.2.2.2.1 p.1.2.2.2.2.2.2.2.2.2.2.2.1 p.1.2.2.2.2.2.2.2.2.2.2.2.2.1 p.2.1.1 p.2.2.1.1))
abbrev shows_l2_at : List PI := [.c [1, 1, 1, 1, 0, 1, 0, 0, 1, 1, 0, 0, 1, 1, 0, 0, 0], .c [1, 1, 1, 1, 0, 1, 0, 0, 1, 1, 0, 0, 1, 1, 0, 0, 1], .l [1, 1, 1, 1, 0, 1, 0, 0, 1, 1, 0, 0, 1, 1, 0, 0], .b 3, .b 2, .c [1, 1, 1, 1, 0, 1, 0, 0, 1, 1, 1], .l [1, 1, 1, 1, 0, 1, 0, 0], .b 1, .c [1, 1, 1, 1, 1]]
abbrev shows_l2_st : Sta := ⟨[8, 10, 11, 48, 49, 50, 55, 56, 57], ⟨[.own 0 0, .own 1 0, .i .i64, .sl (.sl Qf), .i .i64, .i .i64, .sl Qf, .i .i64, .i .i64], [.segs [.fe Qb], .segs [.arr (.int .i64) 539]]⟩⟩
abbrev shows_l2_h (rec : Int → (List Qj) → Int → Int → Qj → Int → Int → (Qa) → Qe → Option ((Unit) ⊕ (List Qj × Int × Int × Qa × List Int))) : Leaf ((Unit) ⊕ (List Qj × Int × Int × Qa × List Int)) := ⟨shows_l2_at, shows_l2_st, fun p => rec p.1.2.2.1 p.1.2.2.2.1 p.1.2.2.2.2.1 p.1.2.2.2.2.2.1 p.1.2.2.2.2.2.2.1 p.1.2.2.2.2.2.2.2.1 p.1.2.2.2.2.2.2.2.2.1 p.2.1.1 p.2.2.1.1⟩
abbrev shows_l2_e0 : Leaf ((Unit) ⊕ (List Qj × Int × Int × Qa × List Int)) := ⟨[.c [1, 1, 1, 1, 0, 1, 0, 0, 1, 1, 0, 0, 1, 1, 0, 0, 1, 1, 0, 0, 1, 1, 0, 0, 1, 1, 0, 0, 1, 1, 1, 0, 0], .c [1, 1, 1, 1, 0, 1, 0, 0, 1, 1, 0, 0, 1, 1, 0, 0, 1, 1, 0, 0, 1, 1, 0, 0, 1, 1, 0, 0, 1, 1, 1, 0, 1], .b 6, .c [1, 1, 1, 1, 0, 1, 0, 0, 1, 1, 0, 0, 1, 1, 0, 0, 1, 1, 0, 0, 1, 1, 0, 0, 1, 1, 1], .l [1, 1, 1, 1, 0, 1, 0, 0, 1, 1, 0, 0, 1, 1, 0, 0, 1, 1, 0, 0, 1, 1, 0, 0], .b 5, .b 4, .c [1, 1, 1, 1, 0, 1, 0, 0, 1, 1, 0, 0, 1, 1, 0, 0, 1, 1, 1], .l [1, 1, 1, 1, 0, 1, 0, 0, 1, 1, 0, 0, 1, 1, 0, 0], .b 3, .b 2, .c [1, 1, 1, 1, 0, 1, 0, 0, 1, 1, 1], .l [1, 1, 1, 1, 0, 1, 0, 0], .b 1, .c [1, 1, 1, 1, 1]], ⟨[], ⟨[], []⟩⟩, fun p => some (.inl ())⟩
abbrev shows_l2_e1 : Leaf ((Unit) ⊕ (List Qj × Int × Int × Qa × List Int)) := ⟨[.c [1, 1, 1, 1, 0, 1, 0, 0, 1, 1, 1], .l [1, 1, 1, 1, 0, 1, 0, 0], .b 1, .c [1, 1, 1, 1, 1]], ⟨[8, 10, 48, 49, 50], ⟨[.own 0 0, .own 1 0, .sl (.sl Qf), .i .i64, .i .i64], [.segs [.fe Qb], .segs [.arr (.int .i64) 539]]⟩⟩, fun p => some (.inr (p.1.2.2.1, p.1.2.2.2.1, p.1.2.2.2.2.1, p.2.1.1, p.2.2.1.1))⟩
noncomputable def shows_l2_L (N : Nat) : LoopS := { at_ := shows_l2_at, sta := shows_l2_st, exits := [([.c [1, 1, 1, 1, 0, 1, 0, 0, 1, 1, 0, 0, 1, 1, 0, 0, 1, 1, 0, 0, 1, 1, 0, 0, 1, 1, 0, 0, 1, 1, 1, 0, 0], .c [1, 1, 1, 1, 0, 1, 0, 0, 1, 1, 0, 0, 1, 1, 0, 0, 1, 1, 0, 0, 1, 1, 0, 0, 1, 1, 0, 0, 1, 1, 1, 0, 1], .b 6, .c [1, 1, 1, 1, 0, 1, 0, 0, 1, 1, 0, 0, 1, 1, 0, 0, 1, 1, 0, 0, 1, 1, 0, 0, 1, 1, 1], .l [1, 1, 1, 1, 0, 1, 0, 0, 1, 1, 0, 0, 1, 1, 0, 0, 1, 1, 0, 0, 1, 1, 0, 0], .b 5, .b 4, .c [1, 1, 1, 1, 0, 1, 0, 0, 1, 1, 0, 0, 1, 1, 0, 0, 1, 1, 1], .l [1, 1, 1, 1, 0, 1, 0, 0, 1, 1, 0, 0, 1, 1, 0, 0], .b 3, .b 2, .c [1, 1, 1, 1, 0, 1, 0, 0, 1, 1, 1], .l [1, 1, 1, 1, 0, 1, 0, 0], .b 1, .c [1, 1, 1, 1, 1]], ⟨[], ⟨[], []⟩⟩), ([.c [1, 1, 1, 1, 0, 1, 0, 0, 1, 1, 1], .l [1, 1, 1, 1, 0, 1, 0, 0], .b 1, .c [1, 1, 1, 1, 1]], ⟨[8, 10, 48, 49, 50], ⟨[.own 0 0, .own 1 0, .sl (.sl Qf), .i .i64, .i .i64], [.segs [.fe Qb], .segs [.arr (.int .i64) 539]]⟩⟩)], run := fun p k => (shows_l2 N N p.1.2.2.1 p.1.2.2.2.1 p.1.2.2.2.2.1 p.1.2.2.2.2.2.1 p.1.2.2.2.2.2.2.1 p.1.2.2.2.2.2.2.2.1 p.1.2.2.2.2.2.2.2.2.1 p.2.1.1 p.2.2.1.1).bind fun e => match e with | .inl x => k (.inl ((), ())) | .inr x => k (.inr (.inl (((), (), x.1, x.2.1, x.2.2.1, ()), ((x.2.2.2.1, ()), (x.2.2.2.2, ()), ())))) }
theorem shows_l2_eq (N n_ : Nat) (i : Int) (u : List Qj) (u2 : Int) (u3 : Int) (u4 : List Qe) (u5 : Int) (u6 : Int) (d : Qa) (g : List Int) : ev (Z := (Unit) ⊕ (List Qj × Int × Int × Qa × List Int)) Try.prog (shows_sp N) shows_B [shows_l3_L N] [shows_l2_h (shows_l2 N n_), shows_l2_e0, shows_l2_e1] none 400 true shows_l2_at (stL shows_l2_st (((), (), i, u, u2, u3, u4, u5, u6, ()), ((d, ()), (g, ()), ()))) (stH shows_l2_st (((), (), i, u, u2, u3, u4, u5, u6, ()), ((d, ()), (g, ()), ()))) = shows_l2 N (n_ + 1) i u u2 u3 u4 u5 u6 d g := by kernel_rfl
theorem shows_l2_ok (N : Nat) {top : Bool} : LoopOK Try.prog shows_B.c shows_B.n shows_B.m0 top (shows_l2_L N) := loop_of_ev (Z := (Unit) ⊕ (List Qj × Int × Int × Qa × List Int)) (N := N) (fun m p => shows_l2 N m p.1.2.2.1 p.1.2.2.2.1 p.1.2.2.2.2.1 p.1.2.2.2.2.2.1 p.1.2.2.2.2.2.2.1 p.1.2.2.2.2.2.2.2.1 p.1.2.2.2.2.2.2.2.2.1 p.2.1.1 p.2.2.1.1) (fun e => match e with | .inl x => .inl ((), ()) | .inr x => .inr (.inl (((), (), x.1, x.2.1, x.2.2.1, ()), ((x.2.2.2.1, ()), (x.2.2.2.2, ()), ())))) (fun _ p k => bind_congr_ (shows_l2 N N p.1.2.2.1 p.1.2.2.2.1 p.1.2.2.2.2.1 p.1.2.2.2.2.2.1 p.1.2.2.2.2.2.2.1 p.1.2.2.2.2.2.2.2.1 p.1.2.2.2.2.2.2.2.2.1 p.2.1.1 p.2.2.1.1) _ _ (fun e => by rcases e with x | x <;> rfl)) (fun _ => rfl) (fun m z E Xc hE hX hrec hx => leaf_of_ev (B := shows_B) (loops := [shows_l3_L N]) (leaves := [shows_l2_h (shows_l2 N m), shows_l2_e0, shows_l2_e1]) (shows_all N) mixed ⟨shows_l3_ok N, trivial⟩ hE hX ⟨hrec, (fun p hp => by obtain rfl := Option.some.inj hp; exact hx), (fun p hp => by obtain rfl := Option.some.inj hp; exact hx), trivial⟩ RetOK.no (fun p => shows_l2_eq N m p.1.2.2.1 p.1.2.2.2.1 p.1.2.2.2.2.1 p.1.2.2.2.2.2.1 p.1.2.2.2.2.2.2.1 p.1.2.2.2.2.2.2.2.1 p.1.2.2.2.2.2.2.2.2.1 p.2.1.1 p.2.2.1.1))
abbrev shows_l1_at : List PI := [.c [1, 1, 1, 1, 0, 1, 0, 0, 0], .c [1, 1, 1, 1, 0, 1, 0, 0, 1], .l [1, 1, 1, 1, 0, 1, 0, 0], .b 1, .c [1, 1, 1, 1, 1]]
abbrev shows_l1_st : Sta := ⟨[8, 10, 48, 49, 50], ⟨[.own 0 0, .own 1 0, .sl (.sl Qf), .i .i64, .i .i64], [.segs [.fe Qb], .segs [.arr (.int .i64) 539]]⟩⟩
abbrev shows_l1_h (rec : (List Qj) → Int → Int → (Qa) → Qe → Option ((Unit) ⊕ (Qa × List Int))) : Leaf ((Unit) ⊕ (Qa × List Int)) := ⟨shows_l1_at, shows_l1_st, fun p => rec p.1.2.2.1 p.1.2.2.2.1 p.1.2.2.2.2.1 p.2.1.1 p.2.2.1.1⟩
abbrev shows_l1_e0 : Leaf ((Unit) ⊕ (Qa × List Int)) := ⟨[.c [1, 1, 1, 1, 0, 1, 0, 0, 1, 1, 0, 0, 1, 1, 0, 0, 1, 1, 0, 0, 1, 1, 0, 0, 1, 1, 0, 0, 1, 1, 1, 0, 0], .c [1, 1, 1, 1, 0, 1, 0, 0, 1, 1, 0, 0, 1, 1, 0, 0, 1, 1, 0, 0, 1, 1, 0, 0, 1, 1, 0, 0, 1, 1, 1, 0, 1], .b 6, .c [1, 1, 1, 1, 0, 1, 0, 0, 1, 1, 0, 0, 1, 1, 0, 0, 1, 1, 0, 0, 1, 1, 0, 0, 1, 1, 1], .l [1, 1, 1, 1, 0, 1, 0, 0, 1, 1, 0, 0, 1, 1, 0, 0, 1, 1, 0, 0, 1, 1, 0, 0], .b 5, .b 4, .c [1, 1, 1, 1, 0, 1, 0, 0, 1, 1, 0, 0, 1, 1, 0, 0, 1, 1, 1], .l [1, 1, 1, 1, 0, 1, 0, 0, 1, 1, 0, 0, 1, 1, 0, 0], .b 3, .b 2, .c [1, 1, 1, 1, 0, 1, 0, 0, 1, 1, 1], .l [1, 1, 1, 1, 0, 1, 0, 0], .b 1, .c [1, 1, 1, 1, 1]], ⟨[], ⟨[], []⟩⟩, fun p => some (.inl ())⟩
abbrev shows_l1_e1 : Leaf ((Unit) ⊕ (Qa × List Int)) := ⟨[.c [1, 1, 1, 1, 1, 0], .c [1, 1, 1, 1, 1, 1]], ⟨[8, 10], ⟨[.own 0 0, .own 1 0], [.segs [.fe Qb], .segs [.arr (.int .i64) 539]]⟩⟩, fun p => some (.inr (p.2.1.1, p.2.2.1.1))⟩
noncomputable def shows_l1_L (N : Nat) : LoopS := { at_ := shows_l1_at, sta := shows_l1_st, exits := [([.c [1, 1, 1, 1, 0, 1, 0, 0, 1, 1, 0, 0, 1, 1, 0, 0, 1, 1, 0, 0, 1, 1, 0, 0, 1, 1, 0, 0, 1, 1, 1, 0, 0], .c [1, 1, 1, 1, 0, 1, 0, 0, 1, 1, 0, 0, 1, 1, 0, 0, 1, 1, 0, 0, 1, 1, 0, 0, 1, 1, 0, 0, 1, 1, 1, 0, 1], .b 6, .c [1, 1, 1, 1, 0, 1, 0, 0, 1, 1, 0, 0, 1, 1, 0, 0, 1, 1, 0, 0, 1, 1, 0, 0, 1, 1, 1], .l [1, 1, 1, 1, 0, 1, 0, 0, 1, 1, 0, 0, 1, 1, 0, 0, 1, 1, 0, 0, 1, 1, 0, 0], .b 5, .b 4, .c [1, 1, 1, 1, 0, 1, 0, 0, 1, 1, 0, 0, 1, 1, 0, 0, 1, 1, 1], .l [1, 1, 1, 1, 0, 1, 0, 0, 1, 1, 0, 0, 1, 1, 0, 0], .b 3, .b 2, .c [1, 1, 1, 1, 0, 1, 0, 0, 1, 1, 1], .l [1, 1, 1, 1, 0, 1, 0, 0], .b 1, .c [1, 1, 1, 1, 1]], ⟨[], ⟨[], []⟩⟩), ([.c [1, 1, 1, 1, 1, 0], .c [1, 1, 1, 1, 1, 1]], ⟨[8, 10], ⟨[.own 0 0, .own 1 0], [.segs [.fe Qb], .segs [.arr (.int .i64) 539]]⟩⟩)], run := fun p k => (shows_l1 N N p.1.2.2.1 p.1.2.2.2.1 p.1.2.2.2.2.1 p.2.1.1 p.2.2.1.1).bind fun e => match e with | .inl x => k (.inl ((), ())) | .inr x => k (.inr (.inl (((), (), ()), ((x.1, ()), (x.2, ()), ())))) }
theorem shows_l1_eq (N n_ : Nat) (u : List Qj) (u2 : Int) (u3 : Int) (d : Qa) (g : List Int) : ev (Z := (Unit) ⊕ (Qa × List Int)) Try.prog (shows_sp N) shows_B [shows_l3_L N, shows_l2_L N] [shows_l1_h (shows_l1 N n_), shows_l1_e0, shows_l1_e1] none 400 true shows_l1_at (stL shows_l1_st (((), (), u, u2, u3, ()), ((d, ()), (g, ()), ()))) (stH shows_l1_st (((), (), u, u2, u3, ()), ((d, ()), (g, ()), ()))) = shows_l1 N (n_ + 1) u u2 u3 d g := by kernel_rfl
theorem shows_l1_ok (N : Nat) {top : Bool} : LoopOK Try.prog shows_B.c shows_B.n shows_B.m0 top (shows_l1_L N) := loop_of_ev (Z := (Unit) ⊕ (Qa × List Int)) (N := N) (fun m p => shows_l1 N m p.1.2.2.1 p.1.2.2.2.1 p.1.2.2.2.2.1 p.2.1.1 p.2.2.1.1) (fun e => match e with | .inl x => .inl ((), ()) | .inr x => .inr (.inl (((), (), ()), ((x.1, ()), (x.2, ()), ())))) (fun _ p k => bind_congr_ (shows_l1 N N p.1.2.2.1 p.1.2.2.2.1 p.1.2.2.2.2.1 p.2.1.1 p.2.2.1.1) _ _ (fun e => by rcases e with x | x <;> rfl)) (fun _ => rfl) (fun m z E Xc hE hX hrec hx => leaf_of_ev (B := shows_B) (loops := [shows_l3_L N, shows_l2_L N]) (leaves := [shows_l1_h (shows_l1 N m), shows_l1_e0, shows_l1_e1]) (shows_all N) mixed ⟨shows_l3_ok N, shows_l2_ok N, trivial⟩ hE hX ⟨hrec, (fun p hp => by obtain rfl := Option.some.inj hp; exact hx), (fun p hp => by obtain rfl := Option.some.inj hp; exact hx), trivial⟩ RetOK.no (fun p => shows_l1_eq N m p.1.2.2.1 p.1.2.2.2.1 p.1.2.2.2.2.1 p.2.1.1 p.2.2.1.1))
abbrev shows_st : Sta := ⟨[0, 1, 2], ⟨[.agg [.sl Qf, .sl (.int .i64), .i .i64], .agg [.i .i64, .i .i64], .sl (.sl Qf)], []⟩⟩
theorem shows_eq (N : Nat) (e : List Qe) (e2 : List Int) (e3 : Int) (p : Int) (p2 : Int) (marks : List Qj) : ev (Z := Int × Int) Try.prog (shows_sp N) shows_B [shows_l3_L N, shows_l2_L N, shows_l1_L N] [] (some shows_rt) 400 false [.c [0], .c [1]] (stL shows_st (((e, e2, e3, ()), (p, p2, ()), marks, ()), ())) (stH shows_st (((e, e2, e3, ()), (p, p2, ()), marks, ()), ())) = shows_S N e e2 e3 p p2 marks := by kernel_rfl
noncomputable def sp_shows (N : Nat) : Spec := { f := 65, ins := ⟨[.agg [.sl Qf, .sl (.int .i64), .i .i64], .agg [.i .i64, .i .i64], .sl (.sl Qf)], []⟩, outs := [⟨[.i .i64, .i .i64], []⟩], run := fun p k => (shows_S N p.1.1.1 p.1.1.2.1 p.1.1.2.2.1 p.1.2.1.1 p.1.2.1.2.1 p.1.2.2.1).bind fun r => k ((r.1, r.2, ()), ()) }
theorem sp_shows_ok (N : Nat) : SpecOK Try.prog (sp_shows N) := fn_sound (B := shows_B) (loops := [shows_l3_L N, shows_l2_L N, shows_l1_L N]) (leaves := []) (fun p => shows_S N p.1.1.1 p.1.1.2.1 p.1.1.2.2.1 p.1.2.1.1 p.1.2.1.2.1 p.1.2.2.1) (fun r => ((r.1, r.2, ()), ())) shows_rt (fun _ _ _ => rfl) (fun r z h => by cases h; rfl) Try.func65 (by kernel_rfl) (by kernel_rfl) (by kernel_rfl) rfl rfl (by kernel_rfl) (fun args w => Sem.pv_run _ _ _ (by kernel_rfl) w) (shows_all N) mixed ⟨shows_l3_ok N, shows_l2_ok N, shows_l1_ok N, trivial⟩ (fun z E Xc hE hX hret => trivial) (fun p => shows_eq N p.1.1.1 p.1.1.2.1 p.1.1.2.2.1 p.1.2.1.1 p.1.2.1.2.1 p.1.2.2.1)

end Go.Proofs.Ytfcnhnbnjdccfaa

namespace Go.Proofs.Ytfcnhnbnjdccfaa
set_option linter.all false
open Go

theorem repL_intsI {M : Nat → Option Obj} : ∀ (l : List Int) (vs : List Value), RepL M (.int .i64) l vs ↔ vs = l.map (.int .i64) ∧ ∀ x ∈ l, inR .i64 x
 | [], vs => by simp [RepL]
 | x :: l, vs => by
  simp only [RepL, RepC, List.map_cons, List.mem_cons, forall_eq_or_imp]
  constructor
  ·rintro ⟨v1, v2, rfl, ⟨rfl, h1⟩, h2⟩
   obtain ⟨rfl, h3⟩ := (repL_intsI l v2).1 h2
   exact ⟨rfl, h1, h3⟩
  ·rintro ⟨rfl, h1, h3⟩
   exact ⟨_, _, rfl, ⟨rfl, h1⟩, (repL_intsI l _).2 ⟨rfl, h3⟩⟩
theorem bound_fn {N : Nat} {M : Nat → Option Obj} {w : World} {T : List (List Int)} {H A B : List Int} {f i a b v : Int} {G G' : List Int} {pd : Value} {bg : Nat} {ty : TypeId} (hq : bound_S N (T, H, f, A, B) i a b G = some (v, G')) (hM : ∀ b o, M b = some o → w.heap[b]? = some o) (hMb : M bg = none)
  (hd : ∀ ρ, RepV ⟨ρ, M⟩ (.fe DeskT (T, H, f, A, B) 0) pd) (hB : Blk w bg (G.map (.int .i64)) ty) (hG : G.length = 539) (hin : ∀ x ∈ G, inR .i64 x) (hi : inR .i64 i) (ha : inR .i64 a) (hb : inR .i64 b) :
  Fn Try.prog 110 #[pd, .pointer (some ⟨bg, 0, none⟩), .int .i64 i, .int .i64 a, .int .i64 b] w (fun v' w' => v' = .int .i64 v ∧ inR .i64 v ∧ Upd [bg] w w' ∧ (∃ ty', Blk w' bg (G'.map (.int .i64)) ty') ∧ G'.length = 539 ∧ ∀ x ∈ G', inR .i64 x) := by
 have hrun : (sp_bound N).run (((T, H, f, A, B), (), i, a, b, ()), ((G, ()), ())) some = some ((v, ()), ((G', ()), ())) := by
  show ((bound_S N (T, H, f, A, B) i a b G).bind fun r => some ((r.1, ()), ((r.2, ()), ()))) = _
  rw [hq]; rfl
 have hs : Sim ⟨fun j => if j = 0 then some (some (bg, 0, 0)) else none, M⟩ (hOf (ss := (sp_bound N).ins.blks) ((G, ()), ())) w := by
  refine ⟨hM, fun id k hk => ?_, fun i j ki kj b ci ni cj nj h1 h2 _ _ _ _ => ?_⟩
  ·match id, hk with
   | 0, hk =>
    cases hk
    exact ⟨bg, 0, 0, _, ty, rfl, hB, ⟨G.map (.int .i64), [], by simp, ⟨hG, (repL_intsI _ _).2 ⟨rfl, hin⟩⟩, rfl⟩, hMb⟩
   | n + 1, hk => cases hk
  ·match i, j, h1, h2 with
   | 0, 0, _, _ => rfl
   | 0, n + 1, _, h => cases h
   | n + 1, _, h, _ => cases h
 have h := (sp_bound_ok N).fn (((T, H, f, A, B), (), i, a, b, ()), ((G, ()), ())) _ hrun _ w [pd, .pointer (some ⟨bg, 0, none⟩), .int .i64 i, .int .i64 a, .int .i64 b] ⟨_, _, rfl, hd _, _, _, rfl, ⟨bg, 0, 0, rfl, rfl⟩, _, _, rfl, ⟨rfl, hi⟩, _, _, rfl, ⟨rfl, ha⟩, _, _, rfl, ⟨rfl, hb⟩, rfl⟩ hs (fun j hj => by
  have : ¬ j = 0 := by have h : 1 ≤ j := hj; omega
  show (if j = 0 then _ else _) = _
  rw [if_neg this])
 refine Fn.mono h ?_
 rintro v' w' ⟨g', st, hs', hv'⟩
 simp only [altOf, encs, enc, resVal, RepV] at hv'
 refine ⟨hv'.1, hv'.2, ⟨st.os, st.tape, st.output, st.size, fun k hk hn => st.same k hk ?_⟩, ?_⟩
 ·rintro ⟨id, hid, k', c, n, h1, h2, h3⟩
  have h3 : (if id = 0 then some (some (bg, 0, 0)) else none) = some (some (k, c, n)) := h3
  split at h3
  ·simp only [Option.some.injEq, Prod.mk.injEq] at h3
   exact hn (by simp [h3.1])
  ·cases h3
 ·have hb0 := hs'.blk 0 (.segs [.arr (.int .i64) 539 G']) rfl
  simp only [RepBlk] at hb0
  obtain ⟨b', c', n', us, ty', e1, e2, ⟨v1, v2, rfl, ⟨h1, h2⟩, h3⟩, _⟩ := hb0
  have e3 := st.ge.1 0 (some (bg, 0, 0)) rfl
  rw [e3] at e1
  cases e1
  obtain ⟨rfl, h4⟩ := (repL_intsI _ _).1 h2
  have h3 : v2 = [] := h3
  subst h3
  rw [List.append_nil] at e2
  exact ⟨⟨ty', e2⟩, h1, h4⟩
theorem inR_nat {n : Nat} (h : n ≤ 10000) : inR .i64 (n : Int) := by
 constructor
 ·have : IntKind.i64.min = -9223372036854775808 := by decide
  omega
 ·have : IntKind.i64.max = 9223372036854775807 := by decide
  omega

noncomputable def c67 : Code := (Try.f67.body).getD .skip
noncomputable def K67_7 : List Item := [.code (sub c67 [1, 1, 1, 1, 0]), .code (sub c67 [1, 1, 1, 1, 1])]
noncomputable def K67_8 : List Item := [.code (sub c67 [1, 1, 1, 1, 1, 0, 0]), .code (sub c67 [1, 1, 1, 1, 1, 0, 1]), .code (sub c67 [1, 1, 1, 1, 1, 1])]
noncomputable def K67_9 : List Item := [.code (sub c67 [1, 1, 1, 1, 1, 0, 1, 0, 0, 0]), .code (sub c67 [1, 1, 1, 1, 1, 0, 1, 0, 0, 1]), .inLoop (sub c67 [1, 1, 1, 1, 1, 0, 1, 0, 0]), .inBlock 0, .code (sub c67 [1, 1, 1, 1, 1, 1])]
noncomputable def K67_10 : List Item := [.code (sub c67 [1, 1, 1, 1, 1, 0, 1, 0, 0, 1, 0]), .code (sub c67 [1, 1, 1, 1, 1, 0, 1, 0, 0, 1, 1]), .inLoop (sub c67 [1, 1, 1, 1, 1, 0, 1, 0, 0]), .inBlock 0, .code (sub c67 [1, 1, 1, 1, 1, 1])]
noncomputable def K67_11 : List Item := [.code (sub c67 [1, 1, 1, 1, 1, 0, 1, 0, 0, 1, 1, 0, 0, 0]), .code (sub c67 [1, 1, 1, 1, 1, 0, 1, 0, 0, 1, 1, 0, 0, 1]), .inBlock 1, .code (sub c67 [1, 1, 1, 1, 1, 0, 1, 0, 0, 1, 1, 1]), .inLoop (sub c67 [1, 1, 1, 1, 1, 0, 1, 0, 0]), .inBlock 0, .code (sub c67 [1, 1, 1, 1, 1, 1])]
noncomputable def K67_12 : List Item := [.code (sub c67 [1, 1, 1, 1, 1, 1, 0]), .code (sub c67 [1, 1, 1, 1, 1, 1, 1])]
noncomputable def K67_13 : List Item := [.code (sub c67 [1, 1, 1, 1, 1, 0, 1, 0, 0, 1, 1, 0, 0, 1, 0]), .code (sub c67 [1, 1, 1, 1, 1, 0, 1, 0, 0, 1, 1, 0, 0, 1, 1]), .inBlock 1, .code (sub c67 [1, 1, 1, 1, 1, 0, 1, 0, 0, 1, 1, 1]), .inLoop (sub c67 [1, 1, 1, 1, 1, 0, 1, 0, 0]), .inBlock 0, .code (sub c67 [1, 1, 1, 1, 1, 1])]
noncomputable def K67_15 : List Item := [.code (sub c67 [1, 1, 1, 1, 1, 0, 1, 0, 0, 1, 1, 0, 0, 1, 1, 0, 0, 0]), .code (sub c67 [1, 1, 1, 1, 1, 0, 1, 0, 0, 1, 1, 0, 0, 1, 1, 0, 0, 1]), .inLoop (sub c67 [1, 1, 1, 1, 1, 0, 1, 0, 0, 1, 1, 0, 0, 1, 1, 0, 0]), .inBlock 2, .inBlock 1, .code (sub c67 [1, 1, 1, 1, 1, 0, 1, 0, 0, 1, 1, 1]), .inLoop (sub c67 [1, 1, 1, 1, 1, 0, 1, 0, 0]), .inBlock 0, .code (sub c67 [1, 1, 1, 1, 1, 1])]
noncomputable def K67_16 : List Item := [.code (sub c67 [1, 1, 1, 1, 1, 0, 1, 0, 0, 1, 1, 0, 0, 1, 1, 0, 0, 1, 0]), .code (sub c67 [1, 1, 1, 1, 1, 0, 1, 0, 0, 1, 1, 0, 0, 1, 1, 0, 0, 1, 1]), .inLoop (sub c67 [1, 1, 1, 1, 1, 0, 1, 0, 0, 1, 1, 0, 0, 1, 1, 0, 0]), .inBlock 2, .inBlock 1, .code (sub c67 [1, 1, 1, 1, 1, 0, 1, 0, 0, 1, 1, 1]), .inLoop (sub c67 [1, 1, 1, 1, 1, 0, 1, 0, 0]), .inBlock 0, .code (sub c67 [1, 1, 1, 1, 1, 1])]
noncomputable def K67_17 : List Item := [.code (sub c67 [1, 1, 1, 1, 1, 0, 1, 0, 0, 1, 1, 0, 0, 1, 1, 0, 0, 1, 1, 0, 0, 0]), .code (sub c67 [1, 1, 1, 1, 1, 0, 1, 0, 0, 1, 1, 0, 0, 1, 1, 0, 0, 1, 1, 0, 0, 1]), .inBlock 3, .code (sub c67 [1, 1, 1, 1, 1, 0, 1, 0, 0, 1, 1, 0, 0, 1, 1, 0, 0, 1, 1, 1]), .inLoop (sub c67 [1, 1, 1, 1, 1, 0, 1, 0, 0, 1, 1, 0, 0, 1, 1, 0, 0]), .inBlock 2, .inBlock 1, .code (sub c67 [1, 1, 1, 1, 1, 0, 1, 0, 0, 1, 1, 1]), .inLoop (sub c67 [1, 1, 1, 1, 1, 0, 1, 0, 0]), .inBlock 0, .code (sub c67 [1, 1, 1, 1, 1, 1])]
noncomputable def K67_18 : List Item := [.code (sub c67 [1, 1, 1, 1, 1, 0, 1, 0, 0, 1, 1, 1]), .inLoop (sub c67 [1, 1, 1, 1, 1, 0, 1, 0, 0]), .inBlock 0, .code (sub c67 [1, 1, 1, 1, 1, 1])]
noncomputable def K67_19 : List Item := [.code (sub c67 [1, 1, 1, 1, 1, 0, 1, 0, 0, 1, 1, 0, 0, 1, 1, 0, 0, 1, 1, 0, 0, 1, 0]), .code (sub c67 [1, 1, 1, 1, 1, 0, 1, 0, 0, 1, 1, 0, 0, 1, 1, 0, 0, 1, 1, 0, 0, 1, 1]), .inBlock 3, .code (sub c67 [1, 1, 1, 1, 1, 0, 1, 0, 0, 1, 1, 0, 0, 1, 1, 0, 0, 1, 1, 1]), .inLoop (sub c67 [1, 1, 1, 1, 1, 0, 1, 0, 0, 1, 1, 0, 0, 1, 1, 0, 0]), .inBlock 2, .inBlock 1, .code (sub c67 [1, 1, 1, 1, 1, 0, 1, 0, 0, 1, 1, 1]), .inLoop (sub c67 [1, 1, 1, 1, 1, 0, 1, 0, 0]), .inBlock 0, .code (sub c67 [1, 1, 1, 1, 1, 1])]
noncomputable def K67_20 : List Item := [.code (sub c67 [1, 1, 1, 1, 1, 0, 1, 0, 0, 1, 1, 0, 0, 1, 1, 0, 0, 1, 1, 0, 0, 1, 1, 0, 0, 0]), .code (sub c67 [1, 1, 1, 1, 1, 0, 1, 0, 0, 1, 1, 0, 0, 1, 1, 0, 0, 1, 1, 0, 0, 1, 1, 0, 0, 1]), .inLoop (sub c67 [1, 1, 1, 1, 1, 0, 1, 0, 0, 1, 1, 0, 0, 1, 1, 0, 0, 1, 1, 0, 0, 1, 1, 0, 0]), .inBlock 4, .inBlock 3, .code (sub c67 [1, 1, 1, 1, 1, 0, 1, 0, 0, 1, 1, 0, 0, 1, 1, 0, 0, 1, 1, 1]), .inLoop (sub c67 [1, 1, 1, 1, 1, 0, 1, 0, 0, 1, 1, 0, 0, 1, 1, 0, 0]), .inBlock 2, .inBlock 1, .code (sub c67 [1, 1, 1, 1, 1, 0, 1, 0, 0, 1, 1, 1]), .inLoop (sub c67 [1, 1, 1, 1, 1, 0, 1, 0, 0]), .inBlock 0, .code (sub c67 [1, 1, 1, 1, 1, 1])]
noncomputable def K67_21 : List Item := [.code (sub c67 [1, 1, 1, 1, 1, 0, 1, 0, 0, 1, 1, 0, 0, 1, 1, 0, 0, 1, 1, 0, 0, 1, 1, 0, 0, 1, 0]), .code (sub c67 [1, 1, 1, 1, 1, 0, 1, 0, 0, 1, 1, 0, 0, 1, 1, 0, 0, 1, 1, 0, 0, 1, 1, 0, 0, 1, 1]), .inLoop (sub c67 [1, 1, 1, 1, 1, 0, 1, 0, 0, 1, 1, 0, 0, 1, 1, 0, 0, 1, 1, 0, 0, 1, 1, 0, 0]), .inBlock 4, .inBlock 3, .code (sub c67 [1, 1, 1, 1, 1, 0, 1, 0, 0, 1, 1, 0, 0, 1, 1, 0, 0, 1, 1, 1]), .inLoop (sub c67 [1, 1, 1, 1, 1, 0, 1, 0, 0, 1, 1, 0, 0, 1, 1, 0, 0]), .inBlock 2, .inBlock 1, .code (sub c67 [1, 1, 1, 1, 1, 0, 1, 0, 0, 1, 1, 1]), .inLoop (sub c67 [1, 1, 1, 1, 1, 0, 1, 0, 0]), .inBlock 0, .code (sub c67 [1, 1, 1, 1, 1, 1])]
noncomputable def K67_22 : List Item := [.code (sub c67 [1, 1, 1, 1, 1, 0, 1, 0, 0, 1, 1, 0, 0, 1, 1, 0, 0, 1, 1, 0, 0, 1, 1, 0, 0, 1, 1, 0, 0, 0]), .code (sub c67 [1, 1, 1, 1, 1, 0, 1, 0, 0, 1, 1, 0, 0, 1, 1, 0, 0, 1, 1, 0, 0, 1, 1, 0, 0, 1, 1, 0, 0, 1]), .inBlock 5, .code (sub c67 [1, 1, 1, 1, 1, 0, 1, 0, 0, 1, 1, 0, 0, 1, 1, 0, 0, 1, 1, 0, 0, 1, 1, 0, 0, 1, 1, 1]), .inLoop (sub c67 [1, 1, 1, 1, 1, 0, 1, 0, 0, 1, 1, 0, 0, 1, 1, 0, 0, 1, 1, 0, 0, 1, 1, 0, 0]), .inBlock 4, .inBlock 3, .code (sub c67 [1, 1, 1, 1, 1, 0, 1, 0, 0, 1, 1, 0, 0, 1, 1, 0, 0, 1, 1, 1]), .inLoop (sub c67 [1, 1, 1, 1, 1, 0, 1, 0, 0, 1, 1, 0, 0, 1, 1, 0, 0]), .inBlock 2, .inBlock 1, .code (sub c67 [1, 1, 1, 1, 1, 0, 1, 0, 0, 1, 1, 1]), .inLoop (sub c67 [1, 1, 1, 1, 1, 0, 1, 0, 0]), .inBlock 0, .code (sub c67 [1, 1, 1, 1, 1, 1])]
noncomputable def K67_23 : List Item := [.code (sub c67 [1, 1, 1, 1, 1, 0, 1, 0, 0, 1, 1, 0, 0, 1, 1, 0, 0, 1, 1, 1]), .inLoop (sub c67 [1, 1, 1, 1, 1, 0, 1, 0, 0, 1, 1, 0, 0, 1, 1, 0, 0]), .inBlock 2, .inBlock 1, .code (sub c67 [1, 1, 1, 1, 1, 0, 1, 0, 0, 1, 1, 1]), .inLoop (sub c67 [1, 1, 1, 1, 1, 0, 1, 0, 0]), .inBlock 0, .code (sub c67 [1, 1, 1, 1, 1, 1])]
noncomputable def K67_24 : List Item := [.code (sub c67 [1, 1, 1, 1, 1, 0, 1, 0, 0, 1, 1, 0, 0, 1, 1, 0, 0, 1, 1, 0, 0, 1, 1, 0, 0, 1, 1, 0, 0, 1, 0]), .code (sub c67 [1, 1, 1, 1, 1, 0, 1, 0, 0, 1, 1, 0, 0, 1, 1, 0, 0, 1, 1, 0, 0, 1, 1, 0, 0, 1, 1, 0, 0, 1, 1]), .inBlock 5, .code (sub c67 [1, 1, 1, 1, 1, 0, 1, 0, 0, 1, 1, 0, 0, 1, 1, 0, 0, 1, 1, 0, 0, 1, 1, 0, 0, 1, 1, 1]), .inLoop (sub c67 [1, 1, 1, 1, 1, 0, 1, 0, 0, 1, 1, 0, 0, 1, 1, 0, 0, 1, 1, 0, 0, 1, 1, 0, 0]), .inBlock 4, .inBlock 3, .code (sub c67 [1, 1, 1, 1, 1, 0, 1, 0, 0, 1, 1, 0, 0, 1, 1, 0, 0, 1, 1, 1]), .inLoop (sub c67 [1, 1, 1, 1, 1, 0, 1, 0, 0, 1, 1, 0, 0, 1, 1, 0, 0]), .inBlock 2, .inBlock 1, .code (sub c67 [1, 1, 1, 1, 1, 0, 1, 0, 0, 1, 1, 1]), .inLoop (sub c67 [1, 1, 1, 1, 1, 0, 1, 0, 0]), .inBlock 0, .code (sub c67 [1, 1, 1, 1, 1, 1])]
noncomputable def K67_25 : List Item := [.code (sub c67 [1, 1, 1, 1, 1, 0, 1, 0, 0, 1, 1, 0, 0, 1, 1, 0, 0, 1, 1, 0, 0, 1, 1, 0, 0, 1, 1, 0, 0, 1, 1]), .inBlock 5, .code (sub c67 [1, 1, 1, 1, 1, 0, 1, 0, 0, 1, 1, 0, 0, 1, 1, 0, 0, 1, 1, 0, 0, 1, 1, 0, 0, 1, 1, 1]), .inLoop (sub c67 [1, 1, 1, 1, 1, 0, 1, 0, 0, 1, 1, 0, 0, 1, 1, 0, 0, 1, 1, 0, 0, 1, 1, 0, 0]), .inBlock 4, .inBlock 3, .code (sub c67 [1, 1, 1, 1, 1, 0, 1, 0, 0, 1, 1, 0, 0, 1, 1, 0, 0, 1, 1, 1]), .inLoop (sub c67 [1, 1, 1, 1, 1, 0, 1, 0, 0, 1, 1, 0, 0, 1, 1, 0, 0]), .inBlock 2, .inBlock 1, .code (sub c67 [1, 1, 1, 1, 1, 0, 1, 0, 0, 1, 1, 1]), .inLoop (sub c67 [1, 1, 1, 1, 1, 0, 1, 0, 0]), .inBlock 0, .code (sub c67 [1, 1, 1, 1, 1, 1])]
noncomputable def K67_26 : List Item := [.code (sub c67 [1, 1, 1, 1, 1, 0, 1, 0, 0, 1, 1, 0, 0, 1, 1, 0, 0, 1, 1, 0, 0, 1, 1, 0, 0, 1, 1, 1]), .inLoop (sub c67 [1, 1, 1, 1, 1, 0, 1, 0, 0, 1, 1, 0, 0, 1, 1, 0, 0, 1, 1, 0, 0, 1, 1, 0, 0]), .inBlock 4, .inBlock 3, .code (sub c67 [1, 1, 1, 1, 1, 0, 1, 0, 0, 1, 1, 0, 0, 1, 1, 0, 0, 1, 1, 1]), .inLoop (sub c67 [1, 1, 1, 1, 1, 0, 1, 0, 0, 1, 1, 0, 0, 1, 1, 0, 0]), .inBlock 2, .inBlock 1, .code (sub c67 [1, 1, 1, 1, 1, 0, 1, 0, 0, 1, 1, 1]), .inLoop (sub c67 [1, 1, 1, 1, 1, 0, 1, 0, 0]), .inBlock 0, .code (sub c67 [1, 1, 1, 1, 1, 1])]

def upd3 (X : List (List (List Int))) (i a b : Nat) (v : Int) : List (List (List Int)) := X.set i ((X.getD i []).set a (((X.getD i []).getD a []).set b v))
def mkB (N : Nat) (d : List (List Int) × List Int × Int × List Int × List Int) (i a : Nat) : Nat → Nat → List Int → List (List (List Int)) → Option (List Int × List (List (List Int)))
 | 0, _, G, X => some (G, X)
 | k + 1, b, G, X => (bound_S N d i a b G).bind fun r => mkB N d i a k (b + 1) (r.2.set (i * 49 + a * 7 + b) r.1) (upd3 X i a b r.1)
def mkA (N : Nat) (d : List (List Int) × List Int × Int × List Int × List Int) (B i : Nat) : Nat → Nat → List Int → List (List (List Int)) → Option (List Int × List (List (List Int)))
 | 0, _, G, X => some (G, X)
 | k + 1, a, G, X => (mkB N d i a B 0 G X).bind fun r => mkA N d B i k (a + 1) r.1 r.2
def mkI (N : Nat) (d : List (List Int) × List Int × Int × List Int × List Int) (A B : Nat) : Nat → Nat → List Int → List (List (List Int)) → Option (List Int × List (List (List Int)))
 | 0, _, G, X => some (G, X)
 | k + 1, i, G, X => (mkA N d B i A 0 G X).bind fun r => mkI N d A B k (i + 1) r.1 r.2
theorem getD_set3 {α : Type} (l : List α) (i j : Nat) (x d : α) (h : i < l.length) : (l.set i x).getD j d = if j = i then x else l.getD j d := by
 simp only [List.getD_eq_getElem?_getD]
 by_cases e : j = i
 ·subst e; rw [if_pos rfl, List.getElem?_set_self h]; rfl
 ·rw [if_neg e, List.getElem?_set_ne (Ne.symm e)]
/-- So many lists of so many rows of so many numbers. -/
def Shp (X : List (List (List Int))) (I A B : Nat) : Prop := X.length = I ∧ ∀ i, i < I → (X.getD i []).length = A ∧ ∀ a, a < A → ((X.getD i []).getD a []).length = B
theorem Shp.upd3 {X : List (List (List Int))} {I A B i a b : Nat} {v : Int} (h : Shp X I A B) (hi : i < I) (ha : a < A) : Shp (Proofs.Ytfcnhnbnjdccfaa.upd3 X i a b v) I A B := by
 obtain ⟨h1, h2⟩ := h
 unfold Proofs.Ytfcnhnbnjdccfaa.upd3
 refine ⟨by simp [h1], fun j hj => ?_⟩
 rw [getD_set3 _ _ _ _ _ (by omega)]
 by_cases e : j = i
 ·subst e
  rw [if_pos rfl]
  refine ⟨by rw [List.length_set]; exact (h2 j hj).1, fun c hc => ?_⟩
  rw [getD_set3 _ _ _ _ _ (by rw [(h2 j hj).1]; exact ha)]
  by_cases e2 : c = a
  ·subst e2; rw [if_pos rfl, List.length_set]; exact (h2 j hj).2 c hc
  ·rw [if_neg e2]; exact (h2 j hj).2 c hc
 ·rw [if_neg e]; exact h2 j hj
theorem Shp.zeros (I A B : Nat) : Shp (zeros3 I A B) I A B := by
 refine ⟨by simp [zeros3], fun i hi => ?_⟩
 have e : (zeros3 I A B).getD i [] = zeros2 A B := by simp [zeros3, List.getD, hi]
 rw [e]
 refine ⟨by simp [zeros2], fun a ha => ?_⟩
 have e : (zeros2 A B).getD a [] = List.replicate B 0 := by simp [zeros2, List.getD, ha]
 rw [e]; simp
/-- Where the loops stand. -/
structure MS (w0 w : World) (bg bo hi : Nat) (us : List Value) (tyO : TypeId) (I A B : Nat) (G : List Int) (X : List (List (List Int))) : Prop where
 upd : Upd [bg] w0 w
 blk : Blk w bo us tyO
 mids : MidsR w (bo + 1) hi us X
 shp : Shp X I A B
 grid : ∃ ty, Blk w bg (G.map (.int .i64)) ty
 glen : G.length = 539
 gin : ∀ x ∈ G, inR .i64 x
 low : bg < bo ∧ w0.heap.size ≤ bo
set_option maxHeartbeats 2000000 in
theorem marks_b {X : Ctx} {df : List Deferred} {N : Nat} {M : Nat → Option Obj} {T : List (List Int)} {H A B : List Int} {f : Int} (bd od bg bo hi nH nA nB i a : Nat) (us : List Value) (tyO : TypeId) (w0 : World) (hnH : nH ≤ 10) (hnA : nA ≤ 6) (hnB : nB ≤ 6) (hi1 : i < nH + 1) (ha1 : a < nA + 1) (hM : ∀ b o, M b = some o → b ≠ bg ∧ w0.heap[b]? = some o) (hMb : M bg = none) (hd : ∀ ρ, RepV ⟨ρ, M⟩ (.fe DeskT (T, H, f, A, B) 0) (.pointer (some ⟨bd, od, none⟩))) (G2 : List Int) (X2 : List (List (List Int))) (hk : ∀ w, MS w0 w bg bo hi us tyO (nH + 1) (nA + 1) (nB + 1) G2 X2 → St Try.prog X 79 K67_23 [(34, (.int .i64 (a : Int))), (33, (.int .i64 ((nA + 1 : Nat) : Int))), (10, (.int .i64 (i : Int))), (26, (.int .i64 (i : Int))), (25, (.int .i64 ((nH + 1 : Nat) : Int))), (6, (.pointer (some ⟨bd, od, none⟩))), (8, (.pointer (some ⟨bg, 0, none⟩))), (9, (.slice (some ⟨bo, 0, none⟩) (nH + 1) (nH + 1)))] df w) :
  ∀ (k b : Nat) (G : List Int) (XX : List (List (List Int))) (w : World), k + b = nB + 1 → mkB N (T, H, f, A, B) i a k b G XX = some (G2, X2) → MS w0 w bg bo hi us tyO (nH + 1) (nA + 1) (nB + 1) G XX → St Try.prog X 79 K67_20 [(45, (.int .i64 (b : Int))), (44, (.int .i64 ((nB + 1 : Nat) : Int))), (11, (.int .i64 (a : Int))), (34, (.int .i64 (a : Int))), (33, (.int .i64 ((nA + 1 : Nat) : Int))), (10, (.int .i64 (i : Int))), (26, (.int .i64 (i : Int))), (25, (.int .i64 ((nH + 1 : Nat) : Int))), (6, (.pointer (some ⟨bd, od, none⟩))), (8, (.pointer (some ⟨bg, 0, none⟩))), (9, (.slice (some ⟨bo, 0, none⟩) (nH + 1) (nH + 1)))] df w := by
 intro k
 induction k with
 | zero =>
  intro b G XX w hkb hq hS
  simp only [mkB, Option.some.injEq, Prod.mk.injEq] at hq
  obtain ⟨rfl, rfl⟩ := hq
  refine St.reg K67_21 [(0, true)] (by kernel_rfl) (by kernel_rfl) ?_
  refine RX.q 1 [] [(46, .bool (decide ((b : Int) < ((nB + 1 : Nat) : Int)))), (45, (.int .i64 (b : Int))), (44, (.int .i64 ((nB + 1 : Nat) : Int))), (11, (.int .i64 (a : Int))), (34, (.int .i64 (a : Int))), (33, (.int .i64 ((nA + 1 : Nat) : Int))), (10, (.int .i64 (i : Int))), (26, (.int .i64 (i : Int))), (25, (.int .i64 ((nH + 1 : Nat) : Int))), (6, (.pointer (some ⟨bd, od, none⟩))), (8, (.pointer (some ⟨bg, 0, none⟩))), (9, (.slice (some ⟨bo, 0, none⟩) (nH + 1) (nH + 1)))] [] (by kernel_rfl) trivial ?_
  refine RX.done [(46, .bool (decide ((b : Int) < ((nB + 1 : Nat) : Int)))), (45, (.int .i64 (b : Int))), (44, (.int .i64 ((nB + 1 : Nat) : Int))), (11, (.int .i64 (a : Int))), (34, (.int .i64 (a : Int))), (33, (.int .i64 ((nA + 1 : Nat) : Int))), (10, (.int .i64 (i : Int))), (26, (.int .i64 (i : Int))), (25, (.int .i64 ((nH + 1 : Nat) : Int))), (6, (.pointer (some ⟨bd, od, none⟩))), (8, (.pointer (some ⟨bg, 0, none⟩))), (9, (.slice (some ⟨bo, 0, none⟩) (nH + 1) (nH + 1)))] (by kernel_rfl) (by kernel_rfl) ?_
  refine St.cond (k1 := K67_22) (k2 := K67_23) (decide ((b : Int) < ((nB + 1 : Nat) : Int))) (by kernel_rfl) (fun hc => ?_) (fun hc => ?_)
  ·have hh : (b : Int) < ((nB + 1 : Nat) : Int) := by simpa using hc
   omega
  ·exact St.weak (L' := [(34, (.int .i64 (a : Int))), (33, (.int .i64 ((nA + 1 : Nat) : Int))), (10, (.int .i64 (i : Int))), (26, (.int .i64 (i : Int))), (25, (.int .i64 ((nH + 1 : Nat) : Int))), (6, (.pointer (some ⟨bd, od, none⟩))), (8, (.pointer (some ⟨bg, 0, none⟩))), (9, (.slice (some ⟨bo, 0, none⟩) (nH + 1) (nH + 1)))]) (by kernel_rfl) (hk w hS)
 | succ k ih =>
  intro b G XX w hkb hq hS
  unfold mkB at hq
  obtain ⟨⟨v, G'⟩, hq1, hq2⟩ := bind_some hq
  dsimp only at hq2
  have hbl : b < nB + 1 := by omega
  refine St.reg K67_21 [(0, true)] (by kernel_rfl) (by kernel_rfl) ?_
  refine RX.q 1 [] [(46, .bool (decide ((b : Int) < ((nB + 1 : Nat) : Int)))), (45, (.int .i64 (b : Int))), (44, (.int .i64 ((nB + 1 : Nat) : Int))), (11, (.int .i64 (a : Int))), (34, (.int .i64 (a : Int))), (33, (.int .i64 ((nA + 1 : Nat) : Int))), (10, (.int .i64 (i : Int))), (26, (.int .i64 (i : Int))), (25, (.int .i64 ((nH + 1 : Nat) : Int))), (6, (.pointer (some ⟨bd, od, none⟩))), (8, (.pointer (some ⟨bg, 0, none⟩))), (9, (.slice (some ⟨bo, 0, none⟩) (nH + 1) (nH + 1)))] [] (by kernel_rfl) trivial ?_
  refine RX.done [(46, .bool (decide ((b : Int) < ((nB + 1 : Nat) : Int)))), (45, (.int .i64 (b : Int))), (44, (.int .i64 ((nB + 1 : Nat) : Int))), (11, (.int .i64 (a : Int))), (34, (.int .i64 (a : Int))), (33, (.int .i64 ((nA + 1 : Nat) : Int))), (10, (.int .i64 (i : Int))), (26, (.int .i64 (i : Int))), (25, (.int .i64 ((nH + 1 : Nat) : Int))), (6, (.pointer (some ⟨bd, od, none⟩))), (8, (.pointer (some ⟨bg, 0, none⟩))), (9, (.slice (some ⟨bo, 0, none⟩) (nH + 1) (nH + 1)))] (by kernel_rfl) (by kernel_rfl) ?_
  refine St.cond (k1 := K67_22) (k2 := K67_23) (decide ((b : Int) < ((nB + 1 : Nat) : Int))) (by kernel_rfl) (fun hc => ?_) (fun hc => ?_)
  rotate_left
  ·have hh : ((nB + 1 : Nat) : Int) ≤ (b : Int) := by simpa using hc
   omega
  clear hc
  refine St.weak (L' := [(45, (.int .i64 (b : Int))), (44, (.int .i64 ((nB + 1 : Nat) : Int))), (11, (.int .i64 (a : Int))), (34, (.int .i64 (a : Int))), (33, (.int .i64 ((nA + 1 : Nat) : Int))), (10, (.int .i64 (i : Int))), (26, (.int .i64 (i : Int))), (25, (.int .i64 ((nH + 1 : Nat) : Int))), (6, (.pointer (some ⟨bd, od, none⟩))), (8, (.pointer (some ⟨bg, 0, none⟩))), (9, (.slice (some ⟨bo, 0, none⟩) (nH + 1) (nH + 1)))]) (by kernel_rfl) ?_
  refine St.reg K67_24 [(0, true), (1, true)] (by kernel_rfl) (by kernel_rfl) ?_
  refine RX.q 2 [] [(12, (.int .i64 (b : Int))), (45, (.int .i64 (b : Int))), (44, (.int .i64 ((nB + 1 : Nat) : Int))), (11, (.int .i64 (a : Int))), (34, (.int .i64 (a : Int))), (33, (.int .i64 ((nA + 1 : Nat) : Int))), (10, (.int .i64 (i : Int))), (26, (.int .i64 (i : Int))), (25, (.int .i64 ((nH + 1 : Nat) : Int))), (6, (.pointer (some ⟨bd, od, none⟩))), (8, (.pointer (some ⟨bg, 0, none⟩))), (9, (.slice (some ⟨bo, 0, none⟩) (nH + 1) (nH + 1)))] [] (by kernel_rfl) trivial ?_
  refine RX.done [(12, (.int .i64 (b : Int))), (45, (.int .i64 (b : Int))), (44, (.int .i64 ((nB + 1 : Nat) : Int))), (11, (.int .i64 (a : Int))), (34, (.int .i64 (a : Int))), (33, (.int .i64 ((nA + 1 : Nat) : Int))), (10, (.int .i64 (i : Int))), (26, (.int .i64 (i : Int))), (25, (.int .i64 ((nH + 1 : Nat) : Int))), (6, (.pointer (some ⟨bd, od, none⟩))), (8, (.pointer (some ⟨bg, 0, none⟩))), (9, (.slice (some ⟨bo, 0, none⟩) (nH + 1) (nH + 1)))] (by kernel_rfl) (by kernel_rfl) ?_
  obtain ⟨tyg, hg⟩ := hS.grid
  have hlow := hS.low
  have hbgl := lt_of_blk hg
  have hsz := hS.upd.size
  refine St.drw K67_25 [bg] [(0, true), (1, true), (2, true), (3, true), (4, true), (5, true), (6, true), (8, true), (9, true), (7, false), (10, true), (11, false)] mixed (by kernel_rfl) (by kernel_rfl) ?_
  intro w1 hd1 hds
  have hx1 : ∀ w', (Instr.indexAt 159 (.pointer (some ⟨bg, 0, none⟩)) (.int .i64 (i : Int))).run Try.prog w' = .ok (.pointer (some ⟨bg, 0 + i * 49, none⟩)) w' := fun w' => idx_arr (e := 157) (sz := 49) (n := 11) (by kernel_rfl) (by kernel_rfl) bg 0 i (by omega) _
  have hx2 : ∀ w', (Instr.indexAt 157 (.pointer (some ⟨bg, 0 + i * 49, none⟩)) (.int .i64 (a : Int))).run Try.prog w' = .ok (.pointer (some ⟨bg, 0 + i * 49 + a * 7, none⟩)) w' := fun w' => idx_arr (e := 156) (sz := 7) (n := 7) (by kernel_rfl) (by kernel_rfl) bg _ a (by omega) _
  have hx3 : ∀ w', (Instr.indexAt 156 (.pointer (some ⟨bg, 0 + i * 49 + a * 7, none⟩)) (.int .i64 (b : Int))).run Try.prog w' = .ok (.pointer (some ⟨bg, 0 + i * 49 + a * 7 + b * 1, none⟩)) w' := fun w' => idx_arr (e := 3) (sz := 1) (n := 7) (by kernel_rfl) (by kernel_rfl) bg _ b (by omega) _
  refine RX.qd 9 [(8, true, (.pointer (some ⟨bg, 0 + i * 49, none⟩))), (9, true, (.pointer (some ⟨bg, 0 + i * 49 + a * 7, none⟩)))] [(57, (.pointer (some ⟨bg, 0 + i * 49 + a * 7, none⟩))), (48, (.int .i64 (i : Int))), (49, (.int .i64 (a : Int))), (50, (.int .i64 (b : Int))), (51, (.pointer (some ⟨bd, od, none⟩))), (52, (.int .i64 (i : Int))), (53, (.int .i64 (a : Int))), (54, (.int .i64 (b : Int))), (12, (.int .i64 (b : Int))), (45, (.int .i64 (b : Int))), (44, (.int .i64 ((nB + 1 : Nat) : Int))), (11, (.int .i64 (a : Int))), (34, (.int .i64 (a : Int))), (33, (.int .i64 ((nA + 1 : Nat) : Int))), (10, (.int .i64 (i : Int))), (26, (.int .i64 (i : Int))), (25, (.int .i64 ((nH + 1 : Nat) : Int))), (6, (.pointer (some ⟨bd, od, none⟩))), (8, (.pointer (some ⟨bg, 0, none⟩))), (9, (.slice (some ⟨bo, 0, none⟩) (nH + 1) (nH + 1)))] [.raw (Instr.indexAt 159 (.pointer (some ⟨bg, 0, none⟩)) (.int .i64 (i : Int))) (.pointer (some ⟨bg, 0 + i * 49, none⟩)), .raw (Instr.indexAt 157 (.pointer (some ⟨bg, 0 + i * 49, none⟩)) (.int .i64 (a : Int))) (.pointer (some ⟨bg, 0 + i * 49 + a * 7, none⟩))] (by kernel_rfl) ⟨hx1 _, hx2 _⟩ ⟨fun w' _ => hx1 w', fun w' _ => hx2 w'⟩ ?_
  refine RX.callD 55 110 #[(.pointer (some ⟨bd, od, none⟩)), (.pointer (some ⟨bg, 0, none⟩)), (.int .i64 (i : Int)), (.int .i64 (a : Int)), (.int .i64 (b : Int))] [(57, (.pointer (some ⟨bg, 0 + i * 49 + a * 7, none⟩))), (48, (.int .i64 (i : Int))), (49, (.int .i64 (a : Int))), (50, (.int .i64 (b : Int))), (51, (.pointer (some ⟨bd, od, none⟩))), (52, (.int .i64 (i : Int))), (53, (.int .i64 (a : Int))), (54, (.int .i64 (b : Int))), (12, (.int .i64 (b : Int))), (45, (.int .i64 (b : Int))), (44, (.int .i64 ((nB + 1 : Nat) : Int))), (11, (.int .i64 (a : Int))), (34, (.int .i64 (a : Int))), (33, (.int .i64 ((nA + 1 : Nat) : Int))), (10, (.int .i64 (i : Int))), (26, (.int .i64 (i : Int))), (25, (.int .i64 ((nH + 1 : Nat) : Int))), (6, (.pointer (some ⟨bd, od, none⟩))), (8, (.pointer (some ⟨bg, 0, none⟩))), (9, (.slice (some ⟨bo, 0, none⟩) (nH + 1) (nH + 1)))] (fun _ => by kernel_rfl) (by kernel_rfl) ?_
  refine Fn.mono (bound_fn hq1 (fun b o h => Ext.blk hd1 (hS.upd.blk (hM b o h).2 (by simp [(hM b o h).1]))) hMb hd (Ext.blk hd1 hg) hS.glen hS.gin (inR_nat (by omega)) (inR_nat (by omega)) (inR_nat (by omega))) ?_
  rintro v' w2 ⟨rfl, hvi, hU2, ⟨ty', hg2⟩, hl2, hin2⟩
  refine ⟨hU2, ?_⟩
  refine RX.qd 1 [(10, true, (.pointer (some ⟨bg, 0 + i * 49 + a * 7 + b * 1, none⟩)))] [(58, (.pointer (some ⟨bg, 0 + i * 49 + a * 7 + b * 1, none⟩))), (55, (.int .i64 v)), (12, (.int .i64 (b : Int))), (45, (.int .i64 (b : Int))), (44, (.int .i64 ((nB + 1 : Nat) : Int))), (11, (.int .i64 (a : Int))), (34, (.int .i64 (a : Int))), (33, (.int .i64 ((nA + 1 : Nat) : Int))), (10, (.int .i64 (i : Int))), (26, (.int .i64 (i : Int))), (25, (.int .i64 ((nH + 1 : Nat) : Int))), (6, (.pointer (some ⟨bd, od, none⟩))), (8, (.pointer (some ⟨bg, 0, none⟩))), (9, (.slice (some ⟨bo, 0, none⟩) (nH + 1) (nH + 1)))] [.raw (Instr.indexAt 156 (.pointer (some ⟨bg, 0 + i * 49 + a * 7, none⟩)) (.int .i64 (b : Int))) (.pointer (some ⟨bg, 0 + i * 49 + a * 7 + b * 1, none⟩))] (by kernel_rfl) (hx3 _) (fun w' _ => hx3 w') ?_
  rw [show 0 + i * 49 + a * 7 + b * 1 = i * 49 + a * 7 + b by omega]
  refine RX.store1L bg (i * 49 + a * 7 + b) (.int .i64 v) (G'.map (.int .i64)) ty' (by kernel_rfl) rfl hg2 (by rw [List.length_map]; omega) (by kernel_rfl) ?_
  intro w3 hp
  have hs3 := hp.size
  have hg3 : Blk w3 bg ((G'.set (i * 49 + a * 7 + b) v).map (.int .i64)) ty' := by
   rw [List.map_set]; exact hp.blk
  have hU3 : Upd [bg] w w3 := ((hd1.mono (fun k h => by cases h)).trans hU2).trans hp.upd
  refine RX.done [(12, (.int .i64 (b : Int))), (45, (.int .i64 (b : Int))), (44, (.int .i64 ((nB + 1 : Nat) : Int))), (11, (.int .i64 (a : Int))), (34, (.int .i64 (a : Int))), (33, (.int .i64 ((nA + 1 : Nat) : Int))), (10, (.int .i64 (i : Int))), (26, (.int .i64 (i : Int))), (25, (.int .i64 ((nH + 1 : Nat) : Int))), (6, (.pointer (some ⟨bd, od, none⟩))), (8, (.pointer (some ⟨bg, 0, none⟩))), (9, (.slice (some ⟨bo, 0, none⟩) (nH + 1) (nH + 1)))] (by kernel_rfl) (by kernel_rfl) ?_
  have hm3 : MidsR w3 (bo + 1) hi us XX := MidsR.upd hU3 hS.mids (fun k hk => by simp at hk; omega)
  obtain ⟨hXl, hXs⟩ := hS.shp
  obtain ⟨hF, hFr⟩ := hXs i hi1
  have hrow := hFr a ha1
  obtain ⟨m, vs, mid, tyM, m1, m2, m3, m4, m5, m6⟩ := hm3.at (i := i) (by omega)
  obtain ⟨r, tyR, r1, r2, r3, r4, r5, r6⟩ := m5.at (a := a) (by omega)
  rw [hF] at m1
  rw [hrow] at r1
  have hb3 : Blk w3 bo us tyO := hU3.blk hS.blk (by simp; omega)
  refine St.drw K67_26 [] [(0, true), (1, true), (2, true), (3, true), (4, true), (5, true), (6, true), (7, true), (8, true), (9, true), (10, true), (11, true), (12, true), (13, true), (14, true), (15, true), (16, false)] mixed (by kernel_rfl) (by kernel_rfl) ?_
  intro w4 hd4 hds4
  have hy1 : ∀ w', (Instr.indexAt 100 (.slice (some ⟨bo, 0, none⟩) (nH + 1) (nH + 1)) (.int .i64 (i : Int))).run Try.prog w' = .ok (.pointer (some ⟨bo, 0 + i * 1, none⟩)) w' := fun w' => idx_sl (e := 23) (sz := 1) (by kernel_rfl) (by kernel_rfl) bo 0 (nH + 1) (nH + 1) i hi1 _
  have hy2 : ∀ w', (Instr.indexAt 23 (.slice (some ⟨m, 0, none⟩) (nA + 1) (nA + 1)) (.int .i64 (a : Int))).run Try.prog w' = .ok (.pointer (some ⟨m, 0 + a * 1, none⟩)) w' := fun w' => idx_sl (e := 24) (sz := 1) (by kernel_rfl) (by kernel_rfl) m 0 (nA + 1) (nA + 1) a ha1 _
  have hy3 : ∀ w', (Instr.indexAt 24 (.slice (some ⟨r, 0, none⟩) (nB + 1) (nB + 1)) (.int .i64 (b : Int))).run Try.prog w' = .ok (.pointer (some ⟨r, 0 + b * 1, none⟩)) w' := fun w' => idx_sl (e := 3) (sz := 1) (by kernel_rfl) (by kernel_rfl) r 0 (nB + 1) (nB + 1) b hbl _
  have hc1 : w4.cell? ⟨bo, 0 + i * 1, none⟩ = some (.slice (some ⟨m, 0, none⟩) (nA + 1) (nA + 1)) := by rw [show 0 + i * 1 = i by omega]; exact Blk.cell (Ext.blk hd4 hb3) m1
  have hc2 : w4.cell? ⟨m, 0 + a * 1, none⟩ = some (.slice (some ⟨r, 0, none⟩) (nB + 1) (nB + 1)) := by rw [show 0 + a * 1 = a by omega]; exact Blk.cell (Ext.blk hd4 m4) r1
  have hc3 : w4.cell? ⟨bg, 0 + i * 49 + a * 7 + b * 1, none⟩ = some (.int .i64 v) := by
   rw [show 0 + i * 49 + a * 7 + b * 1 = i * 49 + a * 7 + b by omega]
   exact Blk.cell (Ext.blk hd4 hg3) (by rw [List.map_set, List.getElem?_set_self (by rw [List.length_map]; omega)])
  refine RX.qd 16 [(2, true, (.pointer (some ⟨bo, 0 + i * 1, none⟩))), (3, true, (.slice (some ⟨m, 0, none⟩) (nA + 1) (nA + 1))), (5, true, (.pointer (some ⟨m, 0 + a * 1, none⟩))), (6, true, (.slice (some ⟨r, 0, none⟩) (nB + 1) (nB + 1))), (11, true, (.pointer (some ⟨bg, 0 + i * 49, none⟩))), (12, true, (.pointer (some ⟨bg, 0 + i * 49 + a * 7, none⟩))), (13, true, (.pointer (some ⟨bg, 0 + i * 49 + a * 7 + b * 1, none⟩))), (14, true, (.int .i64 v)), (15, true, (.pointer (some ⟨r, 0 + b * 1, none⟩)))] [(74, (.pointer (some ⟨r, 0 + b * 1, none⟩))), (73, (.int .i64 v)), (45, (.int .i64 (b : Int))), (44, (.int .i64 ((nB + 1 : Nat) : Int))), (11, (.int .i64 (a : Int))), (34, (.int .i64 (a : Int))), (33, (.int .i64 ((nA + 1 : Nat) : Int))), (10, (.int .i64 (i : Int))), (26, (.int .i64 (i : Int))), (25, (.int .i64 ((nH + 1 : Nat) : Int))), (6, (.pointer (some ⟨bd, od, none⟩))), (8, (.pointer (some ⟨bg, 0, none⟩))), (9, (.slice (some ⟨bo, 0, none⟩) (nH + 1) (nH + 1)))] [.raw (Instr.indexAt 100 (.slice (some ⟨bo, 0, none⟩) (nH + 1) (nH + 1)) (.int .i64 (i : Int))) (.pointer (some ⟨bo, 0 + i * 1, none⟩)), .cell ⟨bo, 0 + i * 1, none⟩ (.slice (some ⟨m, 0, none⟩) (nA + 1) (nA + 1)), .raw (Instr.indexAt 23 (.slice (some ⟨m, 0, none⟩) (nA + 1) (nA + 1)) (.int .i64 (a : Int))) (.pointer (some ⟨m, 0 + a * 1, none⟩)), .cell ⟨m, 0 + a * 1, none⟩ (.slice (some ⟨r, 0, none⟩) (nB + 1) (nB + 1)), .raw (Instr.indexAt 159 (.pointer (some ⟨bg, 0, none⟩)) (.int .i64 (i : Int))) (.pointer (some ⟨bg, 0 + i * 49, none⟩)), .raw (Instr.indexAt 157 (.pointer (some ⟨bg, 0 + i * 49, none⟩)) (.int .i64 (a : Int))) (.pointer (some ⟨bg, 0 + i * 49 + a * 7, none⟩)), .raw (Instr.indexAt 156 (.pointer (some ⟨bg, 0 + i * 49 + a * 7, none⟩)) (.int .i64 (b : Int))) (.pointer (some ⟨bg, 0 + i * 49 + a * 7 + b * 1, none⟩)), .cell ⟨bg, 0 + i * 49 + a * 7 + b * 1, none⟩ (.int .i64 v), .raw (Instr.indexAt 24 (.slice (some ⟨r, 0, none⟩) (nB + 1) (nB + 1)) (.int .i64 (b : Int))) (.pointer (some ⟨r, 0 + b * 1, none⟩))] (by kernel_rfl) ⟨hy1 _, hc1, hy2 _, hc2, hx1 _, hx2 _, hx3 _, hc3, hy3 _⟩ ⟨fun w' _ => hy1 w', List.not_mem_nil, fun w' _ => hy2 w', List.not_mem_nil, fun w' _ => hx1 w', fun w' _ => hx2 w', fun w' _ => hx3 w', List.not_mem_nil, fun w' _ => hy3 w'⟩ ?_
  rw [show 0 + b * 1 = b by omega]
  refine RX.store1L r b (.int .i64 v) (((XX.getD i []).getD a []).map (.int .i64)) tyR (by kernel_rfl) rfl (Ext.blk hd4 r5) (by rw [List.length_map]; omega) (by kernel_rfl) ?_
  intro w5 hp5
  have hs5 := hp5.size
  refine RX.done [(45, (.int .i64 (b : Int))), (44, (.int .i64 ((nB + 1 : Nat) : Int))), (11, (.int .i64 (a : Int))), (34, (.int .i64 (a : Int))), (33, (.int .i64 ((nA + 1 : Nat) : Int))), (10, (.int .i64 (i : Int))), (26, (.int .i64 (i : Int))), (25, (.int .i64 ((nH + 1 : Nat) : Int))), (6, (.pointer (some ⟨bd, od, none⟩))), (8, (.pointer (some ⟨bg, 0, none⟩))), (9, (.slice (some ⟨bo, 0, none⟩) (nH + 1) (nH + 1)))] (by kernel_rfl) (by kernel_rfl) ?_
  refine St.reg K67_20 [(0, true), (1, true)] (by kernel_rfl) (by kernel_rfl) ?_
  refine RX.q 2 [(0, false, .int .i64 ((b : Int) + 1))] [(45, .int .i64 ((b : Int) + 1)), (44, (.int .i64 ((nB + 1 : Nat) : Int))), (11, (.int .i64 (a : Int))), (34, (.int .i64 (a : Int))), (33, (.int .i64 ((nA + 1 : Nat) : Int))), (10, (.int .i64 (i : Int))), (26, (.int .i64 (i : Int))), (25, (.int .i64 ((nH + 1 : Nat) : Int))), (6, (.pointer (some ⟨bd, od, none⟩))), (8, (.pointer (some ⟨bg, 0, none⟩))), (9, (.slice (some ⟨bo, 0, none⟩) (nH + 1) (nH + 1)))] [.eq (.int .i64 (IntKind.i64.wrap ((b : Int) + 1))) (.int .i64 ((b : Int) + 1))] (by kernel_rfl) (int64 (by omega)) ?_
  refine RX.done [(45, .int .i64 ((b : Int) + 1)), (44, (.int .i64 ((nB + 1 : Nat) : Int))), (11, (.int .i64 (a : Int))), (34, (.int .i64 (a : Int))), (33, (.int .i64 ((nA + 1 : Nat) : Int))), (10, (.int .i64 (i : Int))), (26, (.int .i64 (i : Int))), (25, (.int .i64 ((nH + 1 : Nat) : Int))), (6, (.pointer (some ⟨bd, od, none⟩))), (8, (.pointer (some ⟨bg, 0, none⟩))), (9, (.slice (some ⟨bo, 0, none⟩) (nH + 1) (nH + 1)))] (by kernel_rfl) (by kernel_rfl) ?_
  have hU5 : Upd [r] w3 w5 := (hd4.mono (fun k h => by cases h)).trans hp5.upd
  have hr5 : Blk w5 r ((((XX.getD i []).getD a []).set b v).map (.int .i64)) tyR := by
   rw [List.map_set]; exact hp5.blk
  have hin5 : ∀ x ∈ ((XX.getD i []).getD a []).set b v, inR .i64 x := fun x hx => by
   rcases List.mem_or_eq_of_mem_set hx with h | h
   ·exact r3 x h
   ·subst h; exact hvi
  have hR5 := r6 w5 (((XX.getD i []).getD a []).set b v) (by simp) hin5 hU5 hr5
  have hM5 := m6 w5 ((XX.getD i []).set a (((XX.getD i []).getD a []).set b v)) [r] (by simp) hU5 (fun k hk => by simp at hk; omega) hR5
  have hs4 := hd4.size
  refine St.weak (by kernel_rfl) (ih (b + 1) _ _ w5 (by omega) hq2 ⟨?_, hU5.blk hb3 (by simp; omega), hM5, hS.shp.upd3 hi1 ha1, ⟨ty', hU5.blk hg3 (by simp; omega)⟩, by simp [hl2], fun x hx => ?_, hlow⟩)
  ·exact (hS.upd.trans hU3).trans_old hU5 (fun k hk => by simp at hk; omega)
  ·rcases List.mem_or_eq_of_mem_set hx with h | h
   ·exact hin2 x h
   ·subst h; exact hvi
set_option maxHeartbeats 2000000 in
theorem marks_a {X : Ctx} {df : List Deferred} {N : Nat} {M : Nat → Option Obj} {T : List (List Int)} {H A B : List Int} {f : Int} (bd od bg bo hi nH nA nB i : Nat) (us : List Value) (tyO : TypeId) (w0 : World) (hnH : nH ≤ 10) (hnA : nA ≤ 6) (hnB : nB ≤ 6) (hi1 : i < nH + 1) (hM : ∀ b o, M b = some o → b ≠ bg ∧ w0.heap[b]? = some o) (hMb : M bg = none) (hd : ∀ ρ, RepV ⟨ρ, M⟩ (.fe DeskT (T, H, f, A, B) 0) (.pointer (some ⟨bd, od, none⟩))) (G2 : List Int) (X2 : List (List (List Int))) (hk : ∀ w, MS w0 w bg bo hi us tyO (nH + 1) (nA + 1) (nB + 1) G2 X2 → St Try.prog X 79 K67_18 [(26, (.int .i64 (i : Int))), (25, (.int .i64 ((nH + 1 : Nat) : Int))), (6, (.pointer (some ⟨bd, od, none⟩))), (8, (.pointer (some ⟨bg, 0, none⟩))), (9, (.slice (some ⟨bo, 0, none⟩) (nH + 1) (nH + 1)))] df w) :
  ∀ (k a : Nat) (G : List Int) (XX : List (List (List Int))) (w : World), k + a = nA + 1 → mkA N (T, H, f, A, B) (nB + 1) i k a G XX = some (G2, X2) → MS w0 w bg bo hi us tyO (nH + 1) (nA + 1) (nB + 1) G XX → St Try.prog X 79 K67_15 [(34, (.int .i64 (a : Int))), (33, (.int .i64 ((nA + 1 : Nat) : Int))), (10, (.int .i64 (i : Int))), (26, (.int .i64 (i : Int))), (25, (.int .i64 ((nH + 1 : Nat) : Int))), (6, (.pointer (some ⟨bd, od, none⟩))), (8, (.pointer (some ⟨bg, 0, none⟩))), (9, (.slice (some ⟨bo, 0, none⟩) (nH + 1) (nH + 1)))] df w := by
 intro k
 induction k with
 | zero =>
  intro a G XX w hkb hq hS
  simp only [mkA, Option.some.injEq, Prod.mk.injEq] at hq
  obtain ⟨rfl, rfl⟩ := hq
  refine St.reg K67_16 [(0, true)] (by kernel_rfl) (by kernel_rfl) ?_
  refine RX.q 1 [] [(35, .bool (decide ((a : Int) < ((nA + 1 : Nat) : Int)))), (34, (.int .i64 (a : Int))), (33, (.int .i64 ((nA + 1 : Nat) : Int))), (10, (.int .i64 (i : Int))), (26, (.int .i64 (i : Int))), (25, (.int .i64 ((nH + 1 : Nat) : Int))), (6, (.pointer (some ⟨bd, od, none⟩))), (8, (.pointer (some ⟨bg, 0, none⟩))), (9, (.slice (some ⟨bo, 0, none⟩) (nH + 1) (nH + 1)))] [] (by kernel_rfl) trivial ?_
  refine RX.done [(35, .bool (decide ((a : Int) < ((nA + 1 : Nat) : Int)))), (34, (.int .i64 (a : Int))), (33, (.int .i64 ((nA + 1 : Nat) : Int))), (10, (.int .i64 (i : Int))), (26, (.int .i64 (i : Int))), (25, (.int .i64 ((nH + 1 : Nat) : Int))), (6, (.pointer (some ⟨bd, od, none⟩))), (8, (.pointer (some ⟨bg, 0, none⟩))), (9, (.slice (some ⟨bo, 0, none⟩) (nH + 1) (nH + 1)))] (by kernel_rfl) (by kernel_rfl) ?_
  refine St.cond (k1 := K67_17) (k2 := K67_18) (decide ((a : Int) < ((nA + 1 : Nat) : Int))) (by kernel_rfl) (fun hc => ?_) (fun hc => ?_)
  ·have hh : (a : Int) < ((nA + 1 : Nat) : Int) := by simpa using hc
   omega
  ·exact St.weak (L' := [(26, (.int .i64 (i : Int))), (25, (.int .i64 ((nH + 1 : Nat) : Int))), (6, (.pointer (some ⟨bd, od, none⟩))), (8, (.pointer (some ⟨bg, 0, none⟩))), (9, (.slice (some ⟨bo, 0, none⟩) (nH + 1) (nH + 1)))]) (by kernel_rfl) (hk w hS)
 | succ k ih =>
  intro a G XX w hkb hq hS
  unfold mkA at hq
  obtain ⟨⟨G', X'⟩, hq1, hq2⟩ := bind_some hq
  dsimp only at hq2
  have ha1 : a < nA + 1 := by omega
  refine St.reg K67_16 [(0, true)] (by kernel_rfl) (by kernel_rfl) ?_
  refine RX.q 1 [] [(35, .bool (decide ((a : Int) < ((nA + 1 : Nat) : Int)))), (34, (.int .i64 (a : Int))), (33, (.int .i64 ((nA + 1 : Nat) : Int))), (10, (.int .i64 (i : Int))), (26, (.int .i64 (i : Int))), (25, (.int .i64 ((nH + 1 : Nat) : Int))), (6, (.pointer (some ⟨bd, od, none⟩))), (8, (.pointer (some ⟨bg, 0, none⟩))), (9, (.slice (some ⟨bo, 0, none⟩) (nH + 1) (nH + 1)))] [] (by kernel_rfl) trivial ?_
  refine RX.done [(35, .bool (decide ((a : Int) < ((nA + 1 : Nat) : Int)))), (34, (.int .i64 (a : Int))), (33, (.int .i64 ((nA + 1 : Nat) : Int))), (10, (.int .i64 (i : Int))), (26, (.int .i64 (i : Int))), (25, (.int .i64 ((nH + 1 : Nat) : Int))), (6, (.pointer (some ⟨bd, od, none⟩))), (8, (.pointer (some ⟨bg, 0, none⟩))), (9, (.slice (some ⟨bo, 0, none⟩) (nH + 1) (nH + 1)))] (by kernel_rfl) (by kernel_rfl) ?_
  refine St.cond (k1 := K67_17) (k2 := K67_18) (decide ((a : Int) < ((nA + 1 : Nat) : Int))) (by kernel_rfl) (fun hc => ?_) (fun hc => ?_)
  rotate_left
  ·have hh : ((nA + 1 : Nat) : Int) ≤ (a : Int) := by simpa using hc
   omega
  clear hc
  refine St.weak (L' := [(34, (.int .i64 (a : Int))), (33, (.int .i64 ((nA + 1 : Nat) : Int))), (10, (.int .i64 (i : Int))), (26, (.int .i64 (i : Int))), (25, (.int .i64 ((nH + 1 : Nat) : Int))), (6, (.pointer (some ⟨bd, od, none⟩))), (8, (.pointer (some ⟨bg, 0, none⟩))), (9, (.slice (some ⟨bo, 0, none⟩) (nH + 1) (nH + 1)))]) (by kernel_rfl) ?_
  refine St.reg K67_19 [(0, true), (1, true)] (by kernel_rfl) (by kernel_rfl) ?_
  refine RX.q 2 [] [(11, (.int .i64 (a : Int))), (34, (.int .i64 (a : Int))), (33, (.int .i64 ((nA + 1 : Nat) : Int))), (10, (.int .i64 (i : Int))), (26, (.int .i64 (i : Int))), (25, (.int .i64 ((nH + 1 : Nat) : Int))), (6, (.pointer (some ⟨bd, od, none⟩))), (8, (.pointer (some ⟨bg, 0, none⟩))), (9, (.slice (some ⟨bo, 0, none⟩) (nH + 1) (nH + 1)))] [] (by kernel_rfl) trivial ?_
  refine RX.done [(11, (.int .i64 (a : Int))), (34, (.int .i64 (a : Int))), (33, (.int .i64 ((nA + 1 : Nat) : Int))), (10, (.int .i64 (i : Int))), (26, (.int .i64 (i : Int))), (25, (.int .i64 ((nH + 1 : Nat) : Int))), (6, (.pointer (some ⟨bd, od, none⟩))), (8, (.pointer (some ⟨bg, 0, none⟩))), (9, (.slice (some ⟨bo, 0, none⟩) (nH + 1) (nH + 1)))] (by kernel_rfl) (by kernel_rfl) ?_
  obtain ⟨hXl, hXs⟩ := hS.shp
  obtain ⟨hF, hFr⟩ := hXs i hi1
  have hrow := hFr a ha1
  obtain ⟨m, vs, mid, tyM, m1, m2, m3, m4, m5, m6⟩ := hS.mids.at (i := i) (by omega)
  obtain ⟨r, tyR, r1, r2, r3, r4, r5, r6⟩ := m5.at (a := a) (by omega)
  rw [hF] at m1
  rw [hrow] at r1
  have hy1 : ∀ w', (Instr.indexAt 100 (.slice (some ⟨bo, 0, none⟩) (nH + 1) (nH + 1)) (.int .i64 (i : Int))).run Try.prog w' = .ok (.pointer (some ⟨bo, 0 + i * 1, none⟩)) w' := fun w' => idx_sl (e := 23) (sz := 1) (by kernel_rfl) (by kernel_rfl) bo 0 (nH + 1) (nH + 1) i hi1 _
  have hy2 : ∀ w', (Instr.indexAt 23 (.slice (some ⟨m, 0, none⟩) (nA + 1) (nA + 1)) (.int .i64 (a : Int))).run Try.prog w' = .ok (.pointer (some ⟨m, 0 + a * 1, none⟩)) w' := fun w' => idx_sl (e := 24) (sz := 1) (by kernel_rfl) (by kernel_rfl) m 0 (nA + 1) (nA + 1) a ha1 _
  have hc1 : w.cell? ⟨bo, 0 + i * 1, none⟩ = some (.slice (some ⟨m, 0, none⟩) (nA + 1) (nA + 1)) := by rw [show 0 + i * 1 = i by omega]; exact Blk.cell hS.blk m1
  have hc2 : w.cell? ⟨m, 0 + a * 1, none⟩ = some (.slice (some ⟨r, 0, none⟩) (nB + 1) (nB + 1)) := by rw [show 0 + a * 1 = a by omega]; exact Blk.cell m4 r1
  refine St.reg K67_20 [(0, true), (1, true), (2, true), (3, true), (4, true), (5, true), (6, true), (7, true), (8, true)] (by kernel_rfl) (by kernel_rfl) ?_
  refine RX.q 9 [(2, true, (.pointer (some ⟨bo, 0 + i * 1, none⟩))), (3, true, (.slice (some ⟨m, 0, none⟩) (nA + 1) (nA + 1))), (5, true, (.pointer (some ⟨m, 0 + a * 1, none⟩))), (6, true, (.slice (some ⟨r, 0, none⟩) (nB + 1) (nB + 1)))] [(45, .int .i64 0), (44, (.int .i64 ((nB + 1 : Nat) : Int))), (11, (.int .i64 (a : Int))), (34, (.int .i64 (a : Int))), (33, (.int .i64 ((nA + 1 : Nat) : Int))), (10, (.int .i64 (i : Int))), (26, (.int .i64 (i : Int))), (25, (.int .i64 ((nH + 1 : Nat) : Int))), (6, (.pointer (some ⟨bd, od, none⟩))), (8, (.pointer (some ⟨bg, 0, none⟩))), (9, (.slice (some ⟨bo, 0, none⟩) (nH + 1) (nH + 1)))] [.raw (Instr.indexAt 100 (.slice (some ⟨bo, 0, none⟩) (nH + 1) (nH + 1)) (.int .i64 (i : Int))) (.pointer (some ⟨bo, 0 + i * 1, none⟩)), .cell ⟨bo, 0 + i * 1, none⟩ (.slice (some ⟨m, 0, none⟩) (nA + 1) (nA + 1)), .raw (Instr.indexAt 23 (.slice (some ⟨m, 0, none⟩) (nA + 1) (nA + 1)) (.int .i64 (a : Int))) (.pointer (some ⟨m, 0 + a * 1, none⟩)), .cell ⟨m, 0 + a * 1, none⟩ (.slice (some ⟨r, 0, none⟩) (nB + 1) (nB + 1))] (by kernel_rfl) ⟨hy1 _, hc1, hy2 _, hc2⟩ ?_
  refine RX.done [(45, .int .i64 0), (44, (.int .i64 ((nB + 1 : Nat) : Int))), (11, (.int .i64 (a : Int))), (34, (.int .i64 (a : Int))), (33, (.int .i64 ((nA + 1 : Nat) : Int))), (10, (.int .i64 (i : Int))), (26, (.int .i64 (i : Int))), (25, (.int .i64 ((nH + 1 : Nat) : Int))), (6, (.pointer (some ⟨bd, od, none⟩))), (8, (.pointer (some ⟨bg, 0, none⟩))), (9, (.slice (some ⟨bo, 0, none⟩) (nH + 1) (nH + 1)))] (by kernel_rfl) (by kernel_rfl) ?_
  refine marks_b bd od bg bo hi nH nA nB i a us tyO w0 hnH hnA hnB hi1 ha1 hM hMb hd G' X' ?_ (nB + 1) 0 G XX w (by omega) hq1 hS
  intro w2 hS2
  refine St.reg K67_15 [(0, true), (1, true)] (by kernel_rfl) (by kernel_rfl) ?_
  refine RX.q 2 [(0, false, .int .i64 ((a : Int) + 1))] [(34, .int .i64 ((a : Int) + 1)), (33, (.int .i64 ((nA + 1 : Nat) : Int))), (10, (.int .i64 (i : Int))), (26, (.int .i64 (i : Int))), (25, (.int .i64 ((nH + 1 : Nat) : Int))), (6, (.pointer (some ⟨bd, od, none⟩))), (8, (.pointer (some ⟨bg, 0, none⟩))), (9, (.slice (some ⟨bo, 0, none⟩) (nH + 1) (nH + 1)))] [.eq (.int .i64 (IntKind.i64.wrap ((a : Int) + 1))) (.int .i64 ((a : Int) + 1))] (by kernel_rfl) (int64 (by omega)) ?_
  refine RX.done [(34, .int .i64 ((a : Int) + 1)), (33, (.int .i64 ((nA + 1 : Nat) : Int))), (10, (.int .i64 (i : Int))), (26, (.int .i64 (i : Int))), (25, (.int .i64 ((nH + 1 : Nat) : Int))), (6, (.pointer (some ⟨bd, od, none⟩))), (8, (.pointer (some ⟨bg, 0, none⟩))), (9, (.slice (some ⟨bo, 0, none⟩) (nH + 1) (nH + 1)))] (by kernel_rfl) (by kernel_rfl) ?_
  exact St.weak (by kernel_rfl) (ih (a + 1) G' X' w2 (by omega) hq2 hS2)
set_option maxHeartbeats 2000000 in
theorem marks_i {X : Ctx} {df : List Deferred} {N : Nat} {M : Nat → Option Obj} {T : List (List Int)} {H A B : List Int} {f : Int} (bd od bg bo hi nH nA nB : Nat) (us : List Value) (tyO : TypeId) (w0 : World) (hnH : nH ≤ 10) (hnA : nA ≤ 6) (hnB : nB ≤ 6) (hM : ∀ b o, M b = some o → b ≠ bg ∧ w0.heap[b]? = some o) (hMb : M bg = none) (hd : ∀ ρ, RepV ⟨ρ, M⟩ (.fe DeskT (T, H, f, A, B) 0) (.pointer (some ⟨bd, od, none⟩))) (G2 : List Int) (X2 : List (List (List Int))) (hk : ∀ w, MS w0 w bg bo hi us tyO (nH + 1) (nA + 1) (nB + 1) G2 X2 → St Try.prog X 79 K67_12 [(9, (.slice (some ⟨bo, 0, none⟩) (nH + 1) (nH + 1)))] df w) :
  ∀ (k i : Nat) (G : List Int) (XX : List (List (List Int))) (w : World), k + i = nH + 1 → mkI N (T, H, f, A, B) (nA + 1) (nB + 1) k i G XX = some (G2, X2) → MS w0 w bg bo hi us tyO (nH + 1) (nA + 1) (nB + 1) G XX → St Try.prog X 79 K67_9 [(26, (.int .i64 (i : Int))), (25, (.int .i64 ((nH + 1 : Nat) : Int))), (6, (.pointer (some ⟨bd, od, none⟩))), (8, (.pointer (some ⟨bg, 0, none⟩))), (9, (.slice (some ⟨bo, 0, none⟩) (nH + 1) (nH + 1)))] df w := by
 intro k
 induction k with
 | zero =>
  intro i G XX w hkb hq hS
  simp only [mkI, Option.some.injEq, Prod.mk.injEq] at hq
  obtain ⟨rfl, rfl⟩ := hq
  refine St.reg K67_10 [(0, true)] (by kernel_rfl) (by kernel_rfl) ?_
  refine RX.q 1 [] [(27, .bool (decide ((i : Int) < ((nH + 1 : Nat) : Int)))), (26, (.int .i64 (i : Int))), (25, (.int .i64 ((nH + 1 : Nat) : Int))), (6, (.pointer (some ⟨bd, od, none⟩))), (8, (.pointer (some ⟨bg, 0, none⟩))), (9, (.slice (some ⟨bo, 0, none⟩) (nH + 1) (nH + 1)))] [] (by kernel_rfl) trivial ?_
  refine RX.done [(27, .bool (decide ((i : Int) < ((nH + 1 : Nat) : Int)))), (26, (.int .i64 (i : Int))), (25, (.int .i64 ((nH + 1 : Nat) : Int))), (6, (.pointer (some ⟨bd, od, none⟩))), (8, (.pointer (some ⟨bg, 0, none⟩))), (9, (.slice (some ⟨bo, 0, none⟩) (nH + 1) (nH + 1)))] (by kernel_rfl) (by kernel_rfl) ?_
  refine St.cond (k1 := K67_11) (k2 := K67_12) (decide ((i : Int) < ((nH + 1 : Nat) : Int))) (by kernel_rfl) (fun hc => ?_) (fun hc => ?_)
  ·have hh : (i : Int) < ((nH + 1 : Nat) : Int) := by simpa using hc
   omega
  ·exact St.weak (L' := [(9, (.slice (some ⟨bo, 0, none⟩) (nH + 1) (nH + 1)))]) (by kernel_rfl) (hk w hS)
 | succ k ih =>
  intro i G XX w hkb hq hS
  unfold mkI at hq
  obtain ⟨⟨G', X'⟩, hq1, hq2⟩ := bind_some hq
  dsimp only at hq2
  have hi1 : i < nH + 1 := by omega
  refine St.reg K67_10 [(0, true)] (by kernel_rfl) (by kernel_rfl) ?_
  refine RX.q 1 [] [(27, .bool (decide ((i : Int) < ((nH + 1 : Nat) : Int)))), (26, (.int .i64 (i : Int))), (25, (.int .i64 ((nH + 1 : Nat) : Int))), (6, (.pointer (some ⟨bd, od, none⟩))), (8, (.pointer (some ⟨bg, 0, none⟩))), (9, (.slice (some ⟨bo, 0, none⟩) (nH + 1) (nH + 1)))] [] (by kernel_rfl) trivial ?_
  refine RX.done [(27, .bool (decide ((i : Int) < ((nH + 1 : Nat) : Int)))), (26, (.int .i64 (i : Int))), (25, (.int .i64 ((nH + 1 : Nat) : Int))), (6, (.pointer (some ⟨bd, od, none⟩))), (8, (.pointer (some ⟨bg, 0, none⟩))), (9, (.slice (some ⟨bo, 0, none⟩) (nH + 1) (nH + 1)))] (by kernel_rfl) (by kernel_rfl) ?_
  refine St.cond (k1 := K67_11) (k2 := K67_12) (decide ((i : Int) < ((nH + 1 : Nat) : Int))) (by kernel_rfl) (fun hc => ?_) (fun hc => ?_)
  rotate_left
  ·have hh : ((nH + 1 : Nat) : Int) ≤ (i : Int) := by simpa using hc
   omega
  clear hc
  refine St.weak (L' := [(26, (.int .i64 (i : Int))), (25, (.int .i64 ((nH + 1 : Nat) : Int))), (6, (.pointer (some ⟨bd, od, none⟩))), (8, (.pointer (some ⟨bg, 0, none⟩))), (9, (.slice (some ⟨bo, 0, none⟩) (nH + 1) (nH + 1)))]) (by kernel_rfl) ?_
  refine St.reg K67_13 [(0, true), (1, true)] (by kernel_rfl) (by kernel_rfl) ?_
  refine RX.q 2 [] [(10, (.int .i64 (i : Int))), (26, (.int .i64 (i : Int))), (25, (.int .i64 ((nH + 1 : Nat) : Int))), (6, (.pointer (some ⟨bd, od, none⟩))), (8, (.pointer (some ⟨bg, 0, none⟩))), (9, (.slice (some ⟨bo, 0, none⟩) (nH + 1) (nH + 1)))] [] (by kernel_rfl) trivial ?_
  refine RX.done [(10, (.int .i64 (i : Int))), (26, (.int .i64 (i : Int))), (25, (.int .i64 ((nH + 1 : Nat) : Int))), (6, (.pointer (some ⟨bd, od, none⟩))), (8, (.pointer (some ⟨bg, 0, none⟩))), (9, (.slice (some ⟨bo, 0, none⟩) (nH + 1) (nH + 1)))] (by kernel_rfl) (by kernel_rfl) ?_
  obtain ⟨hXl, hXs⟩ := hS.shp
  obtain ⟨hF, hFr⟩ := hXs i hi1
  obtain ⟨m, vs, mid, tyM, m1, m2, m3, m4, m5, m6⟩ := hS.mids.at (i := i) (by omega)
  rw [hF] at m1
  have hy1 : ∀ w', (Instr.indexAt 100 (.slice (some ⟨bo, 0, none⟩) (nH + 1) (nH + 1)) (.int .i64 (i : Int))).run Try.prog w' = .ok (.pointer (some ⟨bo, 0 + i * 1, none⟩)) w' := fun w' => idx_sl (e := 23) (sz := 1) (by kernel_rfl) (by kernel_rfl) bo 0 (nH + 1) (nH + 1) i hi1 _
  have hc1 : w.cell? ⟨bo, 0 + i * 1, none⟩ = some (.slice (some ⟨m, 0, none⟩) (nA + 1) (nA + 1)) := by rw [show 0 + i * 1 = i by omega]; exact Blk.cell hS.blk m1
  refine St.reg K67_15 [(0, true), (1, true), (2, true), (3, true), (4, true), (5, true)] (by kernel_rfl) (by kernel_rfl) ?_
  refine RX.q 6 [(2, true, (.pointer (some ⟨bo, 0 + i * 1, none⟩))), (3, true, (.slice (some ⟨m, 0, none⟩) (nA + 1) (nA + 1)))] [(34, .int .i64 0), (33, (.int .i64 ((nA + 1 : Nat) : Int))), (10, (.int .i64 (i : Int))), (26, (.int .i64 (i : Int))), (25, (.int .i64 ((nH + 1 : Nat) : Int))), (6, (.pointer (some ⟨bd, od, none⟩))), (8, (.pointer (some ⟨bg, 0, none⟩))), (9, (.slice (some ⟨bo, 0, none⟩) (nH + 1) (nH + 1)))] [.raw (Instr.indexAt 100 (.slice (some ⟨bo, 0, none⟩) (nH + 1) (nH + 1)) (.int .i64 (i : Int))) (.pointer (some ⟨bo, 0 + i * 1, none⟩)), .cell ⟨bo, 0 + i * 1, none⟩ (.slice (some ⟨m, 0, none⟩) (nA + 1) (nA + 1))] (by kernel_rfl) ⟨hy1 _, hc1⟩ ?_
  refine RX.done [(34, .int .i64 0), (33, (.int .i64 ((nA + 1 : Nat) : Int))), (10, (.int .i64 (i : Int))), (26, (.int .i64 (i : Int))), (25, (.int .i64 ((nH + 1 : Nat) : Int))), (6, (.pointer (some ⟨bd, od, none⟩))), (8, (.pointer (some ⟨bg, 0, none⟩))), (9, (.slice (some ⟨bo, 0, none⟩) (nH + 1) (nH + 1)))] (by kernel_rfl) (by kernel_rfl) ?_
  refine marks_a bd od bg bo hi nH nA nB i us tyO w0 hnH hnA hnB hi1 hM hMb hd G' X' ?_ (nA + 1) 0 G XX w (by omega) hq1 hS
  intro w2 hS2
  refine St.reg K67_9 [(0, true), (1, true)] (by kernel_rfl) (by kernel_rfl) ?_
  refine RX.q 2 [(0, false, .int .i64 ((i : Int) + 1))] [(26, .int .i64 ((i : Int) + 1)), (25, (.int .i64 ((nH + 1 : Nat) : Int))), (6, (.pointer (some ⟨bd, od, none⟩))), (8, (.pointer (some ⟨bg, 0, none⟩))), (9, (.slice (some ⟨bo, 0, none⟩) (nH + 1) (nH + 1)))] [.eq (.int .i64 (IntKind.i64.wrap ((i : Int) + 1))) (.int .i64 ((i : Int) + 1))] (by kernel_rfl) (int64 (by omega)) ?_
  refine RX.done [(26, .int .i64 ((i : Int) + 1)), (25, (.int .i64 ((nH + 1 : Nat) : Int))), (6, (.pointer (some ⟨bd, od, none⟩))), (8, (.pointer (some ⟨bg, 0, none⟩))), (9, (.slice (some ⟨bo, 0, none⟩) (nH + 1) (nH + 1)))] (by kernel_rfl) (by kernel_rfl) ?_
  exact St.weak (by kernel_rfl) (ih (i + 1) G' X' w2 (by omega) hq2 hS2)
set_option maxHeartbeats 1000000 in
theorem marks_walk {X : Ctx} {df : List Deferred} {N : Nat} {M : Nat → Option Obj} {T : List (List Int)} {H A B : List Int} {f : Int} (bd od bg nH nA nB cH cA cB : Nat) (aH aA aB : Option Addr) (tyG : TypeId) (w0 : World) (hnH : nH ≤ 10) (hnA : nA ≤ 6) (hnB : nB ≤ 6) (hM : ∀ b o, M b = some o → b ≠ bg ∧ w0.heap[b]? = some o) (hMb : M bg = none) (hd : ∀ ρ, RepV ⟨ρ, M⟩ (.fe DeskT (T, H, f, A, B) 0) (.pointer (some ⟨bd, od, none⟩)))
  (hbd : bd < w0.heap.size) (hcH : w0.cell? ⟨bd, od + 1, none⟩ = some (.slice aH nH cH)) (hcA : w0.cell? ⟨bd, od + 3, none⟩ = some (.slice aA nA cA)) (hcB : w0.cell? ⟨bd, od + 4, none⟩ = some (.slice aB nB cB)) (G : List Int) (hG : Blk w0 bg (G.map (.int .i64)) tyG) (hGl : G.length = 539) (hGi : ∀ x ∈ G, inR .i64 x)
  (G2 : List Int) (X2 : List (List (List Int))) (hq : mkI N (T, H, f, A, B) (nA + 1) (nB + 1) (nH + 1) 0 G (zeros3 (nH + 1) (nA + 1) (nB + 1)) = some (G2, X2)) (hk : ∀ bo hi us tyO w, MS w0 w bg bo hi us tyO (nH + 1) (nA + 1) (nB + 1) G2 X2 → St Try.prog X 79 K67_12 [(9, (.slice (some ⟨bo, 0, none⟩) (nH + 1) (nH + 1)))] df w) :
  St Try.prog X 79 K67_7 [(6, (.pointer (some ⟨bd, od, none⟩))), (8, (.pointer (some ⟨bg, 0, none⟩)))] df w0 := by
 have hbgl := lt_of_blk hG
 refine St.reg K67_8 [(0, true), (1, false), (2, true)] (by kernel_rfl) (by kernel_rfl) ?_
 refine RX.q 1 [] [(22, (.pointer (some ⟨bd, od, none⟩))), (6, (.pointer (some ⟨bd, od, none⟩))), (8, (.pointer (some ⟨bg, 0, none⟩)))] [] (by kernel_rfl) trivial ?_
 refine RX.call 23 111 #[(.pointer (some ⟨bd, od, none⟩))] [(22, (.pointer (some ⟨bd, od, none⟩))), (6, (.pointer (some ⟨bd, od, none⟩))), (8, (.pointer (some ⟨bg, 0, none⟩)))] (fun _ => by kernel_rfl) (by kernel_rfl) ?_
 refine Fn.mono (sized_fn bd od nH nA nB cH cA cB aH aA aB w0 (by omega) (by omega) (by omega) hbd hcH hcA hcB) ?_
 rintro v' w1 ⟨hx, bo, us, tyO, rfl, hbo, hbO, hR⟩
 refine RX.q 1 [] [(6, (.pointer (some ⟨bd, od, none⟩))), (8, (.pointer (some ⟨bg, 0, none⟩))), (9, (.slice (some ⟨bo, 0, none⟩) (nH + 1) (nH + 1)))] [] (by kernel_rfl) trivial ?_
 refine RX.done [(6, (.pointer (some ⟨bd, od, none⟩))), (8, (.pointer (some ⟨bg, 0, none⟩))), (9, (.slice (some ⟨bo, 0, none⟩) (nH + 1) (nH + 1)))] (by kernel_rfl) (by kernel_rfl) ?_
 refine St.reg K67_9 [(0, true), (1, true), (2, true)] (by kernel_rfl) (by kernel_rfl) ?_
 refine RX.q 3 [] [(26, .int .i64 0), (25, (.int .i64 ((nH + 1 : Nat) : Int))), (6, (.pointer (some ⟨bd, od, none⟩))), (8, (.pointer (some ⟨bg, 0, none⟩))), (9, (.slice (some ⟨bo, 0, none⟩) (nH + 1) (nH + 1)))] [] (by kernel_rfl) trivial ?_
 refine RX.done [(26, .int .i64 0), (25, (.int .i64 ((nH + 1 : Nat) : Int))), (6, (.pointer (some ⟨bd, od, none⟩))), (8, (.pointer (some ⟨bg, 0, none⟩))), (9, (.slice (some ⟨bo, 0, none⟩) (nH + 1) (nH + 1)))] (by kernel_rfl) (by kernel_rfl) ?_
 exact marks_i bd od bg bo _ nH nA nB us tyO w0 hnH hnA hnB hM hMb hd G2 X2 (fun w h => hk bo _ us tyO w h) (nH + 1) 0 G _ w1 (by omega) hq ⟨hx.mono (fun k h => by cases h), hbO, hR, Shp.zeros _ _ _, ⟨tyG, Ext.blk hx hG⟩, hGl, hGi, by omega, hbo⟩
end Go.Proofs.Ytfcnhnbnjdccfaa

namespace Go.Proofs.Ytfcnhnbnjdccfaa
set_option linter.all false
open Go

def marks_j2 (N : Nat) (out : List Qj) : Option (List Qj × Int) :=
 some (out, 0)
def marks_j1 (N : Nat) (d : Qa) (g : List Int) : Option (List Qj × Int) :=
 if d.2.1.length ≤ 10 ∧ d.2.2.2.1.length ≤ 6 ∧ d.2.2.2.2.length ≤ 6 then
  (mkI N d (d.2.2.2.1.length + 1) (d.2.2.2.2.length + 1) (d.2.1.length + 1) 0 g (zeros3 (d.2.1.length + 1) (d.2.2.2.1.length + 1) (d.2.2.2.2.length + 1))).bind fun r => marks_j2 N r.2
 else none
def marks_S (N : Nat) (e : List Qe) (e2 : List Int) (e3 : Int) (p : Int) (p2 : Int) : Option (List Qj × Int) :=
 ((opened_S N e e2 e3 p p2).bind fun e => match e with
 | .inl (x_1, y_2) =>
  (br (!decide (y_2 = 0))
   (some ([], y_2))
   (marks_j1 N x_1 (List.replicate 539 (0 : Int))))
 | .inr x_3 =>
  (br (!decide (x_3 = 0))
   (some ([], x_3))
   (none)))
noncomputable def marks_sp (N : Nat) : List Spec := [sp_opened N]
theorem marks_all (N : Nat) : AllP (SpecOK Try.prog) (marks_sp N) := ⟨sp_opened_ok N, trivial⟩
noncomputable def marks_c : Code := (Try.f67.body).getD .skip
noncomputable abbrev marks_B : Body := { c := marks_c, n := 79, res := [.tmp 4, .tmp 5], outs := [⟨[.sl (.sl Qf), .i .i64], []⟩], m0 := 0 }
abbrev marks_rt : altD marks_B.outs → Option (List Qj × Int) := fun r => some (r.1.1, r.1.2.1)
abbrev marks_j2_at : List PI := [.c [1, 1, 1, 1, 1, 1, 0], .c [1, 1, 1, 1, 1, 1, 1]]
abbrev marks_j2_st : Sta := ⟨[9], ⟨[.sl (.sl Qf)], [.dead]⟩⟩
abbrev marks_j2_k (N : Nat) : Leaf (List Qj × Int) := ⟨marks_j2_at, marks_j2_st, fun p => marks_j2 N p.1.1⟩
theorem marks_j2_eq (N : Nat) (out : List Qj) : ev (Z := List Qj × Int) Try.prog (marks_sp N) marks_B [] [] (some marks_rt) 400 true marks_j2_at (stL marks_j2_st ((out, ()), ((), ()))) (stH marks_j2_st ((out, ()), ((), ()))) = marks_j2 N out := by kernel_rfl
theorem marks_j2_lf (N : Nat) {z : List Qj × Int} {E : EE} {Xc : Ctx} (hE : EOK marks_B.m0 E) (hX : CxOK true Xc) (hret : RetOK Try.prog marks_B E Xc z (some marks_rt)) : LeafOK Try.prog marks_B.c marks_B.n marks_B.m0 E Xc z (marks_j2_k N) := leaf_of_ev (B := marks_B) (loops := []) (leaves := []) (marks_all N) mixed trivial hE hX trivial hret (fun p => marks_j2_eq N p.1.1)
abbrev marks_j1_at : List PI := [.c [1, 1, 1, 1, 0], .c [1, 1, 1, 1, 1]]
abbrev marks_j1_st : Sta := ⟨[6, 8], ⟨[.fe Qb, .own 0 0], [.segs [.arr (.int .i64) 539]]⟩⟩
abbrev marks_j1_k (N : Nat) : Leaf (List Qj × Int) := ⟨marks_j1_at, marks_j1_st, fun p => marks_j1 N p.1.1 p.2.1.1⟩
theorem marks_j1_lf (N : Nat) {z : List Qj × Int} {E : EE} {Xc : Ctx} (hE : EOK marks_B.m0 E) (hX : CxOK true Xc) (hret : RetOK Try.prog marks_B E Xc z (some marks_rt)) : LeafOK Try.prog marks_B.c marks_B.n marks_B.m0 E Xc z (marks_j1_k N) := by
 rintro ⟨⟨⟨T, H, f, A, B⟩, u1, u2⟩, ⟨G, u3⟩, u4⟩ hfn a w hS
 have hfn : marks_j1 N (T, H, f, A, B) G = some z := hfn
 unfold marks_j1 at hfn
 split at hfn
 rotate_left
 ·cases hfn
 rename_i hc
 dsimp only at hc hfn
 obtain ⟨hnH, hnA, hnB⟩ := hc
 obtain ⟨⟨G2, X2⟩, hq, hfn⟩ := bind_some hfn
 dsimp only at hfn
 obtain ⟨⟨g, hs, htm, hi, he⟩, hsz, hm⟩ := hS
 have h6 : RepV g (.fe DeskT (T, H, f, A, B) 0) (a.tmps.getD 6 undef) := htm 6 _ rfl
 have h8 : RepV g (.own 0 0) (a.tmps.getD 8 undef) := htm 8 _ rfl
 have hB0 : RepBlk g w 0 (.segs [.arr (.int .i64) 539 G]) := hs.blk 0 _ rfl
 simp only [RepV] at h6 h8
 obtain ⟨b0, c0, n0, us0, ty0, e0, hb0, ⟨v1, v2, rfl, ⟨hGl, hGr⟩, h3⟩, hm0⟩ := hB0
 obtain ⟨_, _, _, e8, h8⟩ := h8
 rw [e0] at e8; cases e8
 have h3 : v2 = [] := h3
 subst h3
 obtain ⟨rfl, hGi⟩ := (repL_intsI _ _).1 hGr
 have hb0 : Blk w b0 (G.map (.int .i64)) ty0 := by rw [List.append_nil] at hb0; exact hb0
 obtain ⟨bd, od, ws, tyD, us, ep, hMD, hseg, hrep⟩ := h6
 have hrep0 := hrep
 simp only [RepC] at hrep
 obtain ⟨_, _, rfl, ⟨vT, rfl, hvT⟩, _, _, rfl, ⟨vH, rfl, hvH⟩, _, _, rfl, ⟨rfl, hvf⟩, _, _, rfl, ⟨vA, rfl, hvA⟩, ⟨vB, rfl, hvB⟩⟩ := hrep
 obtain ⟨aH, cH, rfl⟩ : ∃ aH cH, vH = .slice aH H.length cH := by
  obtain ⟨-, x, y, e, -⟩ := hvH
  exact ⟨x, y, e⟩
 obtain ⟨aA, cA, rfl⟩ : ∃ aA cA, vA = .slice aA A.length cA := by
  obtain ⟨-, x, y, e, -⟩ := hvA
  exact ⟨x, y, e⟩
 obtain ⟨aB, cB, rfl⟩ : ∃ aB cB, vB = .slice aB B.length cB := by
  obtain ⟨-, x, y, e, -⟩ := hvB
  exact ⟨x, y, e⟩
 have hwD := hs.mem _ _ hMD
 have hcl := Cl.of_seg hwD hseg
 have hMw : ∀ b o, g.M b = some o → b ≠ b0 ∧ w.heap[b]? = some o := fun b o h => ⟨fun e => (by rw [e, hm0] at h; cases h), hs.mem b o h⟩
 have hd : ∀ ρ, RepV ⟨ρ, g.M⟩ (.fe DeskT (T, H, f, A, B) 0) (.pointer (some ⟨bd, od, none⟩)) := fun ρ => ⟨bd, od, ws, tyD, _, rfl, hMD, hseg, hrep0⟩
 have hwalk := marks_walk (X := Xc) (df := a.defers) (N := N) (M := g.M) (T := T) (H := H) (A := A) (B := B) (f := f) bd od b0 H.length A.length B.length cH cA cB aH aA aB ty0 w hnH hnA hnB hMw hm0 hd (lt_of_blk hwD) (Cl.cell hcl (i := 1) rfl) (Cl.cell hcl (i := 3) rfl) (Cl.cell hcl (i := 4) rfl) G hb0 hGl hGi G2 X2 hq (fun bo hi' us' tyO w' hMS => ?_)
 ·have e : (marks_j1_k N).at_.map (itm marks_B.c) = K67_7 := by kernel_rfl
  rw [e]
  refine St.toAt (tm := a.tmps) hwalk ⟨hsz, has_mem _ (fun x hx => ?_)⟩
  simp only [List.mem_cons, List.not_mem_nil, or_false] at hx
  rcases hx with rfl | rfl
  ·exact ep
  ·exact h8
 ·intro tm htm'
  have e : (marks_j2_k N).at_.map (itm marks_B.c) = K67_12 := by kernel_rfl
  rw [← e]
  have hu := hMS.upd
  have hge : GE g ⟨g.ρ, frzM g.M [] w.heap.size w'⟩ := ⟨fun _ _ h => h, frzM_mono⟩
  have hMlt : ∀ b o, g.M b = some o → b < w.heap.size := fun b o h => lt_of_blk (hs.mem b o h)
  have hXl := hMS.shp.1
  have hrep := MidsR.rep (M := g.M) (n := w.heap.size) hMS.mids hMS.blk hMlt (by have := hMS.low; omega) hMS.low.2 (by omega)
  rw [hXl] at hrep
  refine marks_j2_lf N hE hX hret ((X2, ()), ((), ())) hfn _ _ ⟨⟨⟨g.ρ, frzM g.M [] w.heap.size w'⟩, ⟨fun b o h => ?_, fun id k hk => ?_, fun i j ki kj b ci ni cj nj x1 y1 x2 y2 z1 z2 => ?_⟩, ?_, fun i hi' => hi i hi', ?_⟩, htm'.1, hm⟩
  ·rcases frzM_inv h with h | ⟨_, _, h, _⟩
   ·exact hu.blk (hs.mem b o h) (by simp [(hMw b o h).1])
   ·exact h
  ·match id, hk with
   | 0, hk => cases hk; trivial
   | n + 1, hk => cases hk
  ·match i, x1 with
   | 0, x1 => cases x1; cases x2
   | n + 1, x1 => cases x1
  ·exact zip_tmF [9] _ ⟨_, _, rfl, (by show RepV _ (.sl (.sl Qf) X2) (tm.getD 9 undef); rw [htm'.2 9 _ rfl]; exact hrep), rfl⟩
  ·have hSw : ∀ b ∈ [b0], Sw g (fun i => (stH marks_j1_st (((T, H, f, A, B), u1, u2), (G, u3), u4))[i]?) [0] b := fun b hb => by
    simp only [List.mem_singleton] at hb
    subst hb
    exact ⟨0, by simp, _, c0, n0, rfl, rfl, e0⟩
   refine hE.step (nw := fun _ => False) (wr := [0]) (fun _ h => h.elim) hs ⟨hu.os, hu.tape, hu.output, hu.size, fun b hb hn => hu.same b hb (fun h => hn (hSw b h)), hge, fun id h0 h1 => absurd h0 h1, fun id b c n h0 h1 => (by rw [h0] at h1; cases h1), fun b o h => ?_⟩ he
   rcases frzM_inv h with h | ⟨x1, x2, x3, x4⟩
   ·exact .inl h
   ·exact .inr ⟨x1, .inl (by rcases x2 with h | h; cases h; exact h), x4⟩

abbrev marks_st : Sta := ⟨[0, 1], ⟨[.agg [.sl Qf, .sl (.int .i64), .i .i64], .agg [.i .i64, .i .i64]], []⟩⟩
theorem marks_eq (N : Nat) (e : List Qe) (e2 : List Int) (e3 : Int) (p : Int) (p2 : Int) : ev (Z := List Qj × Int) Try.prog (marks_sp N) marks_B [] [marks_j1_k N] (some marks_rt) 400 false [.c [0], .c [1]] (stL marks_st (((e, e2, e3, ()), (p, p2, ()), ()), ())) (stH marks_st (((e, e2, e3, ()), (p, p2, ()), ()), ())) = marks_S N e e2 e3 p p2 := by kernel_rfl
noncomputable def sp_marks (N : Nat) : Spec := { f := 67, ins := ⟨[.agg [.sl Qf, .sl (.int .i64), .i .i64], .agg [.i .i64, .i .i64]], []⟩, outs := [⟨[.sl (.sl Qf), .i .i64], []⟩], run := fun p k => (marks_S N p.1.1.1 p.1.1.2.1 p.1.1.2.2.1 p.1.2.1.1 p.1.2.1.2.1).bind fun r => k ((r.1, r.2, ()), ()) }
theorem sp_marks_ok (N : Nat) : SpecOK Try.prog (sp_marks N) := fn_sound (B := marks_B) (loops := []) (leaves := [marks_j1_k N]) (fun p => marks_S N p.1.1.1 p.1.1.2.1 p.1.1.2.2.1 p.1.2.1.1 p.1.2.1.2.1) (fun r => ((r.1, r.2, ()), ())) marks_rt (fun _ _ _ => rfl) (fun r z h => by cases h; rfl) Try.func67 (by kernel_rfl) (by kernel_rfl) (by kernel_rfl) rfl rfl (by kernel_rfl) (fun args w => Sem.pv_run _ _ _ (by kernel_rfl) w) (marks_all N) mixed trivial (fun z E Xc hE hX hret => ⟨marks_j1_lf N hE hX hret, trivial⟩) (fun p => marks_eq N p.1.1.1 p.1.1.2.1 p.1.1.2.2.1 p.1.2.1.1 p.1.2.1.2.1)

end Go.Proofs.Ytfcnhnbnjdccfaa

namespace Go.Proofs.Ytfcnhnbnjdccfaa
set_option linter.all false
open Go

section
variable {N : Nat} {T : List (List Int)} {H A B : List Int} {f : Int}
/-- A cell of the grid. -/
def gv (G : List Int) (i a b : Nat) : Int := G.getD (i * 49 + a * 7 + b) 0
def val3 (X : List (List (List Int))) (i a b : Nat) : Int := ((X.getD i []).getD a []).getD b 0
theorem get_gv {Z : Type} {G : List Int} {k i a b : Nat} {g : Int → Option Z} (hG : G.length = 539) (hk : k = i * 49 + a * 7 + b) (h : i ≤ 10 ∧ a ≤ 6 ∧ b ≤ 6) : get G k g = g (gv G i a b) := by
 subst hk
 exact get_get 0 (by omega)
theorem gv_in {G : List Int} (hG : G.length = 539) (hin : ∀ x ∈ G, 0 ≤ x ∧ x ≤ 99) {i a b : Nat} (h : i ≤ 10 ∧ a ≤ 6 ∧ b ≤ 6) : 0 ≤ gv G i a b ∧ gv G i a b ≤ 99 := hin _ (getD_mem (by omega))
theorem bound_j4_v {G : List Int} {i a b : Nat} {n : Int} (hG : G.length = 539) (hH : H.length ≤ 10) (hB : B.length ≤ 6) (hi : i ≤ H.length) (ha : a ≤ 6) (hb : b ≤ B.length) (hn : n ≤ 99) :
  bound_j4 N (T, H, f, A, B) i a b n G = some (min n (if 0 < i ∧ 0 < b ∧ H.getD (i - 1) 0 = B.getD (b - 1) 0 then gv G (i - 1) a (b - 1) else 99), G) := by
 unfold bound_j4
 have out : ¬ (0 < i ∧ 0 < b ∧ H.getD (i - 1) 0 = B.getD (b - 1) 0) → some (n, G) = some (min n (if 0 < i ∧ 0 < b ∧ H.getD (i - 1) 0 = B.getD (b - 1) 0 then gv G (i - 1) a (b - 1) else 99), G) := fun h => by
  rw [if_neg h, Int.min_eq_left hn]
 by_cases c1 : 0 < i
 ·rw [br_dec (by omega)]
  by_cases c2 : 0 < b
  ·have e1 : ((i : Int) - 1).toNat = i - 1 := by omega
   have e2 : ((b : Int) - 1).toNat = b - 1 := by omega
   rw [br_dec (by omega), chk_eq (by omega), idx_get 0 (by omega) (by dsimp only; omega), chk_eq (by omega), idx_get 0 (by omega) (by dsimp only; omega), e1, e2]
   dsimp only
   by_cases c3 : H.getD (i - 1) 0 = B.getD (b - 1) 0
   ·rw [br_dec c3, chk_eq (by omega), chk_eq (by omega), rng_eq (by omega), rng_eq (by omega), rng_eq (by omega), get_gv (i := i - 1) (a := a) (b := b - 1) hG (by simp) (by omega), if_pos ⟨c1, c2, c3⟩]
   ·rw [br_ndec c3]; exact out (fun h => c3 h.2.2)
  ·rw [br_ndec (by omega)]; exact out (fun h => c2 h.2.1)
 ·rw [br_ndec (by omega)]; exact out (fun h => c1 h.1)
theorem bound_j3_v {G : List Int} {i a b : Nat} {n : Int} (hG : G.length = 539) (hH : H.length ≤ 10) (hA : A.length ≤ 6) (hB : B.length ≤ 6) (hi : i ≤ H.length) (ha : a ≤ A.length) (hb : b ≤ B.length) (hn : n ≤ 99) :
  bound_j3 N (T, H, f, A, B) i a b n G = some (min (min n (if 0 < i ∧ 0 < a ∧ H.getD (i - 1) 0 = A.getD (a - 1) 0 then gv G (i - 1) (a - 1) b else 99)) (if 0 < i ∧ 0 < b ∧ H.getD (i - 1) 0 = B.getD (b - 1) 0 then gv G (i - 1) a (b - 1) else 99), G) := by
 unfold bound_j3
 have j4 := fun (n : Int) (hn : n ≤ 99) => bound_j4_v (N := N) (T := T) (A := A) (f := f) (a := a) (n := n) hG hH hB hi (by omega) hb hn
 have out : ¬ (0 < i ∧ 0 < a ∧ H.getD (i - 1) 0 = A.getD (a - 1) 0) → min n (if 0 < i ∧ 0 < a ∧ H.getD (i - 1) 0 = A.getD (a - 1) 0 then gv G (i - 1) (a - 1) b else 99) = n := fun h => by
  rw [if_neg h, Int.min_eq_left hn]
 by_cases c1 : 0 < i
 ·rw [br_dec (by omega)]
  by_cases c2 : 0 < a
  ·have e1 : ((i : Int) - 1).toNat = i - 1 := by omega
   have e2 : ((a : Int) - 1).toNat = a - 1 := by omega
   rw [br_dec (by omega), chk_eq (by omega), idx_get 0 (by omega) (by dsimp only; omega), chk_eq (by omega), idx_get 0 (by omega) (by dsimp only; omega), e1, e2]
   dsimp only
   by_cases c3 : H.getD (i - 1) 0 = A.getD (a - 1) 0
   ·rw [br_dec c3, chk_eq (by omega), chk_eq (by omega), rng_eq (by omega), rng_eq (by omega), rng_eq (by omega), get_gv (i := i - 1) (a := a - 1) (b := b) hG (by simp) (by omega), j4 _ (by omega), if_pos (show 0 < i ∧ 0 < a ∧ H.getD (i - 1) 0 = A.getD (a - 1) 0 from ⟨c1, c2, c3⟩)]
   ·rw [br_ndec c3, j4 _ hn, out (fun h => c3 h.2.2)]
  ·rw [br_ndec (by omega), j4 _ hn, out (fun h => c2 h.2.1)]
 ·rw [br_ndec (by omega), j4 _ hn, out (fun h => c1 h.1)]
theorem bound_v {G : List Int} {i a b : Nat} (hG : G.length = 539) (hin : ∀ x ∈ G, 0 ≤ x ∧ x ≤ 99) (hH : H.length ≤ 10) (hA : A.length ≤ 6) (hB : B.length ≤ 6) (hi : i ≤ H.length) (ha : a ≤ A.length) (hb : b ≤ B.length) :
  bound_S N (T, H, f, A, B) i a b G = some (bndF H A B (gv G) i a b, G) := by
 unfold bound_S bndF
 have j3 := fun (n : Int) (hn : n ≤ 99) => bound_j3_v (N := N) (T := T) (f := f) (n := n) hG hH hA hB hi ha hb hn
 rw [chk_eq (by omega), chk_eq (by omega)]
 by_cases z : i + a + b = 0
 ·rw [br_dec (by omega), if_pos z]
 ·rw [br_ndec (by omega), if_neg z]
  have j2 : ∀ n : Int, n ≤ 99 → bound_j2 N (T, H, f, A, B) i a b n G = some (min (min (min n (if 0 < b then gv G i a (b - 1) + 1 else 99)) (if 0 < i ∧ 0 < a ∧ H.getD (i - 1) 0 = A.getD (a - 1) 0 then gv G (i - 1) (a - 1) b else 99)) (if 0 < i ∧ 0 < b ∧ H.getD (i - 1) 0 = B.getD (b - 1) 0 then gv G (i - 1) a (b - 1) else 99), G) := fun n hn => by
   unfold bound_j2
   by_cases c : 0 < b
   ·have g := gv_in hG hin (i := i) (a := a) (b := b - 1) (by omega)
    rw [br_dec (by omega), chk_eq (by omega), rng_eq (by omega), rng_eq (by omega), rng_eq (by omega), get_gv (i := i) (a := a) (b := b - 1) hG (by simp) (by omega), chk_eq (by omega), j3 _ (by omega), if_pos c]
   ·rw [br_ndec (by omega), j3 _ hn, if_neg c, Int.min_eq_left hn]
  have j1 : ∀ n : Int, n ≤ 99 → bound_j1 N (T, H, f, A, B) i a b n G = some (min (min (min (min n (if 0 < a then gv G i (a - 1) b + 1 else 99)) (if 0 < b then gv G i a (b - 1) + 1 else 99)) (if 0 < i ∧ 0 < a ∧ H.getD (i - 1) 0 = A.getD (a - 1) 0 then gv G (i - 1) (a - 1) b else 99)) (if 0 < i ∧ 0 < b ∧ H.getD (i - 1) 0 = B.getD (b - 1) 0 then gv G (i - 1) a (b - 1) else 99), G) := fun n hn => by
   unfold bound_j1
   by_cases c : 0 < a
   ·have g := gv_in hG hin (i := i) (a := a - 1) (b := b) (by omega)
    have e2 : ((a : Int) - 1).toNat = a - 1 := by omega
    rw [br_dec (by omega), chk_eq (by omega), rng_eq (by omega), rng_eq (by omega), rng_eq (by omega), get_gv (i := i) (a := a - 1) (b := b) hG (by rw [e2]; simp) (by omega), chk_eq (by omega), j2 _ (by omega), if_pos c]
   ·rw [br_ndec (by omega), j2 _ hn, if_neg c, Int.min_eq_left hn]
  by_cases c : 0 < i
  ·have g := gv_in hG hin (i := i - 1) (a := a) (b := b) (by omega)
   have e1 : ((i : Int) - 1).toNat = i - 1 := by omega
   rw [br_dec (by omega), chk_eq (by omega), rng_eq (by omega), rng_eq (by omega), rng_eq (by omega), get_gv (i := i - 1) (a := a) (b := b) hG (by rw [e1]; simp) (by omega), chk_eq (by omega), j1 _ (by omega), if_pos c]
  ·rw [br_ndec (by omega), j1 _ (by omega), if_neg c]
   simp
theorem bndF_congr {v v' : Nat → Nat → Nat → Int} {i a b : Nat} (h : ∀ i' a' b', i' ≤ i → a' ≤ a → b' ≤ b → i' + a' + b' < i + a + b → v i' a' b' = v' i' a' b') : bndF H A B v i a b = bndF H A B v' i a b := by
 unfold bndF
 by_cases z : i + a + b = 0
 ·rw [if_pos z, if_pos z]
 ·rw [if_neg z, if_neg z]
  have e1 : (if 0 < i then v (i - 1) a b + 1 else 99) = if 0 < i then v' (i - 1) a b + 1 else 99 := by split; rw [h _ _ _ (by omega) (by omega) (by omega) (by omega)]; rfl
  have e2 : (if 0 < a then v i (a - 1) b + 1 else 99) = if 0 < a then v' i (a - 1) b + 1 else 99 := by split; rw [h _ _ _ (by omega) (by omega) (by omega) (by omega)]; rfl
  have e3 : (if 0 < b then v i a (b - 1) + 1 else 99) = if 0 < b then v' i a (b - 1) + 1 else 99 := by split; rw [h _ _ _ (by omega) (by omega) (by omega) (by omega)]; rfl
  have e4 : (if 0 < i ∧ 0 < a ∧ H.getD (i - 1) 0 = A.getD (a - 1) 0 then v (i - 1) (a - 1) b else 99) = if 0 < i ∧ 0 < a ∧ H.getD (i - 1) 0 = A.getD (a - 1) 0 then v' (i - 1) (a - 1) b else 99 := by
   split
   ·rename_i c; rw [h _ _ _ (by omega) (by omega) (by omega) (by omega)]
   ·rfl
  have e5 : (if 0 < i ∧ 0 < b ∧ H.getD (i - 1) 0 = B.getD (b - 1) 0 then v (i - 1) a (b - 1) else 99) = if 0 < i ∧ 0 < b ∧ H.getD (i - 1) 0 = B.getD (b - 1) 0 then v' (i - 1) a (b - 1) else 99 := by
   split
   ·rename_i c; rw [h _ _ _ (by omega) (by omega) (by omega) (by omega)]
   ·rfl
  rw [e1, e2, e3, e4, e5]
theorem gv_set {G : List Int} {i a b i' a' b' : Nat} {v : Int} (hG : G.length = 539) (h : i ≤ 10 ∧ a ≤ 6 ∧ b ≤ 6) (h' : a' ≤ 6 ∧ b' ≤ 6) : gv (G.set (i * 49 + a * 7 + b) v) i' a' b' = if i' = i ∧ a' = a ∧ b' = b then v else gv G i' a' b' := by
 unfold gv
 rw [getD_set3 _ _ _ _ _ (by omega)]
 by_cases c : i' = i ∧ a' = a ∧ b' = b
 ·rw [if_pos c, if_pos (by obtain ⟨rfl, rfl, rfl⟩ := c; rfl)]
 ·rw [if_neg c, if_neg (fun h2 => c (by omega))]
theorem val_upd3 {X : List (List (List Int))} {I A' B' i a b i' a' b' : Nat} {v : Int} (hX : Shp X I A' B') (hi : i < I) (ha : a < A') (hb : b < B') : val3 (upd3 X i a b v) i' a' b' = if i' = i ∧ a' = a ∧ b' = b then v else val3 X i' a' b' := by
 obtain ⟨h1, h2⟩ := hX
 obtain ⟨h3, h4⟩ := h2 i hi
 unfold val3 upd3
 rw [getD_set3 _ _ _ _ _ (by omega)]
 by_cases c1 : i' = i
 ·subst c1
  rw [if_pos rfl, getD_set3 _ _ _ _ _ (by omega)]
  by_cases c2 : a' = a
  ·subst c2
   rw [if_pos rfl, getD_set3 _ _ _ _ _ (by rw [h4 a' ha]; exact hb)]
   by_cases c3 : b' = b
   ·rw [if_pos c3, if_pos ⟨rfl, rfl, c3⟩]
   ·rw [if_neg c3, if_neg (fun h => c3 h.2.2)]
  ·rw [if_neg c2, if_neg (fun h => c2 h.2.1)]
 ·rw [if_neg c1, if_neg (fun h => c1 h.1)]
/-- So far the marks are as great as can be. -/
structure MI (H A B G : List Int) (X : List (List (List Int))) (o : Nat) : Prop where
 glen : G.length = 539
 gin : ∀ x ∈ G, 0 ≤ x ∧ x ≤ 99
 shp : Shp X (H.length + 1) (A.length + 1) (B.length + 1)
 fix : ∀ i a b, i ≤ H.length → a ≤ A.length → b ≤ B.length → i * 49 + a * 7 + b < o → gv G i a b = bndF H A B (gv G) i a b ∧ val3 X i a b = gv G i a b
theorem MI.step {G : List Int} {X : List (List (List Int))} {i a b : Nat} (h : MI H A B G X (i * 49 + a * 7 + b)) (hH : H.length ≤ 10) (hA : A.length ≤ 6) (hB : B.length ≤ 6) (hi : i ≤ H.length) (ha : a ≤ A.length) (hb : b ≤ B.length) :
  MI H A B (G.set (i * 49 + a * 7 + b) (bndF H A B (gv G) i a b)) (upd3 X i a b (bndF H A B (gv G) i a b)) (i * 49 + a * 7 + (b + 1)) := by
 have hle := bndF_le (H := H) (A := A) (B := B) (v := gv G) i a b
 have hnn : 0 ≤ bndF H A B (gv G) i a b := bndF_nonneg (fun i' a' b' h1 h2 h3 _ => (gv_in h.glen h.gin (by omega)).1)
 refine ⟨by rw [List.length_set]; exact h.glen, fun x hx => ?_, h.shp.upd3 (by omega) (by omega), fun i' a' b' h1 h2 h3 h4 => ?_⟩
 ·rcases List.mem_or_eq_of_mem_set hx with hx | rfl
  ·exact h.gin x hx
  ·exact ⟨hnn, hle⟩
 ·have hcg : bndF H A B (gv (G.set (i * 49 + a * 7 + b) (bndF H A B (gv G) i a b))) i' a' b' = bndF H A B (gv G) i' a' b' := bndF_congr (fun i2 a2 b2 g1 g2 g3 g4 => by
   rw [gv_set h.glen (by omega) (by omega), if_neg (by omega)])
  rw [hcg, gv_set h.glen (by omega) (by omega), val_upd3 h.shp (by omega) (by omega) (by omega)]
  by_cases c : i' = i ∧ a' = a ∧ b' = b
  ·rw [if_pos c, if_pos c]
   obtain ⟨rfl, rfl, rfl⟩ := c
   exact ⟨rfl, rfl⟩
  ·rw [if_neg c, if_neg c]
   exact h.fix i' a' b' h1 h2 h3 (by omega)
theorem MI.mono {G : List Int} {X : List (List (List Int))} {o o' : Nat} (h : MI H A B G X o) (hA : A.length ≤ 6) (hB : B.length ≤ 6) (ho : ∀ i a b, i ≤ H.length → a ≤ A.length → b ≤ B.length → i * 49 + a * 7 + b < o' → i * 49 + a * 7 + b < o) : MI H A B G X o' :=
 ⟨h.glen, h.gin, h.shp, fun i a b h1 h2 h3 h4 => h.fix i a b h1 h2 h3 (ho i a b h1 h2 h3 h4)⟩
theorem mkB_v (hH : H.length ≤ 10) (hA : A.length ≤ 6) (hB : B.length ≤ 6) {i a : Nat} (hi : i ≤ H.length) (ha : a ≤ A.length) : ∀ (k b : Nat) (G : List Int) (X : List (List (List Int))), k + b = B.length + 1 → MI H A B G X (i * 49 + a * 7 + b) → ∃ G2 X2, mkB N (T, H, f, A, B) i a k b G X = some (G2, X2) ∧ MI H A B G2 X2 (i * 49 + a * 7 + (B.length + 1))
 | 0, b, G, X, hk, h => ⟨G, X, rfl, by rw [show B.length + 1 = b by omega]; exact h⟩
 | k + 1, b, G, X, hk, h => by
  unfold mkB
  rw [bound_v h.glen h.gin hH hA hB hi ha (by omega)]
  simp only [Option.bind_some]
  exact mkB_v hH hA hB hi ha k (b + 1) _ _ (by omega) (h.step hH hA hB hi ha (by omega))
theorem mkA_v (hH : H.length ≤ 10) (hA : A.length ≤ 6) (hB : B.length ≤ 6) {i : Nat} (hi : i ≤ H.length) : ∀ (k a : Nat) (G : List Int) (X : List (List (List Int))), k + a = A.length + 1 → MI H A B G X (i * 49 + a * 7) → ∃ G2 X2, mkA N (T, H, f, A, B) (B.length + 1) i k a G X = some (G2, X2) ∧ MI H A B G2 X2 (i * 49 + (A.length + 1) * 7)
 | 0, a, G, X, hk, h => ⟨G, X, rfl, by rw [show A.length + 1 = a by omega]; exact h⟩
 | k + 1, a, G, X, hk, h => by
  unfold mkA
  obtain ⟨G1, X1, e, h1⟩ := mkB_v (N := N) (T := T) (f := f) hH hA hB hi (by omega : a ≤ A.length) (B.length + 1) 0 G X (by omega) h
  rw [e]
  simp only [Option.bind_some]
  exact mkA_v hH hA hB hi k (a + 1) G1 X1 (by omega) (h1.mono hA hB (fun i' a' b' _ _ _ _ => by omega))
theorem mkI_v (hH : H.length ≤ 10) (hA : A.length ≤ 6) (hB : B.length ≤ 6) : ∀ (k i : Nat) (G : List Int) (X : List (List (List Int))), k + i = H.length + 1 → MI H A B G X (i * 49) → ∃ G2 X2, mkI N (T, H, f, A, B) (A.length + 1) (B.length + 1) k i G X = some (G2, X2) ∧ MI H A B G2 X2 ((H.length + 1) * 49)
 | 0, i, G, X, hk, h => ⟨G, X, rfl, by rw [show H.length + 1 = i by omega]; exact h⟩
 | k + 1, i, G, X, hk, h => by
  unfold mkI
  obtain ⟨G1, X1, e, h1⟩ := mkA_v (N := N) (T := T) (f := f) hH hA hB (by omega : i ≤ H.length) (A.length + 1) 0 G X (by omega) h
  rw [e]
  simp only [Option.bind_some]
  exact mkI_v hH hA hB k (i + 1) G1 X1 (by omega) (h1.mono hA hB (fun i' a' b' _ _ _ _ => by omega))
/-- Marks that are as great as can be. -/
structure Mks (H A B : List Int) (X : List (List (List Int))) : Prop where
 shp : Shp X (H.length + 1) (A.length + 1) (B.length + 1)
 fix : ∀ i a b, i ≤ H.length → a ≤ A.length → b ≤ B.length → val3 X i a b = bndF H A B (val3 X) i a b
 rng : ∀ i a b, i ≤ H.length → a ≤ A.length → b ≤ B.length → 0 ≤ val3 X i a b ∧ val3 X i a b ≤ 99
theorem marks_v (hN : 20 ≤ N) {p p2 : Int} (h : openE T H f p p2 = 0) : ∃ X, marks_S N T H f p p2 = some (X, 0) ∧ Mks H (T.getD p.toNat []) (T.getD p2.toNat []) X := by
 obtain ⟨hF, ha, hb, e⟩ := opened_good hN h
 have hH := hF.h
 have lA := (hF.l (T.getD p.toNat []) (getD_mem (by omega))).2
 have lB := (hF.l (T.getD p2.toNat []) (getD_mem (by omega))).2
 unfold marks_S
 rw [e]
 simp only [Option.bind_some, decide_true, Bool.not_true, br_false]
 unfold marks_j1
 dsimp only
 generalize T.getD p.toNat [] = A at *
 generalize T.getD p2.toNat [] = B at *
 rw [if_pos ⟨hH, lA, lB⟩]
 obtain ⟨G2, X2, e2, h2⟩ := mkI_v (N := N) (T := T) (f := f) hH lA lB (H.length + 1) 0 (List.replicate 539 0) (zeros3 (H.length + 1) (A.length + 1) (B.length + 1)) (by omega) ⟨List.length_replicate, fun x hx => by rw [(List.mem_replicate.1 hx).2]; decide, Shp.zeros _ _ _, fun i a b _ _ _ h => by omega⟩
 rw [e2]
 refine ⟨X2, rfl, h2.shp, fun i a b h1 h3 h4 => ?_, fun i a b h1 h3 h4 => ?_⟩
 ·obtain ⟨g1, g2⟩ := h2.fix i a b h1 h3 h4 (by omega)
  rw [g2, g1]
  exact bndF_congr (fun i' a' b' k1 k2 k3 _ => ((h2.fix i' a' b' (by omega) (by omega) (by omega) (by omega)).2).symm)
 ·obtain ⟨g1, g2⟩ := h2.fix i a b h1 h3 h4 (by omega)
  rw [g2]
  exact gv_in h2.glen h2.gin (by omega)
end
end Go.Proofs.Ytfcnhnbnjdccfaa

namespace Go.Proofs.Ytfcnhnbnjdccfaa
set_option linter.all false
open Go

section
variable {N : Nat} {T : List (List Int)} {H A B : List Int} {f : Int} {m : List (List (List Int))}
/-! ### The reference -/
abbrev RecT := List (List (List Int)) → List Int → List Int → Bool → Bool → Int → Int → Int → List (List Int) → List Int → Int → Option (List (List (List Int)) × List Int × List Int × Bool × Bool × Int × Int × List (List Int) × List Int × Int)
section
variable {rec : RecT} {al ho : Bool} {i k n : Nat} {now : Int} (hS : Shp m (H.length + 1) (A.length + 1) (B.length + 1)) (hH : H.length ≤ 1000) (hA : A.length ≤ 1000) (hB : B.length ≤ 1000) (hi : i ≤ H.length) (hk : k ≤ A.length) (hn : n ≤ B.length)
include hS hH hA hB hi hk hn
end
/-- All marks are from 0 to 99. -/
def Rng3 (H A B : List Int) (m : List (List (List Int))) : Prop := ∀ i a b, i ≤ H.length → a ≤ A.length → b ≤ B.length → 0 ≤ val3 m i a b ∧ val3 m i a b ≤ 99
section
variable (hS : Shp m (H.length + 1) (A.length + 1) (B.length + 1)) (hH : H.length ≤ 1000) (hA : A.length ≤ 1000) (hB : B.length ≤ 1000)
include hS hH hA hB
end
/-! ### The size of marks -/
def rowK (B : List Int) (k : List Int) : Bool := decide ((k.length : Int) = (B.length : Int) + 1)
def rowL (A B : List Int) (l : List (List Int)) : Bool := decide ((l.length : Int) = (A.length : Int) + 1) && l.all (rowK B)
theorem shp_of (h1 : (m.length : Int) = (H.length : Int) + 1) (h2 : m.all (rowL A B) = true) : Shp m (H.length + 1) (A.length + 1) (B.length + 1) := by
 refine ⟨by omega, fun i hi => ?_⟩
 have g := List.all_eq_true.1 h2 (m.getD i []) (getD_mem (by omega))
 unfold rowL at g
 simp only [Bool.and_eq_true, decide_eq_true_eq] at g
 refine ⟨by omega, fun a ha => ?_⟩
 have g2 := List.all_eq_true.1 g.2 ((m.getD i []).getD a []) (getD_mem (by omega))
 unfold rowK at g2
 simp only [decide_eq_true_eq] at g2
 omega
/-- What marks of an echo without an error show. -/
def ShowG (H A B : List Int) (m : List (List (List Int))) (r : Int × Int) : Prop :=
 (¬ ((m.length : Int) = (H.length : Int) + 1 ∧ m.all (rowL A B) = true) ∧ r = (0, 2)) ∨
  (((m.length : Int) = (H.length : Int) + 1 ∧ m.all (rowL A B) = true) ∧
   ((¬ Rng3 H A B m ∧ r = (0, 3)) ∨ (Rng3 H A B m ∧
    ((¬ Holds3 H A B (val3 m) ∧ r = (0, 8)) ∨ (Holds3 H A B (val3 m) ∧ r = (val3 m H.length A.length B.length, 0))))))
/-- What marks show. -/
def ShowV (T : List (List Int)) (H : List Int) (f p p2 : Int) (m : List (List (List Int))) (r : Int × Int) : Prop :=
 if openE T H f p p2 ≠ 0 then r = (0, openE T H f p p2) else ShowG H (T.getD p.toNat []) (T.getD p2.toNat []) m r
theorem ShowV.good {p p2 : Int} {o : Option (Int × Int)} (c : openE T H f p p2 = 0) (h : ∃ r, o = some r ∧ ShowG H (T.getD p.toNat []) (T.getD p2.toNat []) m r) : ∃ r, o = some r ∧ ShowV T H f p p2 m r := by
 obtain ⟨r, e, h⟩ := h
 refine ⟨r, e, ?_⟩
 unfold ShowV
 rw [if_neg (by simpa using c)]
 exact h
theorem ShowV.bad {p p2 : Int} (c : openE T H f p p2 ≠ 0) : ShowV T H f p p2 m (0, openE T H f p p2) := by
 unfold ShowV
 rw [if_pos c]
end
end Go.Proofs.Ytfcnhnbnjdccfaa

namespace Go.Proofs.Ytfcnhnbnjdccfaa
set_option linter.all false
open Go

section
variable {N : Nat} {T : List (List Int)} {H A B : List Int} {f : Int} {m : List (List (List Int))}
theorem ixfg_gen (d : List (List Int) × List Int × Int × List Int × List Int) : ∀ (n : Nat) (s : List (List Int)) (u u2 : Int), ixfg_l1 N n s u u2 d = (ixL (fun x => (shows11_S N x d).bind fun c => some (!c)) n s u u2).bind fun e => match e with | .inl i => some (.inl (i, d)) | .inr _ => some (.inr d)
 | 0, _, _, _ => rfl
 | n + 1, s, u, u2 => by
  unfold ixfg_l1 ixL
  by_cases c : u2 < u
  ·rw [br_dec c, br_dec c]
   unfold idx
   by_cases c0 : 0 ≤ u2
   ·rw [if_pos c0, if_pos c0]
    cases hx : s[u2.toNat]? with
    | none => rfl
    | some p =>
     dsimp only
     unfold every1g_S
     cases hy : shows11_S N p d with
     | none => rfl
     | some b =>
      simp only [Option.bind_some]
      cases b with
      | false => rfl
      | true =>
       simp only [Bool.not_true, br_false]
       unfold chk
       cases okI (u2 + 1) with
       | false => rfl
       | true => exact ixfg_gen d n s u (u2 + 1)
   ·rw [if_neg c0, if_neg c0]; rfl
  ·rw [br_ndec c, br_ndec c]; rfl
theorem everyg_v {s : List (List Int)} {d : List (List Int) × List Int × Int × List Int × List Int} {p : List Int → Bool} (hp : ∀ x ∈ s, shows11_S N x d = some (p x)) (hs : s.length ≤ 1000) (hN : s.length < N) : everyg_S N s d = some (s.all p) := by
 obtain ⟨r, h1, h2⟩ := ixL_ok (f := fun x => (shows11_S N x d).bind fun c => some (!c)) (p := fun x => !(p x)) (s := s) (fun x hx => by rw [hp x hx]; rfl) (by omega) N 0 (by omega) (by omega)
 unfold everyg_S cofg_S ixfg_S
 rw [ixfg_gen]
 rw [show ((0 : Nat) : Int) = 0 from rfl] at h1
 rw [h1, ← any_not]
 cases r with
 | inl i => simp only [List.drop_zero] at h2; simp [h2.1.1, h2.2]
 | inr u => simp only [List.drop_zero] at h2; simp [h2]
theorem ixfh_gen (d : List (List Int) × List Int × Int × List Int × List Int) : ∀ (n : Nat) (s : List (List (List Int))) (u u2 : Int), ixfh_l1 N n s u u2 d = (ixL (fun x => (shows1_S N x d).bind fun c => some (!c)) n s u u2).bind fun e => match e with | .inl i => some (.inl (i, d)) | .inr _ => some (.inr d)
 | 0, _, _, _ => rfl
 | n + 1, s, u, u2 => by
  unfold ixfh_l1 ixL
  by_cases c : u2 < u
  ·rw [br_dec c, br_dec c]
   unfold idx
   by_cases c0 : 0 ≤ u2
   ·rw [if_pos c0, if_pos c0]
    cases hx : s[u2.toNat]? with
    | none => rfl
    | some p =>
     dsimp only
     unfold every1h_S
     cases hy : shows1_S N p d with
     | none => rfl
     | some b =>
      simp only [Option.bind_some]
      cases b with
      | false => rfl
      | true =>
       simp only [Bool.not_true, br_false]
       unfold chk
       cases okI (u2 + 1) with
       | false => rfl
       | true => exact ixfh_gen d n s u (u2 + 1)
   ·rw [if_neg c0, if_neg c0]; rfl
  ·rw [br_ndec c, br_ndec c]; rfl
theorem everyh_v {s : List (List (List Int))} {d : List (List Int) × List Int × Int × List Int × List Int} {p : List (List Int) → Bool} (hp : ∀ x ∈ s, shows1_S N x d = some (p x)) (hs : s.length ≤ 1000) (hN : s.length < N) : everyh_S N s d = some (s.all p) := by
 obtain ⟨r, h1, h2⟩ := ixL_ok (f := fun x => (shows1_S N x d).bind fun c => some (!c)) (p := fun x => !(p x)) (s := s) (fun x hx => by rw [hp x hx]; rfl) (by omega) N 0 (by omega) (by omega)
 unfold everyh_S cofh_S ixfh_S
 rw [ixfh_gen]
 rw [show ((0 : Nat) : Int) = 0 from rfl] at h1
 rw [h1, ← any_not]
 cases r with
 | inl i => simp only [List.drop_zero] at h2; simp [h2.1.1, h2.2]
 | inr u => simp only [List.drop_zero] at h2; simp [h2]
theorem ixfj_gen : ∀ (n : Nat) (s : List (Int)) (u u2 : Int), ixfj_l1 N n s u u2 = ixL (every1j_S N) n s u u2
 | 0, _, _, _ => rfl
 | n + 1, s, u, u2 => by simp only [ixfj_l1, ixL, ixfj_gen n]
theorem everyj_v {s : List (Int)} {p : Int → Bool} (hp : ∀ x ∈ s, every1j_S N x = some (!p x)) (hs : s.length ≤ 1000000) (hN : s.length < N) : everyj_S N s = some (s.all p) := by
 have := ixS_any (f := every1j_S N) (p := fun x => !p x) (s := s) (N := N) hp hs hN
 unfold everyj_S cofj_S
 have e : ixfj_S N s = ixS (every1j_S N) N s := by
  unfold ixfj_S ixS
  rw [ixfj_gen] <;> rfl
 rw [e, this]
 simp [any_not]
theorem ixfk_gen : ∀ (n : Nat) (s : List (List Int)) (u u2 : Int), ixfk_l1 N n s u u2 = ixL (every1k_S N) n s u u2
 | 0, _, _, _ => rfl
 | n + 1, s, u, u2 => by simp only [ixfk_l1, ixL, ixfk_gen n]
theorem everyk_v {s : List (List Int)} {p : List Int → Bool} (hp : ∀ x ∈ s, every1k_S N x = some (!p x)) (hs : s.length ≤ 1000000) (hN : s.length < N) : everyk_S N s = some (s.all p) := by
 have := ixS_any (f := every1k_S N) (p := fun x => !p x) (s := s) (N := N) hp hs hN
 unfold everyk_S cofk_S
 have e : ixfk_S N s = ixS (every1k_S N) N s := by
  unfold ixfk_S ixS
  rw [ixfk_gen] <;> rfl
 rw [e, this]
 simp [any_not]
theorem ixfl_gen : ∀ (n : Nat) (s : List (List (List Int))) (u u2 : Int), ixfl_l1 N n s u u2 = ixL (every1l_S N) n s u u2
 | 0, _, _, _ => rfl
 | n + 1, s, u, u2 => by simp only [ixfl_l1, ixL, ixfl_gen n]
theorem everyl_v {s : List (List (List Int))} {p : List (List Int) → Bool} (hp : ∀ x ∈ s, every1l_S N x = some (!p x)) (hs : s.length ≤ 1000000) (hN : s.length < N) : everyl_S N s = some (s.all p) := by
 have := ixS_any (f := every1l_S N) (p := fun x => !p x) (s := s) (N := N) hp hs hN
 unfold everyl_S cofl_S
 have e : ixfl_S N s = ixS (every1l_S N) N s := by
  unfold ixfl_S ixS
  rw [ixfl_gen] <;> rfl
 rw [e, this]
 simp [any_not]

theorem shows11_v {k : List Int} (hB : B.length ≤ 1000) : shows11_S N k (T, H, f, A, B) = some (rowK B k) := by
 unfold shows11_S rowK
 rw [chk_eq (by dsimp only; omega)]
theorem shows1_v {l : List (List Int)} (hA : A.length ≤ 1000) (hB : B.length ≤ 1000) (hl : l.length ≤ 1000) (hN : l.length < N) : shows1_S N l (T, H, f, A, B) = some (rowL A B l) := by
 unfold shows1_S rowL
 rw [chk_eq (by dsimp only; omega)]
 dsimp only
 by_cases c : (l.length : Int) = (A.length : Int) + 1
 ·rw [br_dec c, everyg_v (p := rowK B) (fun x _ => shows11_v hB) hl hN, decide_eq_true c]; rfl
 ·rw [br_ndec c, decide_eq_false c]; rfl
def okM (n : Int) : Bool := decide (0 ≤ n ∧ n ≤ 99)
theorem shows2_v {l : List (List Int)} (hl : l.length ≤ 1000 ∧ l.length < N) (hk : ∀ k ∈ l, k.length ≤ 1000 ∧ k.length < N) : shows2_S N l = some (l.all fun k => k.all okM) := by
 unfold shows2_S
 rw [everyk_v (p := fun k => k.all okM) (fun k hk' => by
  unfold every1k_S shows21_S
  rw [everyj_v (p := okM) (fun x _ => by unfold every1j_S shows211_S; rw [in_v]; rfl) (by have := (hk k hk').1; omega) (hk k hk').2]
  rfl) (by omega) hl.2]
 rfl
theorem rng_all (hS : Shp m (H.length + 1) (A.length + 1) (B.length + 1)) : (m.all fun l => l.all fun k => k.all okM) = true ↔ Rng3 H A B m := by
 obtain ⟨g1, g2⟩ := hS
 constructor
 ·intro h i a b h1 h2 h3
  obtain ⟨g3, g4⟩ := g2 i (by omega)
  have g5 := g4 a (by omega)
  have k1 := List.all_eq_true.1 h (m.getD i []) (getD_mem (by omega))
  have k2 := List.all_eq_true.1 k1 ((m.getD i []).getD a []) (getD_mem (by omega))
  have k3 := List.all_eq_true.1 k2 (((m.getD i []).getD a []).getD b 0) (getD_mem (by omega))
  unfold okM at k3
  exact of_decide_eq_true k3
 ·intro h
  refine List.all_eq_true.2 fun l hl => List.all_eq_true.2 fun k hk => List.all_eq_true.2 fun x hx => ?_
  obtain ⟨i, hi, rfl⟩ := List.getElem_of_mem hl
  obtain ⟨a, ha, rfl⟩ := List.getElem_of_mem hk
  obtain ⟨b, hb, rfl⟩ := List.getElem_of_mem hx
  have e1 : m.getD i [] = m[i] := by simp [List.getD, hi]
  obtain ⟨g3, g4⟩ := g2 i (by omega)
  rw [e1] at g3 g4
  have e2 : m[i].getD a [] = m[i][a] := by simp [List.getD, ha]
  have g5 := g4 a (by omega)
  rw [e2] at g5
  have := h i a b (by omega) (by omega) (by omega)
  unfold val3 at this
  rw [e1, e2, show m[i][a].getD b 0 = m[i][a][b] by simp [List.getD, hb]] at this
  exact decide_eq_true this
/-- The grid has the marks so far. -/
structure SI (H A B : List Int) (m : List (List (List Int))) (G : List Int) (o : Nat) : Prop where
 glen : G.length = 539
 gin : ∀ x ∈ G, 0 ≤ x ∧ x ≤ 99
 agr : ∀ i a b, i ≤ H.length → a ≤ A.length → b ≤ B.length → i * 49 + a * 7 + b < o → gv G i a b = val3 m i a b
theorem SI.mono {G : List Int} {o o' : Nat} (h : SI H A B m G o) (ho : ∀ i a b, i ≤ H.length → a ≤ A.length → b ≤ B.length → i * 49 + a * 7 + b < o' → i * 49 + a * 7 + b < o) : SI H A B m G o' :=
 ⟨h.glen, h.gin, fun i a b h1 h2 h3 h4 => h.agr i a b h1 h2 h3 (ho i a b h1 h2 h3 h4)⟩
section
variable (hS : Shp m (H.length + 1) (A.length + 1) (B.length + 1)) (hR : Rng3 H A B m) (hH : H.length ≤ 10) (hA : A.length ≤ 6) (hB : B.length ≤ 6)
include hS hR hH hA hB
theorem shows_l3_p {i a : Nat} {u : List (List (List Int))} {u2 u3 u5 u6 : Int} {u4 : List (List Int)} (hi : i ≤ H.length) (ha : a ≤ A.length) : ∀ (n b : Nat) (G : List Int), B.length + 1 < n + b → b ≤ B.length + 1 → SI H A B m G (i * 49 + a * 7 + b) →
  (∃ G', shows_l3 N n i a u u2 u3 u4 u5 u6 ((m.getD i []).getD a []) (((m.getD i []).getD a []).length : Int) b (T, H, f, A, B) G = some (.inr ((i : Int), u, u2, u3, u4, u5, u6, (T, H, f, A, B), G')) ∧ SI H A B m G' (i * 49 + a * 7 + (B.length + 1)) ∧ ∀ c, b ≤ c → c ≤ B.length → val3 m i a c ≤ bndF H A B (val3 m) i a c) ∨
  (shows_l3 N n i a u u2 u3 u4 u5 u6 ((m.getD i []).getD a []) (((m.getD i []).getD a []).length : Int) b (T, H, f, A, B) G = some (.inl ()) ∧ ∃ c, c ≤ B.length ∧ ¬ val3 m i a c ≤ bndF H A B (val3 m) i a c)
 | 0, b, G, h, _, _ => by omega
 | n + 1, b, G, h, hb, hG => by
  rw [shows_l3]
  have hl : ((m.getD i []).getD a []).length = B.length + 1 := (hS.2 i (by omega)).2 a (by omega)
  by_cases c : b ≤ B.length
  ·have hx0 : ((m.getD i []).getD a [])[((b : Nat) : Int).toNat]? = some (val3 m i a b) := by
    have : b < ((m.getD i []).getD a []).length := by omega
    have h2 : ∀ l : List Int, b < l.length → l[b]? = some (l.getD b 0) := fun l h => by simp [List.getD, h]
    rw [Int.toNat_natCast]
    exact h2 _ this
   have r0 := hR i a b hi ha c
   have ge := hG.glen
   have hG2 : SI H A B m (G.set (i * 49 + a * 7 + b) (val3 m i a b)) (i * 49 + a * 7 + (b + 1)) := by
    refine ⟨by rw [List.length_set]; exact ge, fun x hx => ?_, fun i' a' b' h1 h2 h3 h4 => ?_⟩
    ·rcases List.mem_or_eq_of_mem_set hx with hx | rfl
     ·exact hG.gin x hx
     ·exact r0
    ·rw [gv_set ge (by omega) (by omega)]
     by_cases d : i' = i ∧ a' = a ∧ b' = b
     ·rw [if_pos d]; obtain ⟨rfl, rfl, rfl⟩ := d; rfl
     ·rw [if_neg d]; exact hG.agr i' a' b' h1 h2 h3 (by omega)
   have ebn : bndF H A B (gv (G.set (i * 49 + a * 7 + b) (val3 m i a b))) i a b = bndF H A B (val3 m) i a b := bndF_congr (fun i' a' b' h1 h2 h3 h4 => hG2.agr i' a' b' (by omega) (by omega) (by omega) (by omega))
   rw [br_dec (by omega), idx_eq (by omega) hx0, rng_eq (by omega), rng_eq (by omega), rng_eq (by omega)]
   simp only [Int.toNat_natCast]
   rw [get_gv (i := i) (a := a) (b := b) ge rfl (by omega), bound_v hG2.glen hG2.gin hH hA hB hi ha c, ebn]
   simp only [Option.bind_some]
   by_cases d : bndF H A B (val3 m) i a b < val3 m i a b
   ·rw [br_dec d]
    exact .inr ⟨rfl, b, c, by omega⟩
   ·rw [br_ndec d, chk_eq (by omega)]
    have next := shows_l3_p (u := u) (u2 := u2) (u3 := u3) (u4 := u4) (u5 := u5) (u6 := u6) hi ha n (b + 1) _ (by omega) (by omega) hG2
    rw [show ((b + 1 : Nat) : Int) = (b : Int) + 1 by omega] at next
    rcases next with ⟨G', e, g1, g2⟩ | ⟨e, g⟩
    ·exact .inl ⟨G', e, g1, fun x h1 h2 => by
      rcases Nat.lt_or_ge b x with h3 | h3
      ·exact g2 x h3 h2
      ·obtain rfl : x = b := by omega
       omega⟩
    ·exact .inr ⟨e, g⟩
  ·rw [br_ndec (by omega)]
   exact .inl ⟨G, rfl, by rw [show B.length + 1 = b by omega]; exact hG, fun x h1 h2 => by omega⟩
theorem shows_l2_p (hN : 20 ≤ N) {i : Nat} {u : List (List (List Int))} {u2 u3 : Int} (hi : i ≤ H.length) : ∀ (n a : Nat) (G : List Int), A.length + 1 < n + a → a ≤ A.length + 1 → SI H A B m G (i * 49 + a * 7) →
  (∃ G', shows_l2 N n i u u2 u3 (m.getD i []) ((m.getD i []).length : Int) a (T, H, f, A, B) G = some (.inr (u, u2, u3, (T, H, f, A, B), G')) ∧ SI H A B m G' (i * 49 + (A.length + 1) * 7) ∧ ∀ x c, a ≤ x → x ≤ A.length → c ≤ B.length → val3 m i x c ≤ bndF H A B (val3 m) i x c) ∨
  (shows_l2 N n i u u2 u3 (m.getD i []) ((m.getD i []).length : Int) a (T, H, f, A, B) G = some (.inl ()) ∧ ∃ x c, x ≤ A.length ∧ c ≤ B.length ∧ ¬ val3 m i x c ≤ bndF H A B (val3 m) i x c)
 | 0, a, G, h, _, _ => by omega
 | n + 1, a, G, h, hb, hG => by
  rw [shows_l2]
  have hl : (m.getD i []).length = A.length + 1 := (hS.2 i (by omega)).1
  by_cases c : a ≤ A.length
  ·rw [br_dec (by omega), idx_get [] (by omega) (by omega), Int.toNat_natCast]
   rcases shows_l3_p (N := N) (T := T) (f := f) hS hR hH hA hB (u := u) (u2 := u2) (u3 := u3) (u4 := m.getD i []) (u5 := ((m.getD i []).length : Int)) (u6 := (a : Int)) hi c N 0 G (by omega) (by omega) hG with ⟨G', e, g1, g2⟩ | ⟨e, x, g1, g2⟩
   ·rw [show ((0 : Nat) : Int) = 0 from rfl] at e
    rw [e]
    simp only [Option.bind_some]
    rw [chk_eq (by omega)]
    have next := shows_l2_p hN (u := u) (u2 := u2) (u3 := u3) hi n (a + 1) G' (by omega) (by omega) (g1.mono (fun i' a' b' _ _ _ _ => by omega))
    rw [show ((a + 1 : Nat) : Int) = (a : Int) + 1 by omega] at next
    rcases next with ⟨G2, e2, k1, k2⟩ | ⟨e2, k⟩
    ·exact .inl ⟨G2, e2, k1, fun x y h1 h2 h3 => by
      rcases Nat.lt_or_ge a x with h4 | h4
      ·exact k2 x y h4 h2 h3
      ·obtain rfl : x = a := by omega
       exact g2 y (Nat.zero_le _) h3⟩
    ·exact .inr ⟨e2, k⟩
   ·rw [show ((0 : Nat) : Int) = 0 from rfl] at e
    rw [e]
    exact .inr ⟨rfl, a, x, c, g1, g2⟩
  ·rw [br_ndec (by omega)]
   exact .inl ⟨G, rfl, by rw [show A.length + 1 = a by omega]; exact hG, fun x y h1 h2 => by omega⟩
theorem shows_l1_p (hN : 20 ≤ N) : ∀ (n i : Nat) (G : List Int), H.length + 1 < n + i → i ≤ H.length + 1 → SI H A B m G (i * 49) →
  (∃ G', shows_l1 N n m (m.length : Int) i (T, H, f, A, B) G = some (.inr ((T, H, f, A, B), G')) ∧ SI H A B m G' ((H.length + 1) * 49) ∧ ∀ z x c, i ≤ z → z ≤ H.length → x ≤ A.length → c ≤ B.length → val3 m z x c ≤ bndF H A B (val3 m) z x c) ∨
  (shows_l1 N n m (m.length : Int) i (T, H, f, A, B) G = some (.inl ()) ∧ ∃ z x c, z ≤ H.length ∧ x ≤ A.length ∧ c ≤ B.length ∧ ¬ val3 m z x c ≤ bndF H A B (val3 m) z x c)
 | 0, i, G, h, _, _ => by omega
 | n + 1, i, G, h, hb, hG => by
  rw [shows_l1]
  have hl : m.length = H.length + 1 := hS.1
  by_cases c : i ≤ H.length
  ·rw [br_dec (by omega), idx_get [] (by omega) (by omega), Int.toNat_natCast]
   rcases shows_l2_p (N := N) (T := T) (f := f) hS hR hH hA hB hN (u := m) (u2 := (m.length : Int)) (u3 := (i : Int)) c N 0 G (by omega) (by omega) hG with ⟨G', e, g1, g2⟩ | ⟨e, x, y, g1, g2, g3⟩
   ·rw [show ((0 : Nat) : Int) = 0 from rfl] at e
    rw [e]
    simp only [Option.bind_some]
    rw [chk_eq (by omega)]
    have next := shows_l1_p hN n (i + 1) G' (by omega) (by omega) (g1.mono (fun i' a' b' _ _ _ _ => by omega))
    rw [show ((i + 1 : Nat) : Int) = (i : Int) + 1 by omega] at next
    rcases next with ⟨G2, e2, k1, k2⟩ | ⟨e2, k⟩
    ·exact .inl ⟨G2, e2, k1, fun z x y h1 h2 h3 h5 => by
      rcases Nat.lt_or_ge i z with h4 | h4
      ·exact k2 z x y h4 h2 h3 h5
      ·obtain rfl : z = i := by omega
       exact g2 x y (Nat.zero_le _) h3 h5⟩
    ·exact .inr ⟨e2, k⟩
   ·rw [show ((0 : Nat) : Int) = 0 from rfl] at e
    rw [e]
    exact .inr ⟨rfl, i, x, y, c, g1, g2, g3⟩
  ·rw [br_ndec (by omega)]
   exact .inl ⟨G, rfl, by rw [show H.length + 1 = i by omega]; exact hG, fun z x y h1 h2 => by omega⟩
end
theorem shows_v (hN : 1010 ≤ N) {p p2 : Int} (hm : m.length ≤ 14) (hml : ∀ l ∈ m, l.length ≤ 14 ∧ ∀ k ∈ l, k.length ≤ 14) : ∃ r, shows_S N T H f p p2 m = some r ∧ ShowV T H f p p2 m r := by
 unfold shows_S
 by_cases c : openE T H f p p2 = 0
 ·refine ShowV.good c ?_
  obtain ⟨hF, ha, hb, e⟩ := opened_good (N := N) (by omega) c
  have hH := hF.h
  have lA := (hF.l (T.getD p.toNat []) (getD_mem (by omega))).2
  have lB := (hF.l (T.getD p2.toNat []) (getD_mem (by omega))).2
  rw [e]
  simp only [Option.bind_some, decide_true, Bool.not_true, br_false]
  generalize T.getD p.toNat [] = A at *
  generalize T.getD p2.toNat [] = B at *
  rw [chk_eq (by omega)]
  by_cases c1 : (m.length : Int) = (H.length : Int) + 1
  ·rw [br_nd c1, everyh_v (p := rowL A B) (fun l hl => shows1_v (by omega) (by omega) (by have := (hml l hl).1; omega) (by have := (hml l hl).1; omega)) (by omega) (by omega)]
   simp only [Option.bind_some]
   cases c2 : m.all (rowL A B) with
   | false => exact ⟨_, rfl, .inl ⟨fun h => absurd h.2 (by rw [c2]; decide), rfl⟩⟩
   | true =>
    have hS := shp_of c1 c2
    rw [Bool.not_true, br_false, everyl_v (p := fun l => l.all fun k => k.all okM) (fun l hl => by
     unfold every1l_S
     rw [shows2_v (by have := (hml l hl).1; omega) (fun k hk => by have := (hml l hl).2 k hk; omega)]; rfl) (by omega) (by omega)]
    simp only [Option.bind_some]
    have hra := rng_all (H := H) (A := A) (B := B) hS
    cases c3 : (m.all fun l => l.all fun k => k.all okM) with
    | false =>
     rw [c3] at hra
     exact ⟨_, rfl, .inr ⟨⟨c1, c2⟩, .inl ⟨fun h => absurd (hra.2 h) (by decide), rfl⟩⟩⟩
    | true =>
     rw [c3] at hra
     have hR := hra.1 rfl
     have hle : ∀ z x y, z ≤ H.length → x ≤ A.length → y ≤ B.length → (val3 m z x y ≤ bndF H A B (val3 m) z x y ↔ Stp3 H A B (val3 m) z x y (val3 m z x y)) := fun z x y h1 h2 h3 => le_bndF (hR z x y h1 h2 h3).2
     rw [Bool.not_true, br_false]
     rcases shows_l1_p (N := N) (T := T) (f := f) hS hR hH lA lB (by omega) N 0 (List.replicate 539 0) (by omega) (by omega) ⟨List.length_replicate, fun x hx => by rw [(List.mem_replicate.1 hx).2]; decide, fun i a b _ _ _ h => by omega⟩ with ⟨G', e1, g1, g2⟩ | ⟨e1, z, x, y, h1, h2, h3, h4⟩
     ·rw [show ((0 : Nat) : Int) = 0 from rfl] at e1
      rw [e1]
      simp only [Option.bind_some, Int.toNat_natCast]
      rw [rng_eq (by omega), rng_eq (by omega), rng_eq (by omega), get_gv (i := H.length) (a := A.length) (b := B.length) g1.glen rfl (by omega), g1.agr _ _ _ (by omega) (by omega) (by omega) (by omega)]
      exact ⟨_, rfl, .inr ⟨⟨c1, c2⟩, .inr ⟨hR, .inr ⟨fun i a b h1 h2 h3 => (hle i a b h1 h2 h3).1 (g2 i a b (Nat.zero_le _) h1 h2 h3), rfl⟩⟩⟩⟩
     ·rw [show ((0 : Nat) : Int) = 0 from rfl] at e1
      rw [e1]
      exact ⟨_, rfl, .inr ⟨⟨c1, c2⟩, .inr ⟨hR, .inl ⟨fun h => h4 ((hle z x y h1 h2 h3).2 (h z x y h1 h2 h3)), rfl⟩⟩⟩⟩
  ·rw [br_nnd c1]
   exact ⟨_, rfl, .inl ⟨fun h => c1 h.1, rfl⟩⟩
 ·rw [opened_bad (by omega) c]
  simp only [Option.bind_some]
  rw [br_nnd c]
  exact ⟨_, rfl, ShowV.bad c⟩
end
end Go.Proofs.Ytfcnhnbnjdccfaa

namespace Go.Proofs.Ytfcnhnbnjdccfaa
set_option linter.all false
open Go

section
variable {N : Nat} {T : List (List Int)} {H A B : List Int} {f : Int}
theorem Mks.small {X : List (List (List Int))} (h : Mks H A B X) (hH : H.length ≤ 10) (hA : A.length ≤ 6) (hB : B.length ≤ 6) : X.length ≤ 14 ∧ ∀ l ∈ X, l.length ≤ 14 ∧ ∀ k ∈ l, k.length ≤ 14 := by
 obtain ⟨g1, g2⟩ := h.shp
 refine ⟨by omega, fun l hl => ?_⟩
 obtain ⟨i, hi, rfl⟩ := List.getElem_of_mem hl
 have e1 : X.getD i [] = X[i] := by simp [List.getD, hi]
 obtain ⟨g3, g4⟩ := g2 i (by omega)
 rw [e1] at g3 g4
 refine ⟨by omega, fun k hk => ?_⟩
 obtain ⟨a, ha, rfl⟩ := List.getElem_of_mem hk
 have e2 : X[i].getD a [] = X[i][a] := by simp [List.getD, ha]
 have g5 := g4 a (by omega)
 rw [e2] at g5
 omega
theorem Mks.rows {X : List (List (List Int))} (h : Mks H A B X) : (X.length : Int) = (H.length : Int) + 1 ∧ X.all (rowL A B) = true := by
 obtain ⟨g1, g2⟩ := h.shp
 refine ⟨by omega, List.all_eq_true.2 fun l hl => ?_⟩
 obtain ⟨i, hi, rfl⟩ := List.getElem_of_mem hl
 have e1 : X.getD i [] = X[i] := by simp [List.getD, hi]
 obtain ⟨g3, g4⟩ := g2 i (by omega)
 rw [e1] at g3 g4
 unfold rowL
 simp only [Bool.and_eq_true, decide_eq_true_eq]
 refine ⟨by omega, List.all_eq_true.2 fun k hk => ?_⟩
 obtain ⟨a, ha, rfl⟩ := List.getElem_of_mem hk
 have e2 : X[i].getD a [] = X[i][a] := by simp [List.getD, ha]
 have g5 := g4 a (by omega)
 rw [e2] at g5
 unfold rowK
 simp only [decide_eq_true_eq]
 omega
/-- What marks that are returned show. -/
theorem Mks.show {X : List (List (List Int))} {p p2 : Int} {r : Int × Int} (c : openE T H f p p2 = 0) (h : Mks H (T.getD p.toNat []) (T.getD p2.toNat []) X) (hr : ShowV T H f p p2 X r) (hl : H.length + (T.getD p.toNat []).length + (T.getD p2.toNat []).length ≤ 99) : r = (leastV H (T.getD p.toNat []) (T.getD p2.toNat []), 0) := by
 unfold ShowV at hr
 rw [if_neg (by simpa using c)] at hr
 have hH : Holds3 H (T.getD p.toNat []) (T.getD p2.toNat []) (val3 X) := fun i a b h1 h2 h3 => (le_bndF (h.rng i a b h1 h2 h3).2).1 (by rw [← h.fix i a b h1 h2 h3]; exact Int.le_refl _)
 rcases hr with ⟨g, _⟩ | ⟨_, ⟨g, _⟩ | ⟨_, ⟨g, _⟩ | ⟨_, g⟩⟩⟩
 ·exact absurd h.rows g
 ·exact absurd h.rng g
 ·exact absurd hH g
 ·rw [g, fix_least hl h.fix]
end
end Go.Proofs.Ytfcnhnbnjdccfaa

namespace Go.Proofs.Ytfcnhnbnjdccfaa
set_option linter.all false
open Go

section
variable {N : Nat} {T : List (List Int)} {H A B : List Int} {f : Int}
end
end Go.Proofs.Ytfcnhnbnjdccfaa

namespace Go.Proofs.Ytfcnhnbnjdccfaa
set_option linter.all false
open Go

section
variable {N : Nat} {T : List (List Int)} {H A B : List Int} {f a b : Int}
theorem fit_mem : ∀ (r : List (Int × Int)) (x : At3), fitL H A B r x = true → r ∈ rdx H A B r.length x
 | [], _, _ => by simp [rdx]
 | q :: r, x, h => by
  unfold fitL at h
  cases hs : stepF A B (H.getD x.1 0) x q with
  | none => rw [hs] at h; cases h
  | some y =>
   rw [hs] at h
   exact List.mem_flatMap.2 ⟨(q, y), mem_movesL.2 hs, List.mem_map.2 ⟨r, fit_mem r y h, rfl⟩⟩
end
end Go.Proofs.Ytfcnhnbnjdccfaa

namespace Go.Proofs.Ytfcnhnbnjdccfaa
set_option linter.all false
open Go

section
variable {N : Nat} {T : List (List Int)} {H A B : List Int} {f a b : Int}
end
end Go.Proofs.Ytfcnhnbnjdccfaa

/-
  Parts of a proof, put together: E7.
  Conditions: none.
-/
import Derived.Test.YtfcnhnbnjdccfaaZg
namespace Go.Proofs.Ytfcnhnbnjdccfaa
set_option linter.all false
open Go

def bound_j4 (N : Nat) (d : ((List (List Int)) × ((List Int) × (Int × ((List Int) × (List Int)))))) (i : Int) (a : Int) (b : Int) (n : Int) (g : List Int) : Option (Int × List Int) :=
  br (decide (0 < i))
    (br (decide (0 < b))
      (chk (i - 1) <|
      idx d.2.1 (i - 1) fun x_7 =>
      chk (b - 1) <|
      idx d.2.2.2.2 (b - 1) fun x_8 =>
      br (decide (x_7 = x_8))
        (chk (i - 1) <|
        chk (b - 1) <|
        rng (i - 1) 11 <|
        rng a 7 <|
        rng (b - 1) 7 <|
        get g ((((i - 1).toNat * 49) + a.toNat * 7) + (b - 1).toNat) fun x_9 =>
        some ((min n x_9), g))
        (some (n, g)))
      (some (n, g)))
    (some (n, g))
def bound_j3 (N : Nat) (d : ((List (List Int)) × ((List Int) × (Int × ((List Int) × (List Int)))))) (i : Int) (a : Int) (b : Int) (n : Int) (g : List Int) : Option (Int × List Int) :=
  br (decide (0 < i))
    (br (decide (0 < a))
      (chk (i - 1) <|
      idx d.2.1 (i - 1) fun x_4 =>
      chk (a - 1) <|
      idx d.2.2.2.1 (a - 1) fun x_5 =>
      br (decide (x_4 = x_5))
        (chk (i - 1) <|
        chk (a - 1) <|
        rng (i - 1) 11 <|
        rng (a - 1) 7 <|
        rng b 7 <|
        get g ((((i - 1).toNat * 49) + (a - 1).toNat * 7) + b.toNat) fun x_6 =>
        bound_j4 N d i a b (min n x_6) g)
        (bound_j4 N d i a b n g))
      (bound_j4 N d i a b n g))
    (bound_j4 N d i a b n g)
def bound_j2 (N : Nat) (d : ((List (List Int)) × ((List Int) × (Int × ((List Int) × (List Int)))))) (i : Int) (a : Int) (b : Int) (n : Int) (g : List Int) : Option (Int × List Int) :=
  br (decide (0 < b))
    (chk (b - 1) <|
    rng i 11 <|
    rng a 7 <|
    rng (b - 1) 7 <|
    get g (((i.toNat * 49) + a.toNat * 7) + (b - 1).toNat) fun x_3 =>
    chk (x_3 + 1) <|
    bound_j3 N d i a b (min n (x_3 + 1)) g)
    (bound_j3 N d i a b n g)
def bound_j1 (N : Nat) (d : ((List (List Int)) × ((List Int) × (Int × ((List Int) × (List Int)))))) (i : Int) (a : Int) (b : Int) (n : Int) (g : List Int) : Option (Int × List Int) :=
  br (decide (0 < a))
    (chk (a - 1) <|
    rng i 11 <|
    rng (a - 1) 7 <|
    rng b 7 <|
    get g (((i.toNat * 49) + (a - 1).toNat * 7) + b.toNat) fun x_2 =>
    chk (x_2 + 1) <|
    bound_j2 N d i a b (min n (x_2 + 1)) g)
    (bound_j2 N d i a b n g)
def bound_S (N : Nat) (d : ((List (List Int)) × ((List Int) × (Int × ((List Int) × (List Int)))))) (i : Int) (a : Int) (b : Int) (g : List Int) : Option (Int × List Int) :=
  chk (i + a) <|
  chk ((i + a) + b) <|
  br (decide (((i + a) + b) = 0))
    (some (0, g))
    (br (decide (0 < i))
      (chk (i - 1) <|
      rng (i - 1) 11 <|
      rng a 7 <|
      rng b 7 <|
      get g ((((i - 1).toNat * 49) + a.toNat * 7) + b.toNat) fun x_1 =>
      chk (x_1 + 1) <|
      bound_j1 N d i a b (min 99 (x_1 + 1)) g)
      (bound_j1 N d i a b 99 g))
noncomputable def bound_sp (N : Nat) : List Spec := []
theorem bound_all (N : Nat) : AllP (SpecOK Try.prog) (bound_sp N) := trivial
noncomputable def bound_c : Code := (Try.f110.body).getD .skip
noncomputable abbrev bound_B : Body := { c := bound_c, n := 142, res := [.tmp 10], outs := [⟨[.i .i64], [.segs [.arr (.int .i64) 539]]⟩], m0 := 1 }
abbrev bound_rt : altD bound_B.outs → Option (Int × List Int) := fun r => some (r.1.1, r.2.1.1)
abbrev bound_j4_at : List PI := [.c [1, 1, 1, 1, 1, 1, 1, 0, 0], .c [1, 1, 1, 1, 1, 1, 1, 0, 1], .c [1, 1, 1, 1, 1, 1, 1, 1]]
abbrev bound_j4_st : Sta := ⟨[0, 1, 2, 3, 4, 11], ⟨[.fe (.pair (.sl (.sl (.int .i64))) (.pair (.sl (.int .i64)) (.pair (.int .i64) (.pair (.sl (.int .i64)) (.sl (.int .i64)))))), .own 0 0, .i .i64, .i .i64, .i .i64, .i .i64], [.segs [.arr (.int .i64) 539]]⟩⟩
abbrev bound_j4_k (N : Nat) : Leaf (Int × List Int) := ⟨bound_j4_at, bound_j4_st, fun p => bound_j4 N p.1.1 p.1.2.2.1 p.1.2.2.2.1 p.1.2.2.2.2.1 p.1.2.2.2.2.2.1 p.2.1.1⟩
theorem bound_j4_eq (N : Nat) (d : ((List (List Int)) × ((List Int) × (Int × ((List Int) × (List Int)))))) (i : Int) (a : Int) (b : Int) (n : Int) (g : List Int) : ev (Z := Int × List Int) Try.prog (bound_sp N) bound_B [] [] (some bound_rt) 400 true bound_j4_at (stL bound_j4_st ((d, (), i, a, b, n, ()), ((g, ()), ()))) (stH bound_j4_st ((d, (), i, a, b, n, ()), ((g, ()), ()))) = bound_j4 N d i a b n g := by kernel_rfl
theorem bound_j4_lf (N : Nat) {z : Int × List Int} {E : EE} {Xc : Ctx} (hE : EOK bound_B.m0 E) (hX : CxOK true Xc) (hret : RetOK Try.prog bound_B E Xc z (some bound_rt)) : LeafOK Try.prog bound_B.c bound_B.n bound_B.m0 E Xc z (bound_j4_k N) := leaf_of_ev (B := bound_B) (loops := []) (leaves := []) (bound_all N) mixed trivial hE hX trivial hret (fun p => bound_j4_eq N p.1.1 p.1.2.2.1 p.1.2.2.2.1 p.1.2.2.2.2.1 p.1.2.2.2.2.2.1 p.2.1.1)
abbrev bound_j3_at : List PI := [.c [1, 1, 1, 1, 1, 1, 0, 0], .c [1, 1, 1, 1, 1, 1, 0, 1], .c [1, 1, 1, 1, 1, 1, 1]]
abbrev bound_j3_st : Sta := ⟨[0, 1, 2, 3, 4, 11], ⟨[.fe (.pair (.sl (.sl (.int .i64))) (.pair (.sl (.int .i64)) (.pair (.int .i64) (.pair (.sl (.int .i64)) (.sl (.int .i64)))))), .own 0 0, .i .i64, .i .i64, .i .i64, .i .i64], [.segs [.arr (.int .i64) 539]]⟩⟩
abbrev bound_j3_k (N : Nat) : Leaf (Int × List Int) := ⟨bound_j3_at, bound_j3_st, fun p => bound_j3 N p.1.1 p.1.2.2.1 p.1.2.2.2.1 p.1.2.2.2.2.1 p.1.2.2.2.2.2.1 p.2.1.1⟩
theorem bound_j3_eq (N : Nat) (d : ((List (List Int)) × ((List Int) × (Int × ((List Int) × (List Int)))))) (i : Int) (a : Int) (b : Int) (n : Int) (g : List Int) : ev (Z := Int × List Int) Try.prog (bound_sp N) bound_B [] [bound_j4_k N] (some bound_rt) 400 true bound_j3_at (stL bound_j3_st ((d, (), i, a, b, n, ()), ((g, ()), ()))) (stH bound_j3_st ((d, (), i, a, b, n, ()), ((g, ()), ()))) = bound_j3 N d i a b n g := by kernel_rfl
theorem bound_j3_lf (N : Nat) {z : Int × List Int} {E : EE} {Xc : Ctx} (hE : EOK bound_B.m0 E) (hX : CxOK true Xc) (hret : RetOK Try.prog bound_B E Xc z (some bound_rt)) : LeafOK Try.prog bound_B.c bound_B.n bound_B.m0 E Xc z (bound_j3_k N) := leaf_of_ev (B := bound_B) (loops := []) (leaves := [bound_j4_k N]) (bound_all N) mixed trivial hE hX ⟨bound_j4_lf N hE hX hret, trivial⟩ hret (fun p => bound_j3_eq N p.1.1 p.1.2.2.1 p.1.2.2.2.1 p.1.2.2.2.2.1 p.1.2.2.2.2.2.1 p.2.1.1)
abbrev bound_j2_at : List PI := [.c [1, 1, 1, 1, 1, 0, 0], .c [1, 1, 1, 1, 1, 0, 1], .c [1, 1, 1, 1, 1, 1]]
abbrev bound_j2_st : Sta := ⟨[0, 1, 2, 3, 4, 11], ⟨[.fe (.pair (.sl (.sl (.int .i64))) (.pair (.sl (.int .i64)) (.pair (.int .i64) (.pair (.sl (.int .i64)) (.sl (.int .i64)))))), .own 0 0, .i .i64, .i .i64, .i .i64, .i .i64], [.segs [.arr (.int .i64) 539]]⟩⟩
abbrev bound_j2_k (N : Nat) : Leaf (Int × List Int) := ⟨bound_j2_at, bound_j2_st, fun p => bound_j2 N p.1.1 p.1.2.2.1 p.1.2.2.2.1 p.1.2.2.2.2.1 p.1.2.2.2.2.2.1 p.2.1.1⟩
theorem bound_j2_eq (N : Nat) (d : ((List (List Int)) × ((List Int) × (Int × ((List Int) × (List Int)))))) (i : Int) (a : Int) (b : Int) (n : Int) (g : List Int) : ev (Z := Int × List Int) Try.prog (bound_sp N) bound_B [] [bound_j4_k N, bound_j3_k N] (some bound_rt) 400 true bound_j2_at (stL bound_j2_st ((d, (), i, a, b, n, ()), ((g, ()), ()))) (stH bound_j2_st ((d, (), i, a, b, n, ()), ((g, ()), ()))) = bound_j2 N d i a b n g := by kernel_rfl
theorem bound_j2_lf (N : Nat) {z : Int × List Int} {E : EE} {Xc : Ctx} (hE : EOK bound_B.m0 E) (hX : CxOK true Xc) (hret : RetOK Try.prog bound_B E Xc z (some bound_rt)) : LeafOK Try.prog bound_B.c bound_B.n bound_B.m0 E Xc z (bound_j2_k N) := leaf_of_ev (B := bound_B) (loops := []) (leaves := [bound_j4_k N, bound_j3_k N]) (bound_all N) mixed trivial hE hX ⟨bound_j4_lf N hE hX hret, bound_j3_lf N hE hX hret, trivial⟩ hret (fun p => bound_j2_eq N p.1.1 p.1.2.2.1 p.1.2.2.2.1 p.1.2.2.2.2.1 p.1.2.2.2.2.2.1 p.2.1.1)
abbrev bound_j1_at : List PI := [.c [1, 1, 1, 1, 0, 0], .c [1, 1, 1, 1, 0, 1], .c [1, 1, 1, 1, 1]]
abbrev bound_j1_st : Sta := ⟨[0, 1, 2, 3, 4, 11], ⟨[.fe (.pair (.sl (.sl (.int .i64))) (.pair (.sl (.int .i64)) (.pair (.int .i64) (.pair (.sl (.int .i64)) (.sl (.int .i64)))))), .own 0 0, .i .i64, .i .i64, .i .i64, .i .i64], [.segs [.arr (.int .i64) 539]]⟩⟩
abbrev bound_j1_k (N : Nat) : Leaf (Int × List Int) := ⟨bound_j1_at, bound_j1_st, fun p => bound_j1 N p.1.1 p.1.2.2.1 p.1.2.2.2.1 p.1.2.2.2.2.1 p.1.2.2.2.2.2.1 p.2.1.1⟩
theorem bound_j1_eq (N : Nat) (d : ((List (List Int)) × ((List Int) × (Int × ((List Int) × (List Int)))))) (i : Int) (a : Int) (b : Int) (n : Int) (g : List Int) : ev (Z := Int × List Int) Try.prog (bound_sp N) bound_B [] [bound_j4_k N, bound_j3_k N, bound_j2_k N] (some bound_rt) 400 true bound_j1_at (stL bound_j1_st ((d, (), i, a, b, n, ()), ((g, ()), ()))) (stH bound_j1_st ((d, (), i, a, b, n, ()), ((g, ()), ()))) = bound_j1 N d i a b n g := by kernel_rfl
theorem bound_j1_lf (N : Nat) {z : Int × List Int} {E : EE} {Xc : Ctx} (hE : EOK bound_B.m0 E) (hX : CxOK true Xc) (hret : RetOK Try.prog bound_B E Xc z (some bound_rt)) : LeafOK Try.prog bound_B.c bound_B.n bound_B.m0 E Xc z (bound_j1_k N) := leaf_of_ev (B := bound_B) (loops := []) (leaves := [bound_j4_k N, bound_j3_k N, bound_j2_k N]) (bound_all N) mixed trivial hE hX ⟨bound_j4_lf N hE hX hret, bound_j3_lf N hE hX hret, bound_j2_lf N hE hX hret, trivial⟩ hret (fun p => bound_j1_eq N p.1.1 p.1.2.2.1 p.1.2.2.2.1 p.1.2.2.2.2.1 p.1.2.2.2.2.2.1 p.2.1.1)
abbrev bound_st : Sta := ⟨[0, 1, 2, 3, 4], ⟨[.fe (.pair (.sl (.sl (.int .i64))) (.pair (.sl (.int .i64)) (.pair (.int .i64) (.pair (.sl (.int .i64)) (.sl (.int .i64)))))), .own 0 0, .i .i64, .i .i64, .i .i64], [.segs [.arr (.int .i64) 539]]⟩⟩
theorem bound_eq (N : Nat) (d : ((List (List Int)) × ((List Int) × (Int × ((List Int) × (List Int)))))) (i : Int) (a : Int) (b : Int) (g : List Int) : ev (Z := Int × List Int) Try.prog (bound_sp N) bound_B [] [bound_j4_k N, bound_j3_k N, bound_j2_k N, bound_j1_k N] (some bound_rt) 400 false [.c [0], .c [1]] (stL bound_st ((d, (), i, a, b, ()), ((g, ()), ()))) (stH bound_st ((d, (), i, a, b, ()), ((g, ()), ()))) = bound_S N d i a b g := by kernel_rfl
noncomputable def sp_bound (N : Nat) : Spec := { f := 110, ins := ⟨[.fe (.pair (.sl (.sl (.int .i64))) (.pair (.sl (.int .i64)) (.pair (.int .i64) (.pair (.sl (.int .i64)) (.sl (.int .i64)))))), .own 0 0, .i .i64, .i .i64, .i .i64], [.segs [.arr (.int .i64) 539]]⟩, outs := [⟨[.i .i64], [.segs [.arr (.int .i64) 539]]⟩], run := fun p k => (bound_S N p.1.1 p.1.2.2.1 p.1.2.2.2.1 p.1.2.2.2.2.1 p.2.1.1).bind fun r => k ((r.1, ()), ((r.2, ()), ())) }
theorem sp_bound_ok (N : Nat) : SpecOK Try.prog (sp_bound N) := fn_sound (B := bound_B) (loops := []) (leaves := [bound_j4_k N, bound_j3_k N, bound_j2_k N, bound_j1_k N]) (fun p => bound_S N p.1.1 p.1.2.2.1 p.1.2.2.2.1 p.1.2.2.2.2.1 p.2.1.1) (fun r => ((r.1, ()), ((r.2, ()), ()))) bound_rt (fun _ _ _ => rfl) (fun r z h => by cases h; rfl) Try.func110 (by kernel_rfl) (by kernel_rfl) (by kernel_rfl) rfl rfl (by kernel_rfl) (fun args w => Sem.pv_run _ _ _ (by kernel_rfl) w) (bound_all N) mixed trivial (fun z E Xc hE hX hret => ⟨bound_j4_lf N hE hX hret, bound_j3_lf N hE hX hret, bound_j2_lf N hE hX hret, bound_j1_lf N hE hX hret, trivial⟩) (fun p => bound_eq N p.1.1 p.1.2.2.1 p.1.2.2.2.1 p.1.2.2.2.2.1 p.2.1.1)

def shows11_S (N : Nat) (k : List Int) (u : ((List (List Int)) × ((List Int) × (Int × ((List Int) × (List Int)))))) : Option Bool :=
  chk ((u.2.2.2.2.length : Int) + 1) <|
  some (decide ((k.length : Int) = ((u.2.2.2.2.length : Int) + 1)))
noncomputable def shows11_sp (N : Nat) : List Spec := []
theorem shows11_all (N : Nat) : AllP (SpecOK Try.prog) (shows11_sp N) := trivial
noncomputable def shows11_c : Code := (Try.f106.body).getD .skip
noncomputable abbrev shows11_B : Body := { c := shows11_c, n := 13, res := [.tmp 3], outs := [⟨[.b], []⟩], m0 := 0 }
abbrev shows11_rt : altD shows11_B.outs → Option Bool := fun r => some r.1.1
abbrev shows11_st : Sta := ⟨[0, 1], ⟨[.sl (.int .i64), .fe (.ptr (.pair (.sl (.sl (.int .i64))) (.pair (.sl (.int .i64)) (.pair (.int .i64) (.pair (.sl (.int .i64)) (.sl (.int .i64)))))))], []⟩⟩
theorem shows11_eq (N : Nat) (k : List Int) (u : ((List (List Int)) × ((List Int) × (Int × ((List Int) × (List Int)))))) : ev (Z := Bool) Try.prog (shows11_sp N) shows11_B [] [] (some shows11_rt) 400 false [.c [0], .c [1]] (stL shows11_st ((k, u, ()), ())) (stH shows11_st ((k, u, ()), ())) = shows11_S N k u := by kernel_rfl
noncomputable def sp_shows11 (N : Nat) : Spec := { f := 106, ins := ⟨[.sl (.int .i64), .fe (.ptr (.pair (.sl (.sl (.int .i64))) (.pair (.sl (.int .i64)) (.pair (.int .i64) (.pair (.sl (.int .i64)) (.sl (.int .i64)))))))], []⟩, outs := [⟨[.b], []⟩], run := fun p k => (shows11_S N p.1.1 p.1.2.1).bind fun r => k ((r, ()), ()) }
theorem sp_shows11_ok (N : Nat) : SpecOK Try.prog (sp_shows11 N) := fn_sound (B := shows11_B) (loops := []) (leaves := []) (fun p => shows11_S N p.1.1 p.1.2.1) (fun r => ((r, ()), ())) shows11_rt (fun _ _ _ => rfl) (fun r z h => by cases h; rfl) Try.func106 (by kernel_rfl) (by kernel_rfl) (by kernel_rfl) rfl rfl (by kernel_rfl) (fun args w => Sem.pv_run _ _ _ (by kernel_rfl) w) (shows11_all N) mixed trivial (fun z E Xc hE hX hret => trivial) (fun p => shows11_eq N p.1.1 p.1.2.1)

def every1g_S (N : Nat) (x : List Int) (g : ((List (List Int)) × ((List Int) × (Int × ((List Int) × (List Int)))))) : Option (Bool × ((List (List Int)) × ((List Int) × (Int × ((List Int) × (List Int)))))) :=
  (shows11_S N x g).bind fun x_1 =>
  some ((!x_1), g)
noncomputable def every1g_sp (N : Nat) : List Spec := [sp_shows11 N]
theorem every1g_all (N : Nat) : AllP (SpecOK Try.prog) (every1g_sp N) := ⟨sp_shows11_ok N, trivial⟩
noncomputable def every1g_c : Code := (Try.f126.body).getD .skip
noncomputable abbrev every1g_B : Body := { c := every1g_c, n := 8, res := [.tmp 3], outs := [⟨[.b], [.segs [.fn 106 [] [.fe (.ptr (.pair (.sl (.sl (.int .i64))) (.pair (.sl (.int .i64)) (.pair (.int .i64) (.pair (.sl (.int .i64)) (.sl (.int .i64)))))))]]]⟩], m0 := 1 }
abbrev every1g_rt : altD every1g_B.outs → Option (Bool × ((List (List Int)) × ((List Int) × (Int × ((List Int) × (List Int)))))) := fun r => some (r.1.1, r.2.1.1.2.1)
abbrev every1g_st : Sta := ⟨[0, 1], ⟨[.sl (.int .i64), .own 0 0], [.segs [.fn 106 [] [.fe (.ptr (.pair (.sl (.sl (.int .i64))) (.pair (.sl (.int .i64)) (.pair (.int .i64) (.pair (.sl (.int .i64)) (.sl (.int .i64)))))))]]]⟩⟩
theorem every1g_eq (N : Nat) (x : List Int) (g : ((List (List Int)) × ((List Int) × (Int × ((List Int) × (List Int)))))) : ev (Z := Bool × ((List (List Int)) × ((List Int) × (Int × ((List Int) × (List Int)))))) Try.prog (every1g_sp N) every1g_B [] [] (some every1g_rt) 400 false [.c [0], .c [1]] (stL every1g_st ((x, (), ()), ((((), (g, ())), ()), ()))) (stH every1g_st ((x, (), ()), ((((), (g, ())), ()), ()))) = every1g_S N x g := by kernel_rfl
noncomputable def sp_every1g (N : Nat) : Spec := { f := 126, ins := ⟨[.sl (.int .i64), .own 0 0], [.segs [.fn 106 [] [.fe (.ptr (.pair (.sl (.sl (.int .i64))) (.pair (.sl (.int .i64)) (.pair (.int .i64) (.pair (.sl (.int .i64)) (.sl (.int .i64)))))))]]]⟩, outs := [⟨[.b], [.segs [.fn 106 [] [.fe (.ptr (.pair (.sl (.sl (.int .i64))) (.pair (.sl (.int .i64)) (.pair (.int .i64) (.pair (.sl (.int .i64)) (.sl (.int .i64)))))))]]]⟩], run := fun p k => (every1g_S N p.1.1 p.2.1.1.2.1).bind fun r => k ((r.1, ()), ((((), (r.2, ())), ()), ())) }
theorem sp_every1g_ok (N : Nat) : SpecOK Try.prog (sp_every1g N) := fn_sound (B := every1g_B) (loops := []) (leaves := []) (fun p => every1g_S N p.1.1 p.2.1.1.2.1) (fun r => ((r.1, ()), ((((), (r.2, ())), ()), ()))) every1g_rt (fun _ _ _ => rfl) (fun r z h => by cases h; rfl) Try.func126 (by kernel_rfl) (by kernel_rfl) (by kernel_rfl) rfl rfl (by kernel_rfl) (fun args w => Sem.pv_run _ _ _ (by kernel_rfl) w) (every1g_all N) mixed trivial (fun z E Xc hE hX hret => trivial) (fun p => every1g_eq N p.1.1 p.2.1.1.2.1)

def ixfg_l1 (N : Nat) : Nat → (List (List Int)) → Int → Int → (((List (List Int)) × ((List Int) × (Int × ((List Int) × (List Int)))))) → Option ((Int × ((List (List Int)) × ((List Int) × (Int × ((List Int) × (List Int)))))) ⊕ (((List (List Int)) × ((List Int) × (Int × ((List Int) × (List Int)))))))
  | 0, _, _, _, _ => none
  | n_ + 1, s, u, u2, f =>
    br (decide (u2 < u))
      (idx s u2 fun x_1 =>
      (every1g_S N x_1 f).bind fun (x_2, y_3) =>
      br x_2
        (some (.inl (u2, y_3)))
        (chk (u2 + 1) <|
        ixfg_l1 N n_ s u (u2 + 1) y_3))
      (some (.inr f))
def ixfg_S (N : Nat) (s : List (List Int)) (f : ((List (List Int)) × ((List Int) × (Int × ((List Int) × (List Int)))))) : Option (Int × ((List (List Int)) × ((List Int) × (Int × ((List Int) × (List Int)))))) :=
  (ixfg_l1 N N s (s.length : Int) 0 f).bind fun e => match e with
  | .inl (i_4, g_5) =>
    some (i_4, g_5)
  | .inr g_6 =>
    some (-1, g_6)
noncomputable def ixfg_sp (N : Nat) : List Spec := [sp_every1g N]
theorem ixfg_all (N : Nat) : AllP (SpecOK Try.prog) (ixfg_sp N) := ⟨sp_every1g_ok N, trivial⟩
noncomputable def ixfg_c : Code := (Try.f132.body).getD .skip
noncomputable abbrev ixfg_B : Body := { c := ixfg_c, n := 19, res := [.tmp 4], outs := [⟨[.i .i64], [.segs [.fn 106 [] [.fe (.ptr (.pair (.sl (.sl (.int .i64))) (.pair (.sl (.int .i64)) (.pair (.int .i64) (.pair (.sl (.int .i64)) (.sl (.int .i64)))))))]]]⟩], m0 := 1 }
abbrev ixfg_rt : altD ixfg_B.outs → Option (Int × ((List (List Int)) × ((List Int) × (Int × ((List Int) × (List Int)))))) := fun r => some (r.1.1, r.2.1.1.2.1)
abbrev ixfg_l1_at : List PI := [.c [1, 0, 1, 0, 0, 0], .c [1, 0, 1, 0, 0, 1], .l [1, 0, 1, 0, 0], .b 0, .c [1, 1]]
abbrev ixfg_l1_st : Sta := ⟨[0, 1, 7, 8], ⟨[.sl (.sl (.int .i64)), .fn 126 [] [.own 0 0], .i .i64, .i .i64], [.segs [.fn 106 [] [.fe (.ptr (.pair (.sl (.sl (.int .i64))) (.pair (.sl (.int .i64)) (.pair (.int .i64) (.pair (.sl (.int .i64)) (.sl (.int .i64)))))))]]]⟩⟩
abbrev ixfg_l1_h (rec : (List (List Int)) → Int → Int → (((List (List Int)) × ((List Int) × (Int × ((List Int) × (List Int)))))) → Option ((Int × ((List (List Int)) × ((List Int) × (Int × ((List Int) × (List Int)))))) ⊕ (((List (List Int)) × ((List Int) × (Int × ((List Int) × (List Int)))))))) : Leaf ((Int × ((List (List Int)) × ((List Int) × (Int × ((List Int) × (List Int)))))) ⊕ (((List (List Int)) × ((List Int) × (Int × ((List Int) × (List Int))))))) := ⟨ixfg_l1_at, ixfg_l1_st, fun p => rec p.1.1 p.1.2.2.1 p.1.2.2.2.1 p.2.1.1.2.1⟩
abbrev ixfg_l1_e0 : Leaf ((Int × ((List (List Int)) × ((List Int) × (Int × ((List Int) × (List Int)))))) ⊕ (((List (List Int)) × ((List Int) × (Int × ((List Int) × (List Int))))))) := ⟨[.c [1, 0, 1, 0, 0, 1, 1, 0, 0, 1, 1, 0, 0], .c [1, 0, 1, 0, 0, 1, 1, 0, 0, 1, 1, 0, 1], .b 1, .c [1, 0, 1, 0, 0, 1, 1, 1], .l [1, 0, 1, 0, 0], .b 0, .c [1, 1]], ⟨[5], ⟨[.i .i64], [.segs [.fn 106 [] [.fe (.ptr (.pair (.sl (.sl (.int .i64))) (.pair (.sl (.int .i64)) (.pair (.int .i64) (.pair (.sl (.int .i64)) (.sl (.int .i64)))))))]]]⟩⟩, fun p => some (.inl (p.1.1, p.2.1.1.2.1))⟩
abbrev ixfg_l1_e1 : Leaf ((Int × ((List (List Int)) × ((List Int) × (Int × ((List Int) × (List Int)))))) ⊕ (((List (List Int)) × ((List Int) × (Int × ((List Int) × (List Int))))))) := ⟨[.c [1, 1, 0], .c [1, 1, 1]], ⟨[], ⟨[], [.segs [.fn 106 [] [.fe (.ptr (.pair (.sl (.sl (.int .i64))) (.pair (.sl (.int .i64)) (.pair (.int .i64) (.pair (.sl (.int .i64)) (.sl (.int .i64)))))))]]]⟩⟩, fun p => some (.inr p.2.1.1.2.1)⟩
noncomputable def ixfg_l1_L (N : Nat) : LoopS := { at_ := ixfg_l1_at, sta := ixfg_l1_st, exits := [([.c [1, 0, 1, 0, 0, 1, 1, 0, 0, 1, 1, 0, 0], .c [1, 0, 1, 0, 0, 1, 1, 0, 0, 1, 1, 0, 1], .b 1, .c [1, 0, 1, 0, 0, 1, 1, 1], .l [1, 0, 1, 0, 0], .b 0, .c [1, 1]], ⟨[5], ⟨[.i .i64], [.segs [.fn 106 [] [.fe (.ptr (.pair (.sl (.sl (.int .i64))) (.pair (.sl (.int .i64)) (.pair (.int .i64) (.pair (.sl (.int .i64)) (.sl (.int .i64)))))))]]]⟩⟩), ([.c [1, 1, 0], .c [1, 1, 1]], ⟨[], ⟨[], [.segs [.fn 106 [] [.fe (.ptr (.pair (.sl (.sl (.int .i64))) (.pair (.sl (.int .i64)) (.pair (.int .i64) (.pair (.sl (.int .i64)) (.sl (.int .i64)))))))]]]⟩⟩)], run := fun p k => (ixfg_l1 N N p.1.1 p.1.2.2.1 p.1.2.2.2.1 p.2.1.1.2.1).bind fun e => match e with | .inl x => k (.inl ((x.1, ()), ((((), (x.2, ())), ()), ()))) | .inr x => k (.inr (.inl ((), ((((), (x, ())), ()), ())))) }
theorem ixfg_l1_eq (N n_ : Nat) (s : List (List Int)) (u : Int) (u2 : Int) (f : ((List (List Int)) × ((List Int) × (Int × ((List Int) × (List Int)))))) : ev (Z := (Int × ((List (List Int)) × ((List Int) × (Int × ((List Int) × (List Int)))))) ⊕ (((List (List Int)) × ((List Int) × (Int × ((List Int) × (List Int))))))) Try.prog (ixfg_sp N) ixfg_B [] [ixfg_l1_h (ixfg_l1 N n_), ixfg_l1_e0, ixfg_l1_e1] none 400 true ixfg_l1_at (stL ixfg_l1_st ((s, ((), ((), ())), u, u2, ()), ((((), (f, ())), ()), ()))) (stH ixfg_l1_st ((s, ((), ((), ())), u, u2, ()), ((((), (f, ())), ()), ()))) = ixfg_l1 N (n_ + 1) s u u2 f := by kernel_rfl
theorem ixfg_l1_ok (N : Nat) {top : Bool} : LoopOK Try.prog ixfg_B.c ixfg_B.n ixfg_B.m0 top (ixfg_l1_L N) := loop_of_ev (Z := (Int × ((List (List Int)) × ((List Int) × (Int × ((List Int) × (List Int)))))) ⊕ (((List (List Int)) × ((List Int) × (Int × ((List Int) × (List Int))))))) (N := N) (fun m p => ixfg_l1 N m p.1.1 p.1.2.2.1 p.1.2.2.2.1 p.2.1.1.2.1) (fun e => match e with | .inl x => .inl ((x.1, ()), ((((), (x.2, ())), ()), ())) | .inr x => .inr (.inl ((), ((((), (x, ())), ()), ())))) (fun _ p k => bind_congr_ (ixfg_l1 N N p.1.1 p.1.2.2.1 p.1.2.2.2.1 p.2.1.1.2.1) _ _ (fun e => by rcases e with x | x <;> rfl)) (fun _ => rfl) (fun m z E Xc hE hX hrec hx => leaf_of_ev (B := ixfg_B) (loops := []) (leaves := [ixfg_l1_h (ixfg_l1 N m), ixfg_l1_e0, ixfg_l1_e1]) (ixfg_all N) mixed trivial hE hX ⟨hrec, (fun p hp => by obtain rfl := Option.some.inj hp; exact hx), (fun p hp => by obtain rfl := Option.some.inj hp; exact hx), trivial⟩ RetOK.no (fun p => ixfg_l1_eq N m p.1.1 p.1.2.2.1 p.1.2.2.2.1 p.2.1.1.2.1))
abbrev ixfg_st : Sta := ⟨[0, 1], ⟨[.sl (.sl (.int .i64)), .fn 126 [] [.own 0 0]], [.segs [.fn 106 [] [.fe (.ptr (.pair (.sl (.sl (.int .i64))) (.pair (.sl (.int .i64)) (.pair (.int .i64) (.pair (.sl (.int .i64)) (.sl (.int .i64)))))))]]]⟩⟩
theorem ixfg_eq (N : Nat) (s : List (List Int)) (f : ((List (List Int)) × ((List Int) × (Int × ((List Int) × (List Int)))))) : ev (Z := Int × ((List (List Int)) × ((List Int) × (Int × ((List Int) × (List Int)))))) Try.prog (ixfg_sp N) ixfg_B [ixfg_l1_L N] [] (some ixfg_rt) 400 false [.c [0], .c [1]] (stL ixfg_st ((s, ((), ((), ())), ()), ((((), (f, ())), ()), ()))) (stH ixfg_st ((s, ((), ((), ())), ()), ((((), (f, ())), ()), ()))) = ixfg_S N s f := by kernel_rfl
noncomputable def sp_ixfg (N : Nat) : Spec := { f := 132, ins := ⟨[.sl (.sl (.int .i64)), .fn 126 [] [.own 0 0]], [.segs [.fn 106 [] [.fe (.ptr (.pair (.sl (.sl (.int .i64))) (.pair (.sl (.int .i64)) (.pair (.int .i64) (.pair (.sl (.int .i64)) (.sl (.int .i64)))))))]]]⟩, outs := [⟨[.i .i64], [.segs [.fn 106 [] [.fe (.ptr (.pair (.sl (.sl (.int .i64))) (.pair (.sl (.int .i64)) (.pair (.int .i64) (.pair (.sl (.int .i64)) (.sl (.int .i64)))))))]]]⟩], run := fun p k => (ixfg_S N p.1.1 p.2.1.1.2.1).bind fun r => k ((r.1, ()), ((((), (r.2, ())), ()), ())) }
theorem sp_ixfg_ok (N : Nat) : SpecOK Try.prog (sp_ixfg N) := fn_sound (B := ixfg_B) (loops := [ixfg_l1_L N]) (leaves := []) (fun p => ixfg_S N p.1.1 p.2.1.1.2.1) (fun r => ((r.1, ()), ((((), (r.2, ())), ()), ()))) ixfg_rt (fun _ _ _ => rfl) (fun r z h => by cases h; rfl) Try.func132 (by kernel_rfl) (by kernel_rfl) (by kernel_rfl) rfl rfl (by kernel_rfl) (fun args w => Sem.pv_run _ _ _ (by kernel_rfl) w) (ixfg_all N) mixed ⟨ixfg_l1_ok N, trivial⟩ (fun z E Xc hE hX hret => trivial) (fun p => ixfg_eq N p.1.1 p.2.1.1.2.1)

def cofg_S (N : Nat) (s : List (List Int)) (f : ((List (List Int)) × ((List Int) × (Int × ((List Int) × (List Int)))))) : Option (Bool × ((List (List Int)) × ((List Int) × (Int × ((List Int) × (List Int)))))) :=
  (ixfg_S N s f).bind fun (x_1, y_2) =>
  some ((decide (0 ≤ x_1)), y_2)
noncomputable def cofg_sp (N : Nat) : List Spec := [sp_ixfg N]
theorem cofg_all (N : Nat) : AllP (SpecOK Try.prog) (cofg_sp N) := ⟨sp_ixfg_ok N, trivial⟩
noncomputable def cofg_c : Code := (Try.f115.body).getD .skip
noncomputable abbrev cofg_B : Body := { c := cofg_c, n := 9, res := [.tmp 4], outs := [⟨[.b], [.segs [.fn 106 [] [.fe (.ptr (.pair (.sl (.sl (.int .i64))) (.pair (.sl (.int .i64)) (.pair (.int .i64) (.pair (.sl (.int .i64)) (.sl (.int .i64)))))))]]]⟩], m0 := 1 }
abbrev cofg_rt : altD cofg_B.outs → Option (Bool × ((List (List Int)) × ((List Int) × (Int × ((List Int) × (List Int)))))) := fun r => some (r.1.1, r.2.1.1.2.1)
abbrev cofg_st : Sta := ⟨[0, 1], ⟨[.sl (.sl (.int .i64)), .fn 126 [] [.own 0 0]], [.segs [.fn 106 [] [.fe (.ptr (.pair (.sl (.sl (.int .i64))) (.pair (.sl (.int .i64)) (.pair (.int .i64) (.pair (.sl (.int .i64)) (.sl (.int .i64)))))))]]]⟩⟩
theorem cofg_eq (N : Nat) (s : List (List Int)) (f : ((List (List Int)) × ((List Int) × (Int × ((List Int) × (List Int)))))) : ev (Z := Bool × ((List (List Int)) × ((List Int) × (Int × ((List Int) × (List Int)))))) Try.prog (cofg_sp N) cofg_B [] [] (some cofg_rt) 400 false [.c [0], .c [1]] (stL cofg_st ((s, ((), ((), ())), ()), ((((), (f, ())), ()), ()))) (stH cofg_st ((s, ((), ((), ())), ()), ((((), (f, ())), ()), ()))) = cofg_S N s f := by kernel_rfl
noncomputable def sp_cofg (N : Nat) : Spec := { f := 115, ins := ⟨[.sl (.sl (.int .i64)), .fn 126 [] [.own 0 0]], [.segs [.fn 106 [] [.fe (.ptr (.pair (.sl (.sl (.int .i64))) (.pair (.sl (.int .i64)) (.pair (.int .i64) (.pair (.sl (.int .i64)) (.sl (.int .i64)))))))]]]⟩, outs := [⟨[.b], [.segs [.fn 106 [] [.fe (.ptr (.pair (.sl (.sl (.int .i64))) (.pair (.sl (.int .i64)) (.pair (.int .i64) (.pair (.sl (.int .i64)) (.sl (.int .i64)))))))]]]⟩], run := fun p k => (cofg_S N p.1.1 p.2.1.1.2.1).bind fun r => k ((r.1, ()), ((((), (r.2, ())), ()), ())) }
theorem sp_cofg_ok (N : Nat) : SpecOK Try.prog (sp_cofg N) := fn_sound (B := cofg_B) (loops := []) (leaves := []) (fun p => cofg_S N p.1.1 p.2.1.1.2.1) (fun r => ((r.1, ()), ((((), (r.2, ())), ()), ()))) cofg_rt (fun _ _ _ => rfl) (fun r z h => by cases h; rfl) Try.func115 (by kernel_rfl) (by kernel_rfl) (by kernel_rfl) rfl rfl (by kernel_rfl) (fun args w => Sem.pv_run _ _ _ (by kernel_rfl) w) (cofg_all N) mixed trivial (fun z E Xc hE hX hret => trivial) (fun p => cofg_eq N p.1.1 p.2.1.1.2.1)

def everyg_S (N : Nat) (l : List (List Int)) (holds : ((List (List Int)) × ((List Int) × (Int × ((List Int) × (List Int)))))) : Option Bool :=
  (cofg_S N l holds).bind fun (x_1, y_2) =>
  some (!x_1)
noncomputable def everyg_sp (N : Nat) : List Spec := [sp_cofg N]
theorem everyg_all (N : Nat) : AllP (SpecOK Try.prog) (everyg_sp N) := ⟨sp_cofg_ok N, trivial⟩
noncomputable def everyg_c : Code := (Try.f94.body).getD .skip
noncomputable abbrev everyg_B : Body := { c := everyg_c, n := 9, res := [.tmp 4], outs := [⟨[.b], []⟩], m0 := 0 }
abbrev everyg_rt : altD everyg_B.outs → Option Bool := fun r => some r.1.1
abbrev everyg_st : Sta := ⟨[0, 1], ⟨[.sl (.sl (.int .i64)), .fn 106 [] [.fe (.ptr (.pair (.sl (.sl (.int .i64))) (.pair (.sl (.int .i64)) (.pair (.int .i64) (.pair (.sl (.int .i64)) (.sl (.int .i64)))))))]], []⟩⟩
theorem everyg_eq (N : Nat) (l : List (List Int)) (holds : ((List (List Int)) × ((List Int) × (Int × ((List Int) × (List Int)))))) : ev (Z := Bool) Try.prog (everyg_sp N) everyg_B [] [] (some everyg_rt) 400 false [.c [0], .c [1]] (stL everyg_st ((l, ((), (holds, ())), ()), ())) (stH everyg_st ((l, ((), (holds, ())), ()), ())) = everyg_S N l holds := by kernel_rfl
noncomputable def sp_everyg (N : Nat) : Spec := { f := 94, ins := ⟨[.sl (.sl (.int .i64)), .fn 106 [] [.fe (.ptr (.pair (.sl (.sl (.int .i64))) (.pair (.sl (.int .i64)) (.pair (.int .i64) (.pair (.sl (.int .i64)) (.sl (.int .i64)))))))]], []⟩, outs := [⟨[.b], []⟩], run := fun p k => (everyg_S N p.1.1 p.1.2.1.2.1).bind fun r => k ((r, ()), ()) }
theorem sp_everyg_ok (N : Nat) : SpecOK Try.prog (sp_everyg N) := fn_sound (B := everyg_B) (loops := []) (leaves := []) (fun p => everyg_S N p.1.1 p.1.2.1.2.1) (fun r => ((r, ()), ())) everyg_rt (fun _ _ _ => rfl) (fun r z h => by cases h; rfl) Try.func94 (by kernel_rfl) (by kernel_rfl) (by kernel_rfl) rfl rfl (by kernel_rfl) (fun args w => Sem.pv_run _ _ _ (by kernel_rfl) w) (everyg_all N) mixed trivial (fun z E Xc hE hX hret => trivial) (fun p => everyg_eq N p.1.1 p.1.2.1.2.1)

def shows1_S (N : Nat) (l : List (List Int)) (u : ((List (List Int)) × ((List Int) × (Int × ((List Int) × (List Int)))))) : Option Bool :=
  chk ((u.2.2.2.1.length : Int) + 1) <|
  br (decide ((l.length : Int) = ((u.2.2.2.1.length : Int) + 1)))
    ((everyg_S N l u).bind fun x_1 =>
    some x_1)
    (some false)
noncomputable def shows1_sp (N : Nat) : List Spec := [sp_everyg N]
theorem shows1_all (N : Nat) : AllP (SpecOK Try.prog) (shows1_sp N) := ⟨sp_everyg_ok N, trivial⟩
noncomputable def shows1_c : Code := (Try.f105.body).getD .skip
noncomputable abbrev shows1_B : Body := { c := shows1_c, n := 18, res := [.tmp 3], outs := [⟨[.b], []⟩], m0 := 0 }
abbrev shows1_rt : altD shows1_B.outs → Option Bool := fun r => some r.1.1
abbrev shows1_st : Sta := ⟨[0, 1], ⟨[.sl (.sl (.int .i64)), .fe (.ptr (.pair (.sl (.sl (.int .i64))) (.pair (.sl (.int .i64)) (.pair (.int .i64) (.pair (.sl (.int .i64)) (.sl (.int .i64)))))))], []⟩⟩
theorem shows1_eq (N : Nat) (l : List (List Int)) (u : ((List (List Int)) × ((List Int) × (Int × ((List Int) × (List Int)))))) : ev (Z := Bool) Try.prog (shows1_sp N) shows1_B [] [] (some shows1_rt) 400 false [.c [0], .c [1]] (stL shows1_st ((l, u, ()), ())) (stH shows1_st ((l, u, ()), ())) = shows1_S N l u := by kernel_rfl
noncomputable def sp_shows1 (N : Nat) : Spec := { f := 105, ins := ⟨[.sl (.sl (.int .i64)), .fe (.ptr (.pair (.sl (.sl (.int .i64))) (.pair (.sl (.int .i64)) (.pair (.int .i64) (.pair (.sl (.int .i64)) (.sl (.int .i64)))))))], []⟩, outs := [⟨[.b], []⟩], run := fun p k => (shows1_S N p.1.1 p.1.2.1).bind fun r => k ((r, ()), ()) }
theorem sp_shows1_ok (N : Nat) : SpecOK Try.prog (sp_shows1 N) := fn_sound (B := shows1_B) (loops := []) (leaves := []) (fun p => shows1_S N p.1.1 p.1.2.1) (fun r => ((r, ()), ())) shows1_rt (fun _ _ _ => rfl) (fun r z h => by cases h; rfl) Try.func105 (by kernel_rfl) (by kernel_rfl) (by kernel_rfl) rfl rfl (by kernel_rfl) (fun args w => Sem.pv_run _ _ _ (by kernel_rfl) w) (shows1_all N) mixed trivial (fun z E Xc hE hX hret => trivial) (fun p => shows1_eq N p.1.1 p.1.2.1)

def every1h_S (N : Nat) (x : List (List Int)) (g : ((List (List Int)) × ((List Int) × (Int × ((List Int) × (List Int)))))) : Option (Bool × ((List (List Int)) × ((List Int) × (Int × ((List Int) × (List Int)))))) :=
  (shows1_S N x g).bind fun x_1 =>
  some ((!x_1), g)
noncomputable def every1h_sp (N : Nat) : List Spec := [sp_shows1 N]
theorem every1h_all (N : Nat) : AllP (SpecOK Try.prog) (every1h_sp N) := ⟨sp_shows1_ok N, trivial⟩
noncomputable def every1h_c : Code := (Try.f130.body).getD .skip
noncomputable abbrev every1h_B : Body := { c := every1h_c, n := 8, res := [.tmp 3], outs := [⟨[.b], [.segs [.fn 105 [] [.fe (.ptr (.pair (.sl (.sl (.int .i64))) (.pair (.sl (.int .i64)) (.pair (.int .i64) (.pair (.sl (.int .i64)) (.sl (.int .i64)))))))]]]⟩], m0 := 1 }
abbrev every1h_rt : altD every1h_B.outs → Option (Bool × ((List (List Int)) × ((List Int) × (Int × ((List Int) × (List Int)))))) := fun r => some (r.1.1, r.2.1.1.2.1)
abbrev every1h_st : Sta := ⟨[0, 1], ⟨[.sl (.sl (.int .i64)), .own 0 0], [.segs [.fn 105 [] [.fe (.ptr (.pair (.sl (.sl (.int .i64))) (.pair (.sl (.int .i64)) (.pair (.int .i64) (.pair (.sl (.int .i64)) (.sl (.int .i64)))))))]]]⟩⟩
theorem every1h_eq (N : Nat) (x : List (List Int)) (g : ((List (List Int)) × ((List Int) × (Int × ((List Int) × (List Int)))))) : ev (Z := Bool × ((List (List Int)) × ((List Int) × (Int × ((List Int) × (List Int)))))) Try.prog (every1h_sp N) every1h_B [] [] (some every1h_rt) 400 false [.c [0], .c [1]] (stL every1h_st ((x, (), ()), ((((), (g, ())), ()), ()))) (stH every1h_st ((x, (), ()), ((((), (g, ())), ()), ()))) = every1h_S N x g := by kernel_rfl
noncomputable def sp_every1h (N : Nat) : Spec := { f := 130, ins := ⟨[.sl (.sl (.int .i64)), .own 0 0], [.segs [.fn 105 [] [.fe (.ptr (.pair (.sl (.sl (.int .i64))) (.pair (.sl (.int .i64)) (.pair (.int .i64) (.pair (.sl (.int .i64)) (.sl (.int .i64)))))))]]]⟩, outs := [⟨[.b], [.segs [.fn 105 [] [.fe (.ptr (.pair (.sl (.sl (.int .i64))) (.pair (.sl (.int .i64)) (.pair (.int .i64) (.pair (.sl (.int .i64)) (.sl (.int .i64)))))))]]]⟩], run := fun p k => (every1h_S N p.1.1 p.2.1.1.2.1).bind fun r => k ((r.1, ()), ((((), (r.2, ())), ()), ())) }
theorem sp_every1h_ok (N : Nat) : SpecOK Try.prog (sp_every1h N) := fn_sound (B := every1h_B) (loops := []) (leaves := []) (fun p => every1h_S N p.1.1 p.2.1.1.2.1) (fun r => ((r.1, ()), ((((), (r.2, ())), ()), ()))) every1h_rt (fun _ _ _ => rfl) (fun r z h => by cases h; rfl) Try.func130 (by kernel_rfl) (by kernel_rfl) (by kernel_rfl) rfl rfl (by kernel_rfl) (fun args w => Sem.pv_run _ _ _ (by kernel_rfl) w) (every1h_all N) mixed trivial (fun z E Xc hE hX hret => trivial) (fun p => every1h_eq N p.1.1 p.2.1.1.2.1)

def ixfh_l1 (N : Nat) : Nat → (List (List (List Int))) → Int → Int → (((List (List Int)) × ((List Int) × (Int × ((List Int) × (List Int)))))) → Option ((Int × ((List (List Int)) × ((List Int) × (Int × ((List Int) × (List Int)))))) ⊕ (((List (List Int)) × ((List Int) × (Int × ((List Int) × (List Int)))))))
  | 0, _, _, _, _ => none
  | n_ + 1, s, u, u2, f =>
    br (decide (u2 < u))
      (idx s u2 fun x_1 =>
      (every1h_S N x_1 f).bind fun (x_2, y_3) =>
      br x_2
        (some (.inl (u2, y_3)))
        (chk (u2 + 1) <|
        ixfh_l1 N n_ s u (u2 + 1) y_3))
      (some (.inr f))
def ixfh_S (N : Nat) (s : List (List (List Int))) (f : ((List (List Int)) × ((List Int) × (Int × ((List Int) × (List Int)))))) : Option (Int × ((List (List Int)) × ((List Int) × (Int × ((List Int) × (List Int)))))) :=
  (ixfh_l1 N N s (s.length : Int) 0 f).bind fun e => match e with
  | .inl (i_4, g_5) =>
    some (i_4, g_5)
  | .inr g_6 =>
    some (-1, g_6)
noncomputable def ixfh_sp (N : Nat) : List Spec := [sp_every1h N]
theorem ixfh_all (N : Nat) : AllP (SpecOK Try.prog) (ixfh_sp N) := ⟨sp_every1h_ok N, trivial⟩
noncomputable def ixfh_c : Code := (Try.f135.body).getD .skip
noncomputable abbrev ixfh_B : Body := { c := ixfh_c, n := 19, res := [.tmp 4], outs := [⟨[.i .i64], [.segs [.fn 105 [] [.fe (.ptr (.pair (.sl (.sl (.int .i64))) (.pair (.sl (.int .i64)) (.pair (.int .i64) (.pair (.sl (.int .i64)) (.sl (.int .i64)))))))]]]⟩], m0 := 1 }
abbrev ixfh_rt : altD ixfh_B.outs → Option (Int × ((List (List Int)) × ((List Int) × (Int × ((List Int) × (List Int)))))) := fun r => some (r.1.1, r.2.1.1.2.1)
abbrev ixfh_l1_at : List PI := [.c [1, 0, 1, 0, 0, 0], .c [1, 0, 1, 0, 0, 1], .l [1, 0, 1, 0, 0], .b 0, .c [1, 1]]
abbrev ixfh_l1_st : Sta := ⟨[0, 1, 7, 8], ⟨[.sl (.sl (.sl (.int .i64))), .fn 130 [] [.own 0 0], .i .i64, .i .i64], [.segs [.fn 105 [] [.fe (.ptr (.pair (.sl (.sl (.int .i64))) (.pair (.sl (.int .i64)) (.pair (.int .i64) (.pair (.sl (.int .i64)) (.sl (.int .i64)))))))]]]⟩⟩
abbrev ixfh_l1_h (rec : (List (List (List Int))) → Int → Int → (((List (List Int)) × ((List Int) × (Int × ((List Int) × (List Int)))))) → Option ((Int × ((List (List Int)) × ((List Int) × (Int × ((List Int) × (List Int)))))) ⊕ (((List (List Int)) × ((List Int) × (Int × ((List Int) × (List Int)))))))) : Leaf ((Int × ((List (List Int)) × ((List Int) × (Int × ((List Int) × (List Int)))))) ⊕ (((List (List Int)) × ((List Int) × (Int × ((List Int) × (List Int))))))) := ⟨ixfh_l1_at, ixfh_l1_st, fun p => rec p.1.1 p.1.2.2.1 p.1.2.2.2.1 p.2.1.1.2.1⟩
abbrev ixfh_l1_e0 : Leaf ((Int × ((List (List Int)) × ((List Int) × (Int × ((List Int) × (List Int)))))) ⊕ (((List (List Int)) × ((List Int) × (Int × ((List Int) × (List Int))))))) := ⟨[.c [1, 0, 1, 0, 0, 1, 1, 0, 0, 1, 1, 0, 0], .c [1, 0, 1, 0, 0, 1, 1, 0, 0, 1, 1, 0, 1], .b 1, .c [1, 0, 1, 0, 0, 1, 1, 1], .l [1, 0, 1, 0, 0], .b 0, .c [1, 1]], ⟨[5], ⟨[.i .i64], [.segs [.fn 105 [] [.fe (.ptr (.pair (.sl (.sl (.int .i64))) (.pair (.sl (.int .i64)) (.pair (.int .i64) (.pair (.sl (.int .i64)) (.sl (.int .i64)))))))]]]⟩⟩, fun p => some (.inl (p.1.1, p.2.1.1.2.1))⟩
abbrev ixfh_l1_e1 : Leaf ((Int × ((List (List Int)) × ((List Int) × (Int × ((List Int) × (List Int)))))) ⊕ (((List (List Int)) × ((List Int) × (Int × ((List Int) × (List Int))))))) := ⟨[.c [1, 1, 0], .c [1, 1, 1]], ⟨[], ⟨[], [.segs [.fn 105 [] [.fe (.ptr (.pair (.sl (.sl (.int .i64))) (.pair (.sl (.int .i64)) (.pair (.int .i64) (.pair (.sl (.int .i64)) (.sl (.int .i64)))))))]]]⟩⟩, fun p => some (.inr p.2.1.1.2.1)⟩
noncomputable def ixfh_l1_L (N : Nat) : LoopS := { at_ := ixfh_l1_at, sta := ixfh_l1_st, exits := [([.c [1, 0, 1, 0, 0, 1, 1, 0, 0, 1, 1, 0, 0], .c [1, 0, 1, 0, 0, 1, 1, 0, 0, 1, 1, 0, 1], .b 1, .c [1, 0, 1, 0, 0, 1, 1, 1], .l [1, 0, 1, 0, 0], .b 0, .c [1, 1]], ⟨[5], ⟨[.i .i64], [.segs [.fn 105 [] [.fe (.ptr (.pair (.sl (.sl (.int .i64))) (.pair (.sl (.int .i64)) (.pair (.int .i64) (.pair (.sl (.int .i64)) (.sl (.int .i64)))))))]]]⟩⟩), ([.c [1, 1, 0], .c [1, 1, 1]], ⟨[], ⟨[], [.segs [.fn 105 [] [.fe (.ptr (.pair (.sl (.sl (.int .i64))) (.pair (.sl (.int .i64)) (.pair (.int .i64) (.pair (.sl (.int .i64)) (.sl (.int .i64)))))))]]]⟩⟩)], run := fun p k => (ixfh_l1 N N p.1.1 p.1.2.2.1 p.1.2.2.2.1 p.2.1.1.2.1).bind fun e => match e with | .inl x => k (.inl ((x.1, ()), ((((), (x.2, ())), ()), ()))) | .inr x => k (.inr (.inl ((), ((((), (x, ())), ()), ())))) }
theorem ixfh_l1_eq (N n_ : Nat) (s : List (List (List Int))) (u : Int) (u2 : Int) (f : ((List (List Int)) × ((List Int) × (Int × ((List Int) × (List Int)))))) : ev (Z := (Int × ((List (List Int)) × ((List Int) × (Int × ((List Int) × (List Int)))))) ⊕ (((List (List Int)) × ((List Int) × (Int × ((List Int) × (List Int))))))) Try.prog (ixfh_sp N) ixfh_B [] [ixfh_l1_h (ixfh_l1 N n_), ixfh_l1_e0, ixfh_l1_e1] none 400 true ixfh_l1_at (stL ixfh_l1_st ((s, ((), ((), ())), u, u2, ()), ((((), (f, ())), ()), ()))) (stH ixfh_l1_st ((s, ((), ((), ())), u, u2, ()), ((((), (f, ())), ()), ()))) = ixfh_l1 N (n_ + 1) s u u2 f := by kernel_rfl
theorem ixfh_l1_ok (N : Nat) {top : Bool} : LoopOK Try.prog ixfh_B.c ixfh_B.n ixfh_B.m0 top (ixfh_l1_L N) := loop_of_ev (Z := (Int × ((List (List Int)) × ((List Int) × (Int × ((List Int) × (List Int)))))) ⊕ (((List (List Int)) × ((List Int) × (Int × ((List Int) × (List Int))))))) (N := N) (fun m p => ixfh_l1 N m p.1.1 p.1.2.2.1 p.1.2.2.2.1 p.2.1.1.2.1) (fun e => match e with | .inl x => .inl ((x.1, ()), ((((), (x.2, ())), ()), ())) | .inr x => .inr (.inl ((), ((((), (x, ())), ()), ())))) (fun _ p k => bind_congr_ (ixfh_l1 N N p.1.1 p.1.2.2.1 p.1.2.2.2.1 p.2.1.1.2.1) _ _ (fun e => by rcases e with x | x <;> rfl)) (fun _ => rfl) (fun m z E Xc hE hX hrec hx => leaf_of_ev (B := ixfh_B) (loops := []) (leaves := [ixfh_l1_h (ixfh_l1 N m), ixfh_l1_e0, ixfh_l1_e1]) (ixfh_all N) mixed trivial hE hX ⟨hrec, (fun p hp => by obtain rfl := Option.some.inj hp; exact hx), (fun p hp => by obtain rfl := Option.some.inj hp; exact hx), trivial⟩ RetOK.no (fun p => ixfh_l1_eq N m p.1.1 p.1.2.2.1 p.1.2.2.2.1 p.2.1.1.2.1))
abbrev ixfh_st : Sta := ⟨[0, 1], ⟨[.sl (.sl (.sl (.int .i64))), .fn 130 [] [.own 0 0]], [.segs [.fn 105 [] [.fe (.ptr (.pair (.sl (.sl (.int .i64))) (.pair (.sl (.int .i64)) (.pair (.int .i64) (.pair (.sl (.int .i64)) (.sl (.int .i64)))))))]]]⟩⟩
theorem ixfh_eq (N : Nat) (s : List (List (List Int))) (f : ((List (List Int)) × ((List Int) × (Int × ((List Int) × (List Int)))))) : ev (Z := Int × ((List (List Int)) × ((List Int) × (Int × ((List Int) × (List Int)))))) Try.prog (ixfh_sp N) ixfh_B [ixfh_l1_L N] [] (some ixfh_rt) 400 false [.c [0], .c [1]] (stL ixfh_st ((s, ((), ((), ())), ()), ((((), (f, ())), ()), ()))) (stH ixfh_st ((s, ((), ((), ())), ()), ((((), (f, ())), ()), ()))) = ixfh_S N s f := by kernel_rfl
noncomputable def sp_ixfh (N : Nat) : Spec := { f := 135, ins := ⟨[.sl (.sl (.sl (.int .i64))), .fn 130 [] [.own 0 0]], [.segs [.fn 105 [] [.fe (.ptr (.pair (.sl (.sl (.int .i64))) (.pair (.sl (.int .i64)) (.pair (.int .i64) (.pair (.sl (.int .i64)) (.sl (.int .i64)))))))]]]⟩, outs := [⟨[.i .i64], [.segs [.fn 105 [] [.fe (.ptr (.pair (.sl (.sl (.int .i64))) (.pair (.sl (.int .i64)) (.pair (.int .i64) (.pair (.sl (.int .i64)) (.sl (.int .i64)))))))]]]⟩], run := fun p k => (ixfh_S N p.1.1 p.2.1.1.2.1).bind fun r => k ((r.1, ()), ((((), (r.2, ())), ()), ())) }
theorem sp_ixfh_ok (N : Nat) : SpecOK Try.prog (sp_ixfh N) := fn_sound (B := ixfh_B) (loops := [ixfh_l1_L N]) (leaves := []) (fun p => ixfh_S N p.1.1 p.2.1.1.2.1) (fun r => ((r.1, ()), ((((), (r.2, ())), ()), ()))) ixfh_rt (fun _ _ _ => rfl) (fun r z h => by cases h; rfl) Try.func135 (by kernel_rfl) (by kernel_rfl) (by kernel_rfl) rfl rfl (by kernel_rfl) (fun args w => Sem.pv_run _ _ _ (by kernel_rfl) w) (ixfh_all N) mixed ⟨ixfh_l1_ok N, trivial⟩ (fun z E Xc hE hX hret => trivial) (fun p => ixfh_eq N p.1.1 p.2.1.1.2.1)

def cofh_S (N : Nat) (s : List (List (List Int))) (f : ((List (List Int)) × ((List Int) × (Int × ((List Int) × (List Int)))))) : Option (Bool × ((List (List Int)) × ((List Int) × (Int × ((List Int) × (List Int)))))) :=
  (ixfh_S N s f).bind fun (x_1, y_2) =>
  some ((decide (0 ≤ x_1)), y_2)
noncomputable def cofh_sp (N : Nat) : List Spec := [sp_ixfh N]
theorem cofh_all (N : Nat) : AllP (SpecOK Try.prog) (cofh_sp N) := ⟨sp_ixfh_ok N, trivial⟩
noncomputable def cofh_c : Code := (Try.f129.body).getD .skip
noncomputable abbrev cofh_B : Body := { c := cofh_c, n := 9, res := [.tmp 4], outs := [⟨[.b], [.segs [.fn 105 [] [.fe (.ptr (.pair (.sl (.sl (.int .i64))) (.pair (.sl (.int .i64)) (.pair (.int .i64) (.pair (.sl (.int .i64)) (.sl (.int .i64)))))))]]]⟩], m0 := 1 }
abbrev cofh_rt : altD cofh_B.outs → Option (Bool × ((List (List Int)) × ((List Int) × (Int × ((List Int) × (List Int)))))) := fun r => some (r.1.1, r.2.1.1.2.1)
abbrev cofh_st : Sta := ⟨[0, 1], ⟨[.sl (.sl (.sl (.int .i64))), .fn 130 [] [.own 0 0]], [.segs [.fn 105 [] [.fe (.ptr (.pair (.sl (.sl (.int .i64))) (.pair (.sl (.int .i64)) (.pair (.int .i64) (.pair (.sl (.int .i64)) (.sl (.int .i64)))))))]]]⟩⟩
theorem cofh_eq (N : Nat) (s : List (List (List Int))) (f : ((List (List Int)) × ((List Int) × (Int × ((List Int) × (List Int)))))) : ev (Z := Bool × ((List (List Int)) × ((List Int) × (Int × ((List Int) × (List Int)))))) Try.prog (cofh_sp N) cofh_B [] [] (some cofh_rt) 400 false [.c [0], .c [1]] (stL cofh_st ((s, ((), ((), ())), ()), ((((), (f, ())), ()), ()))) (stH cofh_st ((s, ((), ((), ())), ()), ((((), (f, ())), ()), ()))) = cofh_S N s f := by kernel_rfl
noncomputable def sp_cofh (N : Nat) : Spec := { f := 129, ins := ⟨[.sl (.sl (.sl (.int .i64))), .fn 130 [] [.own 0 0]], [.segs [.fn 105 [] [.fe (.ptr (.pair (.sl (.sl (.int .i64))) (.pair (.sl (.int .i64)) (.pair (.int .i64) (.pair (.sl (.int .i64)) (.sl (.int .i64)))))))]]]⟩, outs := [⟨[.b], [.segs [.fn 105 [] [.fe (.ptr (.pair (.sl (.sl (.int .i64))) (.pair (.sl (.int .i64)) (.pair (.int .i64) (.pair (.sl (.int .i64)) (.sl (.int .i64)))))))]]]⟩], run := fun p k => (cofh_S N p.1.1 p.2.1.1.2.1).bind fun r => k ((r.1, ()), ((((), (r.2, ())), ()), ())) }
theorem sp_cofh_ok (N : Nat) : SpecOK Try.prog (sp_cofh N) := fn_sound (B := cofh_B) (loops := []) (leaves := []) (fun p => cofh_S N p.1.1 p.2.1.1.2.1) (fun r => ((r.1, ()), ((((), (r.2, ())), ()), ()))) cofh_rt (fun _ _ _ => rfl) (fun r z h => by cases h; rfl) Try.func129 (by kernel_rfl) (by kernel_rfl) (by kernel_rfl) rfl rfl (by kernel_rfl) (fun args w => Sem.pv_run _ _ _ (by kernel_rfl) w) (cofh_all N) mixed trivial (fun z E Xc hE hX hret => trivial) (fun p => cofh_eq N p.1.1 p.2.1.1.2.1)

def everyh_S (N : Nat) (l : List (List (List Int))) (holds : ((List (List Int)) × ((List Int) × (Int × ((List Int) × (List Int)))))) : Option Bool :=
  (cofh_S N l holds).bind fun (x_1, y_2) =>
  some (!x_1)
noncomputable def everyh_sp (N : Nat) : List Spec := [sp_cofh N]
theorem everyh_all (N : Nat) : AllP (SpecOK Try.prog) (everyh_sp N) := ⟨sp_cofh_ok N, trivial⟩
noncomputable def everyh_c : Code := (Try.f104.body).getD .skip
noncomputable abbrev everyh_B : Body := { c := everyh_c, n := 9, res := [.tmp 4], outs := [⟨[.b], []⟩], m0 := 0 }
abbrev everyh_rt : altD everyh_B.outs → Option Bool := fun r => some r.1.1
abbrev everyh_st : Sta := ⟨[0, 1], ⟨[.sl (.sl (.sl (.int .i64))), .fn 105 [] [.fe (.ptr (.pair (.sl (.sl (.int .i64))) (.pair (.sl (.int .i64)) (.pair (.int .i64) (.pair (.sl (.int .i64)) (.sl (.int .i64)))))))]], []⟩⟩
theorem everyh_eq (N : Nat) (l : List (List (List Int))) (holds : ((List (List Int)) × ((List Int) × (Int × ((List Int) × (List Int)))))) : ev (Z := Bool) Try.prog (everyh_sp N) everyh_B [] [] (some everyh_rt) 400 false [.c [0], .c [1]] (stL everyh_st ((l, ((), (holds, ())), ()), ())) (stH everyh_st ((l, ((), (holds, ())), ()), ())) = everyh_S N l holds := by kernel_rfl
noncomputable def sp_everyh (N : Nat) : Spec := { f := 104, ins := ⟨[.sl (.sl (.sl (.int .i64))), .fn 105 [] [.fe (.ptr (.pair (.sl (.sl (.int .i64))) (.pair (.sl (.int .i64)) (.pair (.int .i64) (.pair (.sl (.int .i64)) (.sl (.int .i64)))))))]], []⟩, outs := [⟨[.b], []⟩], run := fun p k => (everyh_S N p.1.1 p.1.2.1.2.1).bind fun r => k ((r, ()), ()) }
theorem sp_everyh_ok (N : Nat) : SpecOK Try.prog (sp_everyh N) := fn_sound (B := everyh_B) (loops := []) (leaves := []) (fun p => everyh_S N p.1.1 p.1.2.1.2.1) (fun r => ((r, ()), ())) everyh_rt (fun _ _ _ => rfl) (fun r z h => by cases h; rfl) Try.func104 (by kernel_rfl) (by kernel_rfl) (by kernel_rfl) rfl rfl (by kernel_rfl) (fun args w => Sem.pv_run _ _ _ (by kernel_rfl) w) (everyh_all N) mixed trivial (fun z E Xc hE hX hret => trivial) (fun p => everyh_eq N p.1.1 p.1.2.1.2.1)

def shows211_S (N : Nat) (n : Int) : Option Bool :=
  (in__S N n 0 99).bind fun x_1 =>
  some x_1
noncomputable def shows211_sp (N : Nat) : List Spec := [sp_in_ N]
theorem shows211_all (N : Nat) : AllP (SpecOK Try.prog) (shows211_sp N) := ⟨sp_in__ok N, trivial⟩
noncomputable def shows211_c : Code := (Try.f109.body).getD .skip
noncomputable abbrev shows211_B : Body := { c := shows211_c, n := 5, res := [.tmp 2], outs := [⟨[.b], []⟩], m0 := 0 }
abbrev shows211_rt : altD shows211_B.outs → Option Bool := fun r => some r.1.1
abbrev shows211_st : Sta := ⟨[0], ⟨[.i .i64], []⟩⟩
theorem shows211_eq (N : Nat) (n : Int) : ev (Z := Bool) Try.prog (shows211_sp N) shows211_B [] [] (some shows211_rt) 400 false [.c [0], .c [1]] (stL shows211_st ((n, ()), ())) (stH shows211_st ((n, ()), ())) = shows211_S N n := by kernel_rfl
noncomputable def sp_shows211 (N : Nat) : Spec := { f := 109, ins := ⟨[.i .i64], []⟩, outs := [⟨[.b], []⟩], run := fun p k => (shows211_S N p.1.1).bind fun r => k ((r, ()), ()) }
theorem sp_shows211_ok (N : Nat) : SpecOK Try.prog (sp_shows211 N) := fn_sound (B := shows211_B) (loops := []) (leaves := []) (fun p => shows211_S N p.1.1) (fun r => ((r, ()), ())) shows211_rt (fun _ _ _ => rfl) (fun r z h => by cases h; rfl) Try.func109 (by kernel_rfl) (by kernel_rfl) (by kernel_rfl) rfl rfl (by kernel_rfl) (fun args w => Sem.pv_run _ _ _ (by kernel_rfl) w) (shows211_all N) mixed trivial (fun z E Xc hE hX hret => trivial) (fun p => shows211_eq N p.1.1)

def every1j_S (N : Nat) (x : Int) : Option Bool :=
  (shows211_S N x).bind fun x_1 =>
  some (!x_1)
noncomputable def every1j_sp (N : Nat) : List Spec := [sp_shows211 N]
theorem every1j_all (N : Nat) : AllP (SpecOK Try.prog) (every1j_sp N) := ⟨sp_shows211_ok N, trivial⟩
noncomputable def every1j_c : Code := (Try.f125.body).getD .skip
noncomputable abbrev every1j_B : Body := { c := every1j_c, n := 8, res := [.tmp 3], outs := [⟨[.b], [.segs [.fn 109 [] []]]⟩], m0 := 1 }
abbrev every1j_rt : altD every1j_B.outs → Option Bool := fun r => some r.1.1
abbrev every1j_st : Sta := ⟨[0, 1], ⟨[.i .i64, .own 0 0], [.segs [.fn 109 [] []]]⟩⟩
theorem every1j_eq (N : Nat) (x : Int) : ev (Z := Bool) Try.prog (every1j_sp N) every1j_B [] [] (some every1j_rt) 400 false [.c [0], .c [1]] (stL every1j_st ((x, (), ()), ((((), ()), ()), ()))) (stH every1j_st ((x, (), ()), ((((), ()), ()), ()))) = every1j_S N x := by kernel_rfl
noncomputable def sp_every1j (N : Nat) : Spec := { f := 125, ins := ⟨[.i .i64, .own 0 0], [.segs [.fn 109 [] []]]⟩, outs := [⟨[.b], [.segs [.fn 109 [] []]]⟩], run := fun p k => (every1j_S N p.1.1).bind fun r => k ((r, ()), ((((), ()), ()), ())) }
theorem sp_every1j_ok (N : Nat) : SpecOK Try.prog (sp_every1j N) := fn_sound (B := every1j_B) (loops := []) (leaves := []) (fun p => every1j_S N p.1.1) (fun r => ((r, ()), ((((), ()), ()), ()))) every1j_rt (fun _ _ _ => rfl) (fun r z h => by cases h; rfl) Try.func125 (by kernel_rfl) (by kernel_rfl) (by kernel_rfl) rfl rfl (by kernel_rfl) (fun args w => Sem.pv_run _ _ _ (by kernel_rfl) w) (every1j_all N) mixed trivial (fun z E Xc hE hX hret => trivial) (fun p => every1j_eq N p.1.1)

def ixfj_l1 (N : Nat) : Nat → (List Int) → Int → Int → Option ((Int) ⊕ (Unit))
  | 0, _, _, _ => none
  | n_ + 1, s, u, u2 =>
    br (decide (u2 < u))
      (idx s u2 fun x_1 =>
      (every1j_S N x_1).bind fun x_2 =>
      br x_2
        (some (.inl u2))
        (chk (u2 + 1) <|
        ixfj_l1 N n_ s u (u2 + 1)))
      (some (.inr ()))
def ixfj_S (N : Nat) (s : List Int) : Option Int :=
  (ixfj_l1 N N s (s.length : Int) 0).bind fun e => match e with
  | .inl i_3 =>
    some i_3
  | .inr _ =>
    some (-1)
noncomputable def ixfj_sp (N : Nat) : List Spec := [sp_every1j N]
theorem ixfj_all (N : Nat) : AllP (SpecOK Try.prog) (ixfj_sp N) := ⟨sp_every1j_ok N, trivial⟩
noncomputable def ixfj_c : Code := (Try.f134.body).getD .skip
noncomputable abbrev ixfj_B : Body := { c := ixfj_c, n := 19, res := [.tmp 4], outs := [⟨[.i .i64], [.segs [.fn 109 [] []]]⟩], m0 := 1 }
abbrev ixfj_rt : altD ixfj_B.outs → Option Int := fun r => some r.1.1
abbrev ixfj_l1_at : List PI := [.c [1, 0, 1, 0, 0, 0], .c [1, 0, 1, 0, 0, 1], .l [1, 0, 1, 0, 0], .b 0, .c [1, 1]]
abbrev ixfj_l1_st : Sta := ⟨[0, 1, 7, 8], ⟨[.sl (.int .i64), .fn 125 [] [.own 0 0], .i .i64, .i .i64], [.segs [.fn 109 [] []]]⟩⟩
abbrev ixfj_l1_h (rec : (List Int) → Int → Int → Option ((Int) ⊕ (Unit))) : Leaf ((Int) ⊕ (Unit)) := ⟨ixfj_l1_at, ixfj_l1_st, fun p => rec p.1.1 p.1.2.2.1 p.1.2.2.2.1⟩
abbrev ixfj_l1_e0 : Leaf ((Int) ⊕ (Unit)) := ⟨[.c [1, 0, 1, 0, 0, 1, 1, 0, 0, 1, 1, 0, 0], .c [1, 0, 1, 0, 0, 1, 1, 0, 0, 1, 1, 0, 1], .b 1, .c [1, 0, 1, 0, 0, 1, 1, 1], .l [1, 0, 1, 0, 0], .b 0, .c [1, 1]], ⟨[5], ⟨[.i .i64], [.segs [.fn 109 [] []]]⟩⟩, fun p => some (.inl p.1.1)⟩
abbrev ixfj_l1_e1 : Leaf ((Int) ⊕ (Unit)) := ⟨[.c [1, 1, 0], .c [1, 1, 1]], ⟨[], ⟨[], [.segs [.fn 109 [] []]]⟩⟩, fun p => some (.inr ())⟩
noncomputable def ixfj_l1_L (N : Nat) : LoopS := { at_ := ixfj_l1_at, sta := ixfj_l1_st, exits := [([.c [1, 0, 1, 0, 0, 1, 1, 0, 0, 1, 1, 0, 0], .c [1, 0, 1, 0, 0, 1, 1, 0, 0, 1, 1, 0, 1], .b 1, .c [1, 0, 1, 0, 0, 1, 1, 1], .l [1, 0, 1, 0, 0], .b 0, .c [1, 1]], ⟨[5], ⟨[.i .i64], [.segs [.fn 109 [] []]]⟩⟩), ([.c [1, 1, 0], .c [1, 1, 1]], ⟨[], ⟨[], [.segs [.fn 109 [] []]]⟩⟩)], run := fun p k => (ixfj_l1 N N p.1.1 p.1.2.2.1 p.1.2.2.2.1).bind fun e => match e with | .inl x => k (.inl ((x, ()), ((((), ()), ()), ()))) | .inr x => k (.inr (.inl ((), ((((), ()), ()), ())))) }
theorem ixfj_l1_eq (N n_ : Nat) (s : List Int) (u : Int) (u2 : Int) : ev (Z := (Int) ⊕ (Unit)) Try.prog (ixfj_sp N) ixfj_B [] [ixfj_l1_h (ixfj_l1 N n_), ixfj_l1_e0, ixfj_l1_e1] none 400 true ixfj_l1_at (stL ixfj_l1_st ((s, ((), ((), ())), u, u2, ()), ((((), ()), ()), ()))) (stH ixfj_l1_st ((s, ((), ((), ())), u, u2, ()), ((((), ()), ()), ()))) = ixfj_l1 N (n_ + 1) s u u2 := by kernel_rfl
theorem ixfj_l1_ok (N : Nat) {top : Bool} : LoopOK Try.prog ixfj_B.c ixfj_B.n ixfj_B.m0 top (ixfj_l1_L N) := loop_of_ev (Z := (Int) ⊕ (Unit)) (N := N) (fun m p => ixfj_l1 N m p.1.1 p.1.2.2.1 p.1.2.2.2.1) (fun e => match e with | .inl x => .inl ((x, ()), ((((), ()), ()), ())) | .inr x => .inr (.inl ((), ((((), ()), ()), ())))) (fun _ p k => bind_congr_ (ixfj_l1 N N p.1.1 p.1.2.2.1 p.1.2.2.2.1) _ _ (fun e => by rcases e with x | x <;> rfl)) (fun _ => rfl) (fun m z E Xc hE hX hrec hx => leaf_of_ev (B := ixfj_B) (loops := []) (leaves := [ixfj_l1_h (ixfj_l1 N m), ixfj_l1_e0, ixfj_l1_e1]) (ixfj_all N) mixed trivial hE hX ⟨hrec, (fun p hp => by obtain rfl := Option.some.inj hp; exact hx), (fun p hp => by obtain rfl := Option.some.inj hp; exact hx), trivial⟩ RetOK.no (fun p => ixfj_l1_eq N m p.1.1 p.1.2.2.1 p.1.2.2.2.1))
abbrev ixfj_st : Sta := ⟨[0, 1], ⟨[.sl (.int .i64), .fn 125 [] [.own 0 0]], [.segs [.fn 109 [] []]]⟩⟩
theorem ixfj_eq (N : Nat) (s : List Int) : ev (Z := Int) Try.prog (ixfj_sp N) ixfj_B [ixfj_l1_L N] [] (some ixfj_rt) 400 false [.c [0], .c [1]] (stL ixfj_st ((s, ((), ((), ())), ()), ((((), ()), ()), ()))) (stH ixfj_st ((s, ((), ((), ())), ()), ((((), ()), ()), ()))) = ixfj_S N s := by kernel_rfl
noncomputable def sp_ixfj (N : Nat) : Spec := { f := 134, ins := ⟨[.sl (.int .i64), .fn 125 [] [.own 0 0]], [.segs [.fn 109 [] []]]⟩, outs := [⟨[.i .i64], [.segs [.fn 109 [] []]]⟩], run := fun p k => (ixfj_S N p.1.1).bind fun r => k ((r, ()), ((((), ()), ()), ())) }
theorem sp_ixfj_ok (N : Nat) : SpecOK Try.prog (sp_ixfj N) := fn_sound (B := ixfj_B) (loops := [ixfj_l1_L N]) (leaves := []) (fun p => ixfj_S N p.1.1) (fun r => ((r, ()), ((((), ()), ()), ()))) ixfj_rt (fun _ _ _ => rfl) (fun r z h => by cases h; rfl) Try.func134 (by kernel_rfl) (by kernel_rfl) (by kernel_rfl) rfl rfl (by kernel_rfl) (fun args w => Sem.pv_run _ _ _ (by kernel_rfl) w) (ixfj_all N) mixed ⟨ixfj_l1_ok N, trivial⟩ (fun z E Xc hE hX hret => trivial) (fun p => ixfj_eq N p.1.1)

def cofj_S (N : Nat) (s : List Int) : Option Bool :=
  (ixfj_S N s).bind fun x_1 =>
  some (decide (0 ≤ x_1))
noncomputable def cofj_sp (N : Nat) : List Spec := [sp_ixfj N]
theorem cofj_all (N : Nat) : AllP (SpecOK Try.prog) (cofj_sp N) := ⟨sp_ixfj_ok N, trivial⟩
noncomputable def cofj_c : Code := (Try.f124.body).getD .skip
noncomputable abbrev cofj_B : Body := { c := cofj_c, n := 9, res := [.tmp 4], outs := [⟨[.b], [.segs [.fn 109 [] []]]⟩], m0 := 1 }
abbrev cofj_rt : altD cofj_B.outs → Option Bool := fun r => some r.1.1
abbrev cofj_st : Sta := ⟨[0, 1], ⟨[.sl (.int .i64), .fn 125 [] [.own 0 0]], [.segs [.fn 109 [] []]]⟩⟩
theorem cofj_eq (N : Nat) (s : List Int) : ev (Z := Bool) Try.prog (cofj_sp N) cofj_B [] [] (some cofj_rt) 400 false [.c [0], .c [1]] (stL cofj_st ((s, ((), ((), ())), ()), ((((), ()), ()), ()))) (stH cofj_st ((s, ((), ((), ())), ()), ((((), ()), ()), ()))) = cofj_S N s := by kernel_rfl
noncomputable def sp_cofj (N : Nat) : Spec := { f := 124, ins := ⟨[.sl (.int .i64), .fn 125 [] [.own 0 0]], [.segs [.fn 109 [] []]]⟩, outs := [⟨[.b], [.segs [.fn 109 [] []]]⟩], run := fun p k => (cofj_S N p.1.1).bind fun r => k ((r, ()), ((((), ()), ()), ())) }
theorem sp_cofj_ok (N : Nat) : SpecOK Try.prog (sp_cofj N) := fn_sound (B := cofj_B) (loops := []) (leaves := []) (fun p => cofj_S N p.1.1) (fun r => ((r, ()), ((((), ()), ()), ()))) cofj_rt (fun _ _ _ => rfl) (fun r z h => by cases h; rfl) Try.func124 (by kernel_rfl) (by kernel_rfl) (by kernel_rfl) rfl rfl (by kernel_rfl) (fun args w => Sem.pv_run _ _ _ (by kernel_rfl) w) (cofj_all N) mixed trivial (fun z E Xc hE hX hret => trivial) (fun p => cofj_eq N p.1.1)

def everyj_S (N : Nat) (l : List Int) : Option Bool :=
  (cofj_S N l).bind fun x_1 =>
  some (!x_1)
noncomputable def everyj_sp (N : Nat) : List Spec := [sp_cofj N]
theorem everyj_all (N : Nat) : AllP (SpecOK Try.prog) (everyj_sp N) := ⟨sp_cofj_ok N, trivial⟩
noncomputable def everyj_c : Code := (Try.f91.body).getD .skip
noncomputable abbrev everyj_B : Body := { c := everyj_c, n := 9, res := [.tmp 4], outs := [⟨[.b], []⟩], m0 := 0 }
abbrev everyj_rt : altD everyj_B.outs → Option Bool := fun r => some r.1.1
abbrev everyj_st : Sta := ⟨[0, 1], ⟨[.sl (.int .i64), .fn 109 [] []], []⟩⟩
theorem everyj_eq (N : Nat) (l : List Int) : ev (Z := Bool) Try.prog (everyj_sp N) everyj_B [] [] (some everyj_rt) 400 false [.c [0], .c [1]] (stL everyj_st ((l, ((), ()), ()), ())) (stH everyj_st ((l, ((), ()), ()), ())) = everyj_S N l := by kernel_rfl
noncomputable def sp_everyj (N : Nat) : Spec := { f := 91, ins := ⟨[.sl (.int .i64), .fn 109 [] []], []⟩, outs := [⟨[.b], []⟩], run := fun p k => (everyj_S N p.1.1).bind fun r => k ((r, ()), ()) }
theorem sp_everyj_ok (N : Nat) : SpecOK Try.prog (sp_everyj N) := fn_sound (B := everyj_B) (loops := []) (leaves := []) (fun p => everyj_S N p.1.1) (fun r => ((r, ()), ())) everyj_rt (fun _ _ _ => rfl) (fun r z h => by cases h; rfl) Try.func91 (by kernel_rfl) (by kernel_rfl) (by kernel_rfl) rfl rfl (by kernel_rfl) (fun args w => Sem.pv_run _ _ _ (by kernel_rfl) w) (everyj_all N) mixed trivial (fun z E Xc hE hX hret => trivial) (fun p => everyj_eq N p.1.1)

def shows21_S (N : Nat) (k : List Int) : Option Bool :=
  (everyj_S N k).bind fun x_1 =>
  some x_1
noncomputable def shows21_sp (N : Nat) : List Spec := [sp_everyj N]
theorem shows21_all (N : Nat) : AllP (SpecOK Try.prog) (shows21_sp N) := ⟨sp_everyj_ok N, trivial⟩
noncomputable def shows21_c : Code := (Try.f108.body).getD .skip
noncomputable abbrev shows21_B : Body := { c := shows21_c, n := 5, res := [.tmp 2], outs := [⟨[.b], []⟩], m0 := 0 }
abbrev shows21_rt : altD shows21_B.outs → Option Bool := fun r => some r.1.1
abbrev shows21_st : Sta := ⟨[0], ⟨[.sl (.int .i64)], []⟩⟩
theorem shows21_eq (N : Nat) (k : List Int) : ev (Z := Bool) Try.prog (shows21_sp N) shows21_B [] [] (some shows21_rt) 400 false [.c [0], .c [1]] (stL shows21_st ((k, ()), ())) (stH shows21_st ((k, ()), ())) = shows21_S N k := by kernel_rfl
noncomputable def sp_shows21 (N : Nat) : Spec := { f := 108, ins := ⟨[.sl (.int .i64)], []⟩, outs := [⟨[.b], []⟩], run := fun p k => (shows21_S N p.1.1).bind fun r => k ((r, ()), ()) }
theorem sp_shows21_ok (N : Nat) : SpecOK Try.prog (sp_shows21 N) := fn_sound (B := shows21_B) (loops := []) (leaves := []) (fun p => shows21_S N p.1.1) (fun r => ((r, ()), ())) shows21_rt (fun _ _ _ => rfl) (fun r z h => by cases h; rfl) Try.func108 (by kernel_rfl) (by kernel_rfl) (by kernel_rfl) rfl rfl (by kernel_rfl) (fun args w => Sem.pv_run _ _ _ (by kernel_rfl) w) (shows21_all N) mixed trivial (fun z E Xc hE hX hret => trivial) (fun p => shows21_eq N p.1.1)

def every1k_S (N : Nat) (x : List Int) : Option Bool :=
  (shows21_S N x).bind fun x_1 =>
  some (!x_1)
noncomputable def every1k_sp (N : Nat) : List Spec := [sp_shows21 N]
theorem every1k_all (N : Nat) : AllP (SpecOK Try.prog) (every1k_sp N) := ⟨sp_shows21_ok N, trivial⟩
noncomputable def every1k_c : Code := (Try.f126.body).getD .skip
noncomputable abbrev every1k_B : Body := { c := every1k_c, n := 8, res := [.tmp 3], outs := [⟨[.b], [.segs [.fn 108 [] []]]⟩], m0 := 1 }
abbrev every1k_rt : altD every1k_B.outs → Option Bool := fun r => some r.1.1
abbrev every1k_st : Sta := ⟨[0, 1], ⟨[.sl (.int .i64), .own 0 0], [.segs [.fn 108 [] []]]⟩⟩
theorem every1k_eq (N : Nat) (x : List Int) : ev (Z := Bool) Try.prog (every1k_sp N) every1k_B [] [] (some every1k_rt) 400 false [.c [0], .c [1]] (stL every1k_st ((x, (), ()), ((((), ()), ()), ()))) (stH every1k_st ((x, (), ()), ((((), ()), ()), ()))) = every1k_S N x := by kernel_rfl
noncomputable def sp_every1k (N : Nat) : Spec := { f := 126, ins := ⟨[.sl (.int .i64), .own 0 0], [.segs [.fn 108 [] []]]⟩, outs := [⟨[.b], [.segs [.fn 108 [] []]]⟩], run := fun p k => (every1k_S N p.1.1).bind fun r => k ((r, ()), ((((), ()), ()), ())) }
theorem sp_every1k_ok (N : Nat) : SpecOK Try.prog (sp_every1k N) := fn_sound (B := every1k_B) (loops := []) (leaves := []) (fun p => every1k_S N p.1.1) (fun r => ((r, ()), ((((), ()), ()), ()))) every1k_rt (fun _ _ _ => rfl) (fun r z h => by cases h; rfl) Try.func126 (by kernel_rfl) (by kernel_rfl) (by kernel_rfl) rfl rfl (by kernel_rfl) (fun args w => Sem.pv_run _ _ _ (by kernel_rfl) w) (every1k_all N) mixed trivial (fun z E Xc hE hX hret => trivial) (fun p => every1k_eq N p.1.1)

def ixfk_l1 (N : Nat) : Nat → (List (List Int)) → Int → Int → Option ((Int) ⊕ (Unit))
  | 0, _, _, _ => none
  | n_ + 1, s, u, u2 =>
    br (decide (u2 < u))
      (idx s u2 fun x_1 =>
      (every1k_S N x_1).bind fun x_2 =>
      br x_2
        (some (.inl u2))
        (chk (u2 + 1) <|
        ixfk_l1 N n_ s u (u2 + 1)))
      (some (.inr ()))
def ixfk_S (N : Nat) (s : List (List Int)) : Option Int :=
  (ixfk_l1 N N s (s.length : Int) 0).bind fun e => match e with
  | .inl i_3 =>
    some i_3
  | .inr _ =>
    some (-1)
noncomputable def ixfk_sp (N : Nat) : List Spec := [sp_every1k N]
theorem ixfk_all (N : Nat) : AllP (SpecOK Try.prog) (ixfk_sp N) := ⟨sp_every1k_ok N, trivial⟩
noncomputable def ixfk_c : Code := (Try.f132.body).getD .skip
noncomputable abbrev ixfk_B : Body := { c := ixfk_c, n := 19, res := [.tmp 4], outs := [⟨[.i .i64], [.segs [.fn 108 [] []]]⟩], m0 := 1 }
abbrev ixfk_rt : altD ixfk_B.outs → Option Int := fun r => some r.1.1
abbrev ixfk_l1_at : List PI := [.c [1, 0, 1, 0, 0, 0], .c [1, 0, 1, 0, 0, 1], .l [1, 0, 1, 0, 0], .b 0, .c [1, 1]]
abbrev ixfk_l1_st : Sta := ⟨[0, 1, 7, 8], ⟨[.sl (.sl (.int .i64)), .fn 126 [] [.own 0 0], .i .i64, .i .i64], [.segs [.fn 108 [] []]]⟩⟩
abbrev ixfk_l1_h (rec : (List (List Int)) → Int → Int → Option ((Int) ⊕ (Unit))) : Leaf ((Int) ⊕ (Unit)) := ⟨ixfk_l1_at, ixfk_l1_st, fun p => rec p.1.1 p.1.2.2.1 p.1.2.2.2.1⟩
abbrev ixfk_l1_e0 : Leaf ((Int) ⊕ (Unit)) := ⟨[.c [1, 0, 1, 0, 0, 1, 1, 0, 0, 1, 1, 0, 0], .c [1, 0, 1, 0, 0, 1, 1, 0, 0, 1, 1, 0, 1], .b 1, .c [1, 0, 1, 0, 0, 1, 1, 1], .l [1, 0, 1, 0, 0], .b 0, .c [1, 1]], ⟨[5], ⟨[.i .i64], [.segs [.fn 108 [] []]]⟩⟩, fun p => some (.inl p.1.1)⟩
abbrev ixfk_l1_e1 : Leaf ((Int) ⊕ (Unit)) := ⟨[.c [1, 1, 0], .c [1, 1, 1]], ⟨[], ⟨[], [.segs [.fn 108 [] []]]⟩⟩, fun p => some (.inr ())⟩
noncomputable def ixfk_l1_L (N : Nat) : LoopS := { at_ := ixfk_l1_at, sta := ixfk_l1_st, exits := [([.c [1, 0, 1, 0, 0, 1, 1, 0, 0, 1, 1, 0, 0], .c [1, 0, 1, 0, 0, 1, 1, 0, 0, 1, 1, 0, 1], .b 1, .c [1, 0, 1, 0, 0, 1, 1, 1], .l [1, 0, 1, 0, 0], .b 0, .c [1, 1]], ⟨[5], ⟨[.i .i64], [.segs [.fn 108 [] []]]⟩⟩), ([.c [1, 1, 0], .c [1, 1, 1]], ⟨[], ⟨[], [.segs [.fn 108 [] []]]⟩⟩)], run := fun p k => (ixfk_l1 N N p.1.1 p.1.2.2.1 p.1.2.2.2.1).bind fun e => match e with | .inl x => k (.inl ((x, ()), ((((), ()), ()), ()))) | .inr x => k (.inr (.inl ((), ((((), ()), ()), ())))) }
theorem ixfk_l1_eq (N n_ : Nat) (s : List (List Int)) (u : Int) (u2 : Int) : ev (Z := (Int) ⊕ (Unit)) Try.prog (ixfk_sp N) ixfk_B [] [ixfk_l1_h (ixfk_l1 N n_), ixfk_l1_e0, ixfk_l1_e1] none 400 true ixfk_l1_at (stL ixfk_l1_st ((s, ((), ((), ())), u, u2, ()), ((((), ()), ()), ()))) (stH ixfk_l1_st ((s, ((), ((), ())), u, u2, ()), ((((), ()), ()), ()))) = ixfk_l1 N (n_ + 1) s u u2 := by kernel_rfl
theorem ixfk_l1_ok (N : Nat) {top : Bool} : LoopOK Try.prog ixfk_B.c ixfk_B.n ixfk_B.m0 top (ixfk_l1_L N) := loop_of_ev (Z := (Int) ⊕ (Unit)) (N := N) (fun m p => ixfk_l1 N m p.1.1 p.1.2.2.1 p.1.2.2.2.1) (fun e => match e with | .inl x => .inl ((x, ()), ((((), ()), ()), ())) | .inr x => .inr (.inl ((), ((((), ()), ()), ())))) (fun _ p k => bind_congr_ (ixfk_l1 N N p.1.1 p.1.2.2.1 p.1.2.2.2.1) _ _ (fun e => by rcases e with x | x <;> rfl)) (fun _ => rfl) (fun m z E Xc hE hX hrec hx => leaf_of_ev (B := ixfk_B) (loops := []) (leaves := [ixfk_l1_h (ixfk_l1 N m), ixfk_l1_e0, ixfk_l1_e1]) (ixfk_all N) mixed trivial hE hX ⟨hrec, (fun p hp => by obtain rfl := Option.some.inj hp; exact hx), (fun p hp => by obtain rfl := Option.some.inj hp; exact hx), trivial⟩ RetOK.no (fun p => ixfk_l1_eq N m p.1.1 p.1.2.2.1 p.1.2.2.2.1))
abbrev ixfk_st : Sta := ⟨[0, 1], ⟨[.sl (.sl (.int .i64)), .fn 126 [] [.own 0 0]], [.segs [.fn 108 [] []]]⟩⟩
theorem ixfk_eq (N : Nat) (s : List (List Int)) : ev (Z := Int) Try.prog (ixfk_sp N) ixfk_B [ixfk_l1_L N] [] (some ixfk_rt) 400 false [.c [0], .c [1]] (stL ixfk_st ((s, ((), ((), ())), ()), ((((), ()), ()), ()))) (stH ixfk_st ((s, ((), ((), ())), ()), ((((), ()), ()), ()))) = ixfk_S N s := by kernel_rfl
noncomputable def sp_ixfk (N : Nat) : Spec := { f := 132, ins := ⟨[.sl (.sl (.int .i64)), .fn 126 [] [.own 0 0]], [.segs [.fn 108 [] []]]⟩, outs := [⟨[.i .i64], [.segs [.fn 108 [] []]]⟩], run := fun p k => (ixfk_S N p.1.1).bind fun r => k ((r, ()), ((((), ()), ()), ())) }
theorem sp_ixfk_ok (N : Nat) : SpecOK Try.prog (sp_ixfk N) := fn_sound (B := ixfk_B) (loops := [ixfk_l1_L N]) (leaves := []) (fun p => ixfk_S N p.1.1) (fun r => ((r, ()), ((((), ()), ()), ()))) ixfk_rt (fun _ _ _ => rfl) (fun r z h => by cases h; rfl) Try.func132 (by kernel_rfl) (by kernel_rfl) (by kernel_rfl) rfl rfl (by kernel_rfl) (fun args w => Sem.pv_run _ _ _ (by kernel_rfl) w) (ixfk_all N) mixed ⟨ixfk_l1_ok N, trivial⟩ (fun z E Xc hE hX hret => trivial) (fun p => ixfk_eq N p.1.1)

def cofk_S (N : Nat) (s : List (List Int)) : Option Bool :=
  (ixfk_S N s).bind fun x_1 =>
  some (decide (0 ≤ x_1))
noncomputable def cofk_sp (N : Nat) : List Spec := [sp_ixfk N]
theorem cofk_all (N : Nat) : AllP (SpecOK Try.prog) (cofk_sp N) := ⟨sp_ixfk_ok N, trivial⟩
noncomputable def cofk_c : Code := (Try.f115.body).getD .skip
noncomputable abbrev cofk_B : Body := { c := cofk_c, n := 9, res := [.tmp 4], outs := [⟨[.b], [.segs [.fn 108 [] []]]⟩], m0 := 1 }
abbrev cofk_rt : altD cofk_B.outs → Option Bool := fun r => some r.1.1
abbrev cofk_st : Sta := ⟨[0, 1], ⟨[.sl (.sl (.int .i64)), .fn 126 [] [.own 0 0]], [.segs [.fn 108 [] []]]⟩⟩
theorem cofk_eq (N : Nat) (s : List (List Int)) : ev (Z := Bool) Try.prog (cofk_sp N) cofk_B [] [] (some cofk_rt) 400 false [.c [0], .c [1]] (stL cofk_st ((s, ((), ((), ())), ()), ((((), ()), ()), ()))) (stH cofk_st ((s, ((), ((), ())), ()), ((((), ()), ()), ()))) = cofk_S N s := by kernel_rfl
noncomputable def sp_cofk (N : Nat) : Spec := { f := 115, ins := ⟨[.sl (.sl (.int .i64)), .fn 126 [] [.own 0 0]], [.segs [.fn 108 [] []]]⟩, outs := [⟨[.b], [.segs [.fn 108 [] []]]⟩], run := fun p k => (cofk_S N p.1.1).bind fun r => k ((r, ()), ((((), ()), ()), ())) }
theorem sp_cofk_ok (N : Nat) : SpecOK Try.prog (sp_cofk N) := fn_sound (B := cofk_B) (loops := []) (leaves := []) (fun p => cofk_S N p.1.1) (fun r => ((r, ()), ((((), ()), ()), ()))) cofk_rt (fun _ _ _ => rfl) (fun r z h => by cases h; rfl) Try.func115 (by kernel_rfl) (by kernel_rfl) (by kernel_rfl) rfl rfl (by kernel_rfl) (fun args w => Sem.pv_run _ _ _ (by kernel_rfl) w) (cofk_all N) mixed trivial (fun z E Xc hE hX hret => trivial) (fun p => cofk_eq N p.1.1)

def everyk_S (N : Nat) (l : List (List Int)) : Option Bool :=
  (cofk_S N l).bind fun x_1 =>
  some (!x_1)
noncomputable def everyk_sp (N : Nat) : List Spec := [sp_cofk N]
theorem everyk_all (N : Nat) : AllP (SpecOK Try.prog) (everyk_sp N) := ⟨sp_cofk_ok N, trivial⟩
noncomputable def everyk_c : Code := (Try.f94.body).getD .skip
noncomputable abbrev everyk_B : Body := { c := everyk_c, n := 9, res := [.tmp 4], outs := [⟨[.b], []⟩], m0 := 0 }
abbrev everyk_rt : altD everyk_B.outs → Option Bool := fun r => some r.1.1
abbrev everyk_st : Sta := ⟨[0, 1], ⟨[.sl (.sl (.int .i64)), .fn 108 [] []], []⟩⟩
theorem everyk_eq (N : Nat) (l : List (List Int)) : ev (Z := Bool) Try.prog (everyk_sp N) everyk_B [] [] (some everyk_rt) 400 false [.c [0], .c [1]] (stL everyk_st ((l, ((), ()), ()), ())) (stH everyk_st ((l, ((), ()), ()), ())) = everyk_S N l := by kernel_rfl
noncomputable def sp_everyk (N : Nat) : Spec := { f := 94, ins := ⟨[.sl (.sl (.int .i64)), .fn 108 [] []], []⟩, outs := [⟨[.b], []⟩], run := fun p k => (everyk_S N p.1.1).bind fun r => k ((r, ()), ()) }
theorem sp_everyk_ok (N : Nat) : SpecOK Try.prog (sp_everyk N) := fn_sound (B := everyk_B) (loops := []) (leaves := []) (fun p => everyk_S N p.1.1) (fun r => ((r, ()), ())) everyk_rt (fun _ _ _ => rfl) (fun r z h => by cases h; rfl) Try.func94 (by kernel_rfl) (by kernel_rfl) (by kernel_rfl) rfl rfl (by kernel_rfl) (fun args w => Sem.pv_run _ _ _ (by kernel_rfl) w) (everyk_all N) mixed trivial (fun z E Xc hE hX hret => trivial) (fun p => everyk_eq N p.1.1)

def shows2_S (N : Nat) (l : List (List Int)) : Option Bool :=
  (everyk_S N l).bind fun x_1 =>
  some x_1
noncomputable def shows2_sp (N : Nat) : List Spec := [sp_everyk N]
theorem shows2_all (N : Nat) : AllP (SpecOK Try.prog) (shows2_sp N) := ⟨sp_everyk_ok N, trivial⟩
noncomputable def shows2_c : Code := (Try.f107.body).getD .skip
noncomputable abbrev shows2_B : Body := { c := shows2_c, n := 5, res := [.tmp 2], outs := [⟨[.b], []⟩], m0 := 0 }
abbrev shows2_rt : altD shows2_B.outs → Option Bool := fun r => some r.1.1
abbrev shows2_st : Sta := ⟨[0], ⟨[.sl (.sl (.int .i64))], []⟩⟩
theorem shows2_eq (N : Nat) (l : List (List Int)) : ev (Z := Bool) Try.prog (shows2_sp N) shows2_B [] [] (some shows2_rt) 400 false [.c [0], .c [1]] (stL shows2_st ((l, ()), ())) (stH shows2_st ((l, ()), ())) = shows2_S N l := by kernel_rfl
noncomputable def sp_shows2 (N : Nat) : Spec := { f := 107, ins := ⟨[.sl (.sl (.int .i64))], []⟩, outs := [⟨[.b], []⟩], run := fun p k => (shows2_S N p.1.1).bind fun r => k ((r, ()), ()) }
theorem sp_shows2_ok (N : Nat) : SpecOK Try.prog (sp_shows2 N) := fn_sound (B := shows2_B) (loops := []) (leaves := []) (fun p => shows2_S N p.1.1) (fun r => ((r, ()), ())) shows2_rt (fun _ _ _ => rfl) (fun r z h => by cases h; rfl) Try.func107 (by kernel_rfl) (by kernel_rfl) (by kernel_rfl) rfl rfl (by kernel_rfl) (fun args w => Sem.pv_run _ _ _ (by kernel_rfl) w) (shows2_all N) mixed trivial (fun z E Xc hE hX hret => trivial) (fun p => shows2_eq N p.1.1)

def every1l_S (N : Nat) (x : List (List Int)) : Option Bool :=
  (shows2_S N x).bind fun x_1 =>
  some (!x_1)
noncomputable def every1l_sp (N : Nat) : List Spec := [sp_shows2 N]
theorem every1l_all (N : Nat) : AllP (SpecOK Try.prog) (every1l_sp N) := ⟨sp_shows2_ok N, trivial⟩
noncomputable def every1l_c : Code := (Try.f130.body).getD .skip
noncomputable abbrev every1l_B : Body := { c := every1l_c, n := 8, res := [.tmp 3], outs := [⟨[.b], [.segs [.fn 107 [] []]]⟩], m0 := 1 }
abbrev every1l_rt : altD every1l_B.outs → Option Bool := fun r => some r.1.1
abbrev every1l_st : Sta := ⟨[0, 1], ⟨[.sl (.sl (.int .i64)), .own 0 0], [.segs [.fn 107 [] []]]⟩⟩
theorem every1l_eq (N : Nat) (x : List (List Int)) : ev (Z := Bool) Try.prog (every1l_sp N) every1l_B [] [] (some every1l_rt) 400 false [.c [0], .c [1]] (stL every1l_st ((x, (), ()), ((((), ()), ()), ()))) (stH every1l_st ((x, (), ()), ((((), ()), ()), ()))) = every1l_S N x := by kernel_rfl
noncomputable def sp_every1l (N : Nat) : Spec := { f := 130, ins := ⟨[.sl (.sl (.int .i64)), .own 0 0], [.segs [.fn 107 [] []]]⟩, outs := [⟨[.b], [.segs [.fn 107 [] []]]⟩], run := fun p k => (every1l_S N p.1.1).bind fun r => k ((r, ()), ((((), ()), ()), ())) }
theorem sp_every1l_ok (N : Nat) : SpecOK Try.prog (sp_every1l N) := fn_sound (B := every1l_B) (loops := []) (leaves := []) (fun p => every1l_S N p.1.1) (fun r => ((r, ()), ((((), ()), ()), ()))) every1l_rt (fun _ _ _ => rfl) (fun r z h => by cases h; rfl) Try.func130 (by kernel_rfl) (by kernel_rfl) (by kernel_rfl) rfl rfl (by kernel_rfl) (fun args w => Sem.pv_run _ _ _ (by kernel_rfl) w) (every1l_all N) mixed trivial (fun z E Xc hE hX hret => trivial) (fun p => every1l_eq N p.1.1)

def ixfl_l1 (N : Nat) : Nat → (List (List (List Int))) → Int → Int → Option ((Int) ⊕ (Unit))
  | 0, _, _, _ => none
  | n_ + 1, s, u, u2 =>
    br (decide (u2 < u))
      (idx s u2 fun x_1 =>
      (every1l_S N x_1).bind fun x_2 =>
      br x_2
        (some (.inl u2))
        (chk (u2 + 1) <|
        ixfl_l1 N n_ s u (u2 + 1)))
      (some (.inr ()))
def ixfl_S (N : Nat) (s : List (List (List Int))) : Option Int :=
  (ixfl_l1 N N s (s.length : Int) 0).bind fun e => match e with
  | .inl i_3 =>
    some i_3
  | .inr _ =>
    some (-1)
noncomputable def ixfl_sp (N : Nat) : List Spec := [sp_every1l N]
theorem ixfl_all (N : Nat) : AllP (SpecOK Try.prog) (ixfl_sp N) := ⟨sp_every1l_ok N, trivial⟩
noncomputable def ixfl_c : Code := (Try.f135.body).getD .skip
noncomputable abbrev ixfl_B : Body := { c := ixfl_c, n := 19, res := [.tmp 4], outs := [⟨[.i .i64], [.segs [.fn 107 [] []]]⟩], m0 := 1 }
abbrev ixfl_rt : altD ixfl_B.outs → Option Int := fun r => some r.1.1
abbrev ixfl_l1_at : List PI := [.c [1, 0, 1, 0, 0, 0], .c [1, 0, 1, 0, 0, 1], .l [1, 0, 1, 0, 0], .b 0, .c [1, 1]]
abbrev ixfl_l1_st : Sta := ⟨[0, 1, 7, 8], ⟨[.sl (.sl (.sl (.int .i64))), .fn 130 [] [.own 0 0], .i .i64, .i .i64], [.segs [.fn 107 [] []]]⟩⟩
abbrev ixfl_l1_h (rec : (List (List (List Int))) → Int → Int → Option ((Int) ⊕ (Unit))) : Leaf ((Int) ⊕ (Unit)) := ⟨ixfl_l1_at, ixfl_l1_st, fun p => rec p.1.1 p.1.2.2.1 p.1.2.2.2.1⟩
abbrev ixfl_l1_e0 : Leaf ((Int) ⊕ (Unit)) := ⟨[.c [1, 0, 1, 0, 0, 1, 1, 0, 0, 1, 1, 0, 0], .c [1, 0, 1, 0, 0, 1, 1, 0, 0, 1, 1, 0, 1], .b 1, .c [1, 0, 1, 0, 0, 1, 1, 1], .l [1, 0, 1, 0, 0], .b 0, .c [1, 1]], ⟨[5], ⟨[.i .i64], [.segs [.fn 107 [] []]]⟩⟩, fun p => some (.inl p.1.1)⟩
abbrev ixfl_l1_e1 : Leaf ((Int) ⊕ (Unit)) := ⟨[.c [1, 1, 0], .c [1, 1, 1]], ⟨[], ⟨[], [.segs [.fn 107 [] []]]⟩⟩, fun p => some (.inr ())⟩
noncomputable def ixfl_l1_L (N : Nat) : LoopS := { at_ := ixfl_l1_at, sta := ixfl_l1_st, exits := [([.c [1, 0, 1, 0, 0, 1, 1, 0, 0, 1, 1, 0, 0], .c [1, 0, 1, 0, 0, 1, 1, 0, 0, 1, 1, 0, 1], .b 1, .c [1, 0, 1, 0, 0, 1, 1, 1], .l [1, 0, 1, 0, 0], .b 0, .c [1, 1]], ⟨[5], ⟨[.i .i64], [.segs [.fn 107 [] []]]⟩⟩), ([.c [1, 1, 0], .c [1, 1, 1]], ⟨[], ⟨[], [.segs [.fn 107 [] []]]⟩⟩)], run := fun p k => (ixfl_l1 N N p.1.1 p.1.2.2.1 p.1.2.2.2.1).bind fun e => match e with | .inl x => k (.inl ((x, ()), ((((), ()), ()), ()))) | .inr x => k (.inr (.inl ((), ((((), ()), ()), ())))) }
theorem ixfl_l1_eq (N n_ : Nat) (s : List (List (List Int))) (u : Int) (u2 : Int) : ev (Z := (Int) ⊕ (Unit)) Try.prog (ixfl_sp N) ixfl_B [] [ixfl_l1_h (ixfl_l1 N n_), ixfl_l1_e0, ixfl_l1_e1] none 400 true ixfl_l1_at (stL ixfl_l1_st ((s, ((), ((), ())), u, u2, ()), ((((), ()), ()), ()))) (stH ixfl_l1_st ((s, ((), ((), ())), u, u2, ()), ((((), ()), ()), ()))) = ixfl_l1 N (n_ + 1) s u u2 := by kernel_rfl
theorem ixfl_l1_ok (N : Nat) {top : Bool} : LoopOK Try.prog ixfl_B.c ixfl_B.n ixfl_B.m0 top (ixfl_l1_L N) := loop_of_ev (Z := (Int) ⊕ (Unit)) (N := N) (fun m p => ixfl_l1 N m p.1.1 p.1.2.2.1 p.1.2.2.2.1) (fun e => match e with | .inl x => .inl ((x, ()), ((((), ()), ()), ())) | .inr x => .inr (.inl ((), ((((), ()), ()), ())))) (fun _ p k => bind_congr_ (ixfl_l1 N N p.1.1 p.1.2.2.1 p.1.2.2.2.1) _ _ (fun e => by rcases e with x | x <;> rfl)) (fun _ => rfl) (fun m z E Xc hE hX hrec hx => leaf_of_ev (B := ixfl_B) (loops := []) (leaves := [ixfl_l1_h (ixfl_l1 N m), ixfl_l1_e0, ixfl_l1_e1]) (ixfl_all N) mixed trivial hE hX ⟨hrec, (fun p hp => by obtain rfl := Option.some.inj hp; exact hx), (fun p hp => by obtain rfl := Option.some.inj hp; exact hx), trivial⟩ RetOK.no (fun p => ixfl_l1_eq N m p.1.1 p.1.2.2.1 p.1.2.2.2.1))
abbrev ixfl_st : Sta := ⟨[0, 1], ⟨[.sl (.sl (.sl (.int .i64))), .fn 130 [] [.own 0 0]], [.segs [.fn 107 [] []]]⟩⟩
theorem ixfl_eq (N : Nat) (s : List (List (List Int))) : ev (Z := Int) Try.prog (ixfl_sp N) ixfl_B [ixfl_l1_L N] [] (some ixfl_rt) 400 false [.c [0], .c [1]] (stL ixfl_st ((s, ((), ((), ())), ()), ((((), ()), ()), ()))) (stH ixfl_st ((s, ((), ((), ())), ()), ((((), ()), ()), ()))) = ixfl_S N s := by kernel_rfl
noncomputable def sp_ixfl (N : Nat) : Spec := { f := 135, ins := ⟨[.sl (.sl (.sl (.int .i64))), .fn 130 [] [.own 0 0]], [.segs [.fn 107 [] []]]⟩, outs := [⟨[.i .i64], [.segs [.fn 107 [] []]]⟩], run := fun p k => (ixfl_S N p.1.1).bind fun r => k ((r, ()), ((((), ()), ()), ())) }
theorem sp_ixfl_ok (N : Nat) : SpecOK Try.prog (sp_ixfl N) := fn_sound (B := ixfl_B) (loops := [ixfl_l1_L N]) (leaves := []) (fun p => ixfl_S N p.1.1) (fun r => ((r, ()), ((((), ()), ()), ()))) ixfl_rt (fun _ _ _ => rfl) (fun r z h => by cases h; rfl) Try.func135 (by kernel_rfl) (by kernel_rfl) (by kernel_rfl) rfl rfl (by kernel_rfl) (fun args w => Sem.pv_run _ _ _ (by kernel_rfl) w) (ixfl_all N) mixed ⟨ixfl_l1_ok N, trivial⟩ (fun z E Xc hE hX hret => trivial) (fun p => ixfl_eq N p.1.1)

def cofl_S (N : Nat) (s : List (List (List Int))) : Option Bool :=
  (ixfl_S N s).bind fun x_1 =>
  some (decide (0 ≤ x_1))
noncomputable def cofl_sp (N : Nat) : List Spec := [sp_ixfl N]
theorem cofl_all (N : Nat) : AllP (SpecOK Try.prog) (cofl_sp N) := ⟨sp_ixfl_ok N, trivial⟩
noncomputable def cofl_c : Code := (Try.f129.body).getD .skip
noncomputable abbrev cofl_B : Body := { c := cofl_c, n := 9, res := [.tmp 4], outs := [⟨[.b], [.segs [.fn 107 [] []]]⟩], m0 := 1 }
abbrev cofl_rt : altD cofl_B.outs → Option Bool := fun r => some r.1.1
abbrev cofl_st : Sta := ⟨[0, 1], ⟨[.sl (.sl (.sl (.int .i64))), .fn 130 [] [.own 0 0]], [.segs [.fn 107 [] []]]⟩⟩
theorem cofl_eq (N : Nat) (s : List (List (List Int))) : ev (Z := Bool) Try.prog (cofl_sp N) cofl_B [] [] (some cofl_rt) 400 false [.c [0], .c [1]] (stL cofl_st ((s, ((), ((), ())), ()), ((((), ()), ()), ()))) (stH cofl_st ((s, ((), ((), ())), ()), ((((), ()), ()), ()))) = cofl_S N s := by kernel_rfl
noncomputable def sp_cofl (N : Nat) : Spec := { f := 129, ins := ⟨[.sl (.sl (.sl (.int .i64))), .fn 130 [] [.own 0 0]], [.segs [.fn 107 [] []]]⟩, outs := [⟨[.b], [.segs [.fn 107 [] []]]⟩], run := fun p k => (cofl_S N p.1.1).bind fun r => k ((r, ()), ((((), ()), ()), ())) }
theorem sp_cofl_ok (N : Nat) : SpecOK Try.prog (sp_cofl N) := fn_sound (B := cofl_B) (loops := []) (leaves := []) (fun p => cofl_S N p.1.1) (fun r => ((r, ()), ((((), ()), ()), ()))) cofl_rt (fun _ _ _ => rfl) (fun r z h => by cases h; rfl) Try.func129 (by kernel_rfl) (by kernel_rfl) (by kernel_rfl) rfl rfl (by kernel_rfl) (fun args w => Sem.pv_run _ _ _ (by kernel_rfl) w) (cofl_all N) mixed trivial (fun z E Xc hE hX hret => trivial) (fun p => cofl_eq N p.1.1)

def everyl_S (N : Nat) (l : List (List (List Int))) : Option Bool :=
  (cofl_S N l).bind fun x_1 =>
  some (!x_1)
noncomputable def everyl_sp (N : Nat) : List Spec := [sp_cofl N]
theorem everyl_all (N : Nat) : AllP (SpecOK Try.prog) (everyl_sp N) := ⟨sp_cofl_ok N, trivial⟩
noncomputable def everyl_c : Code := (Try.f104.body).getD .skip
noncomputable abbrev everyl_B : Body := { c := everyl_c, n := 9, res := [.tmp 4], outs := [⟨[.b], []⟩], m0 := 0 }
abbrev everyl_rt : altD everyl_B.outs → Option Bool := fun r => some r.1.1
abbrev everyl_st : Sta := ⟨[0, 1], ⟨[.sl (.sl (.sl (.int .i64))), .fn 107 [] []], []⟩⟩
theorem everyl_eq (N : Nat) (l : List (List (List Int))) : ev (Z := Bool) Try.prog (everyl_sp N) everyl_B [] [] (some everyl_rt) 400 false [.c [0], .c [1]] (stL everyl_st ((l, ((), ()), ()), ())) (stH everyl_st ((l, ((), ()), ()), ())) = everyl_S N l := by kernel_rfl
noncomputable def sp_everyl (N : Nat) : Spec := { f := 104, ins := ⟨[.sl (.sl (.sl (.int .i64))), .fn 107 [] []], []⟩, outs := [⟨[.b], []⟩], run := fun p k => (everyl_S N p.1.1).bind fun r => k ((r, ()), ()) }
theorem sp_everyl_ok (N : Nat) : SpecOK Try.prog (sp_everyl N) := fn_sound (B := everyl_B) (loops := []) (leaves := []) (fun p => everyl_S N p.1.1) (fun r => ((r, ()), ())) everyl_rt (fun _ _ _ => rfl) (fun r z h => by cases h; rfl) Try.func104 (by kernel_rfl) (by kernel_rfl) (by kernel_rfl) rfl rfl (by kernel_rfl) (fun args w => Sem.pv_run _ _ _ (by kernel_rfl) w) (everyl_all N) mixed trivial (fun z E Xc hE hX hret => trivial) (fun p => everyl_eq N p.1.1)

def shows_l3 (N : Nat) : Nat → Int → Int → (List (List (List Int))) → Int → Int → (List (List Int)) → Int → Int → (List Int) → Int → Int → (((List (List Int)) × ((List Int) × (Int × ((List Int) × (List Int)))))) → (List Int) → Option ((Unit) ⊕ (Int × List (List (List Int)) × Int × Int × List (List Int) × Int × Int × ((List (List Int)) × ((List Int) × (Int × ((List Int) × (List Int))))) × List Int))
  | 0, _, _, _, _, _, _, _, _, _, _, _, _, _ => none
  | n_ + 1, i, a, u, u2, u3, u4, u5, u6, u7, u8, u9, d, g =>
    br (decide (u9 < u8))
      (idx u7 u9 fun x_7 =>
      rng i 11 <|
      rng a 7 <|
      rng u9 7 <|
      get g (((i.toNat * 49) + a.toNat * 7) + u9.toNat) fun _ =>
      (bound_S N d i a u9 (g.set (((i.toNat * 49) + a.toNat * 7) + u9.toNat) x_7)).bind fun (x_9, y_10) =>
      br (decide (x_9 < x_7))
        (some (.inl ()))
        (chk (u9 + 1) <|
        shows_l3 N n_ i a u u2 u3 u4 u5 u6 u7 u8 (u9 + 1) d y_10))
      (some (.inr (i, u, u2, u3, u4, u5, u6, d, g)))
def shows_l2 (N : Nat) : Nat → Int → (List (List (List Int))) → Int → Int → (List (List Int)) → Int → Int → (((List (List Int)) × ((List Int) × (Int × ((List Int) × (List Int)))))) → (List Int) → Option ((Unit) ⊕ (List (List (List Int)) × Int × Int × ((List (List Int)) × ((List Int) × (Int × ((List Int) × (List Int))))) × List Int))
  | 0, _, _, _, _, _, _, _, _, _ => none
  | n_ + 1, i, u, u2, u3, u4, u5, u6, d, g =>
    br (decide (u6 < u5))
      (idx u4 u6 fun x_6 =>
      (shows_l3 N N i u6 u u2 u3 u4 u5 u6 x_6 (x_6.length : Int) 0 d g).bind fun e => match e with
      | .inl _ =>
        some (.inl ())
      | .inr (i_11, u_12, u2_13, u3_14, u4_15, u5_16, u6_17, d_18, g_19) =>
        chk (u6_17 + 1) <|
        shows_l2 N n_ i_11 u_12 u2_13 u3_14 u4_15 u5_16 (u6_17 + 1) d_18 g_19)
      (some (.inr (u, u2, u3, d, g)))
def shows_l1 (N : Nat) : Nat → (List (List (List Int))) → Int → Int → (((List (List Int)) × ((List Int) × (Int × ((List Int) × (List Int)))))) → (List Int) → Option ((Unit) ⊕ (((List (List Int)) × ((List Int) × (Int × ((List Int) × (List Int))))) × List Int))
  | 0, _, _, _, _, _ => none
  | n_ + 1, u, u2, u3, d, g =>
    br (decide (u3 < u2))
      (idx u u3 fun x_5 =>
      (shows_l2 N N u3 u u2 u3 x_5 (x_5.length : Int) 0 d g).bind fun e => match e with
      | .inl _ =>
        some (.inl ())
      | .inr (u_20, u2_21, u3_22, d_23, g_24) =>
        chk (u3_22 + 1) <|
        shows_l1 N n_ u_20 u2_21 (u3_22 + 1) d_23 g_24)
      (some (.inr (d, g)))
def shows_S (N : Nat) (e : List (List Int)) (e2 : List Int) (e3 : Int) (p : Int) (p2 : Int) (marks : List (List (List Int))) : Option (Int × Int) :=
  ((opened_S N e e2 e3 p p2).bind fun e => match e with
  | .inl (x_1, y_2) =>
    (br (!decide (y_2 = 0))
      (some (0, y_2))
      (chk ((x_1.2.1.length : Int) + 1) <|
      br (!decide ((marks.length : Int) = ((x_1.2.1.length : Int) + 1)))
        (some (0, 2))
        ((everyh_S N marks x_1).bind fun x_3 =>
        br (!x_3)
          (some (0, 2))
          ((everyl_S N marks).bind fun x_4 =>
          br (!x_4)
            (some (0, 3))
            ((shows_l1 N N marks (marks.length : Int) 0 x_1 (List.replicate 539 (0 : Int))).bind fun e => match e with
            | .inl _ =>
              some (0, 8)
            | .inr (d_25, g_26) =>
              rng (d_25.2.1.length : Int) 11 <|
              rng (d_25.2.2.2.1.length : Int) 7 <|
              rng (d_25.2.2.2.2.length : Int) 7 <|
              get g_26 ((((d_25.2.1.length : Int).toNat * 49) + (d_25.2.2.2.1.length : Int).toNat * 7) + (d_25.2.2.2.2.length : Int).toNat) fun x_27 =>
              some (x_27, 0))))))
  | .inr x_28 =>
    (br (!decide (x_28 = 0))
      (some (0, x_28))
      (none)))
noncomputable def shows_sp (N : Nat) : List Spec := [sp_opened N, sp_bound N, sp_everyh N, sp_everyl N]
theorem shows_all (N : Nat) : AllP (SpecOK Try.prog) (shows_sp N) := ⟨sp_opened_ok N, sp_bound_ok N, sp_everyh_ok N, sp_everyl_ok N, trivial⟩
noncomputable def shows_c : Code := (Try.f65.body).getD .skip
noncomputable abbrev shows_B : Body := { c := shows_c, n := 106, res := [.tmp 6, .tmp 7], outs := [⟨[.i .i64, .i .i64], []⟩], m0 := 0 }
abbrev shows_rt : altD shows_B.outs → Option (Int × Int) := fun r => some (r.1.1, r.1.2.1)
abbrev shows_l3_at : List PI := [.c [1, 1, 1, 1, 0, 1, 0, 0, 1, 1, 0, 0, 1, 1, 0, 0, 1, 1, 0, 0, 1, 1, 0, 0, 0], .c [1, 1, 1, 1, 0, 1, 0, 0, 1, 1, 0, 0, 1, 1, 0, 0, 1, 1, 0, 0, 1, 1, 0, 0, 1], .l [1, 1, 1, 1, 0, 1, 0, 0, 1, 1, 0, 0, 1, 1, 0, 0, 1, 1, 0, 0, 1, 1, 0, 0], .b 5, .b 4, .c [1, 1, 1, 1, 0, 1, 0, 0, 1, 1, 0, 0, 1, 1, 0, 0, 1, 1, 1], .l [1, 1, 1, 1, 0, 1, 0, 0, 1, 1, 0, 0, 1, 1, 0, 0], .b 3, .b 2, .c [1, 1, 1, 1, 0, 1, 0, 0, 1, 1, 1], .l [1, 1, 1, 1, 0, 1, 0, 0], .b 1, .c [1, 1, 1, 1, 1]]
abbrev shows_l3_st : Sta := ⟨[8, 10, 11, 13, 48, 49, 50, 55, 56, 57, 62, 63, 64], ⟨[.own 0 0, .own 1 0, .i .i64, .i .i64, .sl (.sl (.sl (.int .i64))), .i .i64, .i .i64, .sl (.sl (.int .i64)), .i .i64, .i .i64, .sl (.int .i64), .i .i64, .i .i64], [.segs [.fe (.pair (.sl (.sl (.int .i64))) (.pair (.sl (.int .i64)) (.pair (.int .i64) (.pair (.sl (.int .i64)) (.sl (.int .i64))))))], .segs [.arr (.int .i64) 539]]⟩⟩
abbrev shows_l3_h (rec : Int → Int → (List (List (List Int))) → Int → Int → (List (List Int)) → Int → Int → (List Int) → Int → Int → (((List (List Int)) × ((List Int) × (Int × ((List Int) × (List Int)))))) → (List Int) → Option ((Unit) ⊕ (Int × List (List (List Int)) × Int × Int × List (List Int) × Int × Int × ((List (List Int)) × ((List Int) × (Int × ((List Int) × (List Int))))) × List Int))) : Leaf ((Unit) ⊕ (Int × List (List (List Int)) × Int × Int × List (List Int) × Int × Int × ((List (List Int)) × ((List Int) × (Int × ((List Int) × (List Int))))) × List Int)) := ⟨shows_l3_at, shows_l3_st, fun p => rec p.1.2.2.1 p.1.2.2.2.1 p.1.2.2.2.2.1 p.1.2.2.2.2.2.1 p.1.2.2.2.2.2.2.1 p.1.2.2.2.2.2.2.2.1 p.1.2.2.2.2.2.2.2.2.1 p.1.2.2.2.2.2.2.2.2.2.1 p.1.2.2.2.2.2.2.2.2.2.2.1 p.1.2.2.2.2.2.2.2.2.2.2.2.1 p.1.2.2.2.2.2.2.2.2.2.2.2.2.1 p.2.1.1 p.2.2.1.1⟩
abbrev shows_l3_e0 : Leaf ((Unit) ⊕ (Int × List (List (List Int)) × Int × Int × List (List Int) × Int × Int × ((List (List Int)) × ((List Int) × (Int × ((List Int) × (List Int))))) × List Int)) := ⟨[.c [1, 1, 1, 1, 0, 1, 0, 0, 1, 1, 0, 0, 1, 1, 0, 0, 1, 1, 0, 0, 1, 1, 0, 0, 1, 1, 0, 0, 1, 1, 1, 0, 0], .c [1, 1, 1, 1, 0, 1, 0, 0, 1, 1, 0, 0, 1, 1, 0, 0, 1, 1, 0, 0, 1, 1, 0, 0, 1, 1, 0, 0, 1, 1, 1, 0, 1], .b 6, .c [1, 1, 1, 1, 0, 1, 0, 0, 1, 1, 0, 0, 1, 1, 0, 0, 1, 1, 0, 0, 1, 1, 0, 0, 1, 1, 1], .l [1, 1, 1, 1, 0, 1, 0, 0, 1, 1, 0, 0, 1, 1, 0, 0, 1, 1, 0, 0, 1, 1, 0, 0], .b 5, .b 4, .c [1, 1, 1, 1, 0, 1, 0, 0, 1, 1, 0, 0, 1, 1, 0, 0, 1, 1, 1], .l [1, 1, 1, 1, 0, 1, 0, 0, 1, 1, 0, 0, 1, 1, 0, 0], .b 3, .b 2, .c [1, 1, 1, 1, 0, 1, 0, 0, 1, 1, 1], .l [1, 1, 1, 1, 0, 1, 0, 0], .b 1, .c [1, 1, 1, 1, 1]], ⟨[], ⟨[], []⟩⟩, fun p => some (.inl ())⟩
abbrev shows_l3_e1 : Leaf ((Unit) ⊕ (Int × List (List (List Int)) × Int × Int × List (List Int) × Int × Int × ((List (List Int)) × ((List Int) × (Int × ((List Int) × (List Int))))) × List Int)) := ⟨[.c [1, 1, 1, 1, 0, 1, 0, 0, 1, 1, 0, 0, 1, 1, 0, 0, 1, 1, 1], .l [1, 1, 1, 1, 0, 1, 0, 0, 1, 1, 0, 0, 1, 1, 0, 0], .b 3, .b 2, .c [1, 1, 1, 1, 0, 1, 0, 0, 1, 1, 1], .l [1, 1, 1, 1, 0, 1, 0, 0], .b 1, .c [1, 1, 1, 1, 1]], ⟨[8, 10, 11, 48, 49, 50, 55, 56, 57], ⟨[.own 0 0, .own 1 0, .i .i64, .sl (.sl (.sl (.int .i64))), .i .i64, .i .i64, .sl (.sl (.int .i64)), .i .i64, .i .i64], [.segs [.fe (.pair (.sl (.sl (.int .i64))) (.pair (.sl (.int .i64)) (.pair (.int .i64) (.pair (.sl (.int .i64)) (.sl (.int .i64))))))], .segs [.arr (.int .i64) 539]]⟩⟩, fun p => some (.inr (p.1.2.2.1, p.1.2.2.2.1, p.1.2.2.2.2.1, p.1.2.2.2.2.2.1, p.1.2.2.2.2.2.2.1, p.1.2.2.2.2.2.2.2.1, p.1.2.2.2.2.2.2.2.2.1, p.2.1.1, p.2.2.1.1))⟩
noncomputable def shows_l3_L (N : Nat) : LoopS := { at_ := shows_l3_at, sta := shows_l3_st, exits := [([.c [1, 1, 1, 1, 0, 1, 0, 0, 1, 1, 0, 0, 1, 1, 0, 0, 1, 1, 0, 0, 1, 1, 0, 0, 1, 1, 0, 0, 1, 1, 1, 0, 0], .c [1, 1, 1, 1, 0, 1, 0, 0, 1, 1, 0, 0, 1, 1, 0, 0, 1, 1, 0, 0, 1, 1, 0, 0, 1, 1, 0, 0, 1, 1, 1, 0, 1], .b 6, .c [1, 1, 1, 1, 0, 1, 0, 0, 1, 1, 0, 0, 1, 1, 0, 0, 1, 1, 0, 0, 1, 1, 0, 0, 1, 1, 1], .l [1, 1, 1, 1, 0, 1, 0, 0, 1, 1, 0, 0, 1, 1, 0, 0, 1, 1, 0, 0, 1, 1, 0, 0], .b 5, .b 4, .c [1, 1, 1, 1, 0, 1, 0, 0, 1, 1, 0, 0, 1, 1, 0, 0, 1, 1, 1], .l [1, 1, 1, 1, 0, 1, 0, 0, 1, 1, 0, 0, 1, 1, 0, 0], .b 3, .b 2, .c [1, 1, 1, 1, 0, 1, 0, 0, 1, 1, 1], .l [1, 1, 1, 1, 0, 1, 0, 0], .b 1, .c [1, 1, 1, 1, 1]], ⟨[], ⟨[], []⟩⟩), ([.c [1, 1, 1, 1, 0, 1, 0, 0, 1, 1, 0, 0, 1, 1, 0, 0, 1, 1, 1], .l [1, 1, 1, 1, 0, 1, 0, 0, 1, 1, 0, 0, 1, 1, 0, 0], .b 3, .b 2, .c [1, 1, 1, 1, 0, 1, 0, 0, 1, 1, 1], .l [1, 1, 1, 1, 0, 1, 0, 0], .b 1, .c [1, 1, 1, 1, 1]], ⟨[8, 10, 11, 48, 49, 50, 55, 56, 57], ⟨[.own 0 0, .own 1 0, .i .i64, .sl (.sl (.sl (.int .i64))), .i .i64, .i .i64, .sl (.sl (.int .i64)), .i .i64, .i .i64], [.segs [.fe (.pair (.sl (.sl (.int .i64))) (.pair (.sl (.int .i64)) (.pair (.int .i64) (.pair (.sl (.int .i64)) (.sl (.int .i64))))))], .segs [.arr (.int .i64) 539]]⟩⟩)], run := fun p k => (shows_l3 N N p.1.2.2.1 p.1.2.2.2.1 p.1.2.2.2.2.1 p.1.2.2.2.2.2.1 p.1.2.2.2.2.2.2.1 p.1.2.2.2.2.2.2.2.1 p.1.2.2.2.2.2.2.2.2.1 p.1.2.2.2.2.2.2.2.2.2.1 p.1.2.2.2.2.2.2.2.2.2.2.1 p.1.2.2.2.2.2.2.2.2.2.2.2.1 p.1.2.2.2.2.2.2.2.2.2.2.2.2.1 p.2.1.1 p.2.2.1.1).bind fun e => match e with | .inl x => k (.inl ((), ())) | .inr x => k (.inr (.inl (((), (), x.1, x.2.1, x.2.2.1, x.2.2.2.1, x.2.2.2.2.1, x.2.2.2.2.2.1, x.2.2.2.2.2.2.1, ()), ((x.2.2.2.2.2.2.2.1, ()), (x.2.2.2.2.2.2.2.2, ()), ())))) }
theorem shows_l3_eq (N n_ : Nat) (i : Int) (a : Int) (u : List (List (List Int))) (u2 : Int) (u3 : Int) (u4 : List (List Int)) (u5 : Int) (u6 : Int) (u7 : List Int) (u8 : Int) (u9 : Int) (d : ((List (List Int)) × ((List Int) × (Int × ((List Int) × (List Int)))))) (g : List Int) : ev (Z := (Unit) ⊕ (Int × List (List (List Int)) × Int × Int × List (List Int) × Int × Int × ((List (List Int)) × ((List Int) × (Int × ((List Int) × (List Int))))) × List Int)) Try.prog (shows_sp N) shows_B [] [shows_l3_h (shows_l3 N n_), shows_l3_e0, shows_l3_e1] none 400 true shows_l3_at (stL shows_l3_st (((), (), i, a, u, u2, u3, u4, u5, u6, u7, u8, u9, ()), ((d, ()), (g, ()), ()))) (stH shows_l3_st (((), (), i, a, u, u2, u3, u4, u5, u6, u7, u8, u9, ()), ((d, ()), (g, ()), ()))) = shows_l3 N (n_ + 1) i a u u2 u3 u4 u5 u6 u7 u8 u9 d g := by kernel_rfl
theorem shows_l3_ok (N : Nat) {top : Bool} : LoopOK Try.prog shows_B.c shows_B.n shows_B.m0 top (shows_l3_L N) := loop_of_ev (Z := (Unit) ⊕ (Int × List (List (List Int)) × Int × Int × List (List Int) × Int × Int × ((List (List Int)) × ((List Int) × (Int × ((List Int) × (List Int))))) × List Int)) (N := N) (fun m p => shows_l3 N m p.1.2.2.1 p.1.2.2.2.1 p.1.2.2.2.2.1 p.1.2.2.2.2.2.1 p.1.2.2.2.2.2.2.1 p.1.2.2.2.2.2.2.2.1 p.1.2.2.2.2.2.2.2.2.1 p.1.2.2.2.2.2.2.2.2.2.1 p.1.2.2.2.2.2.2.2.2.2.2.1 p.1.2.2.2.2.2.2.2.2.2.2.2.1 p.1.2.2.2.2.2.2.2.2.2.2.2.2.1 p.2.1.1 p.2.2.1.1) (fun e => match e with | .inl x => .inl ((), ()) | .inr x => .inr (.inl (((), (), x.1, x.2.1, x.2.2.1, x.2.2.2.1, x.2.2.2.2.1, x.2.2.2.2.2.1, x.2.2.2.2.2.2.1, ()), ((x.2.2.2.2.2.2.2.1, ()), (x.2.2.2.2.2.2.2.2, ()), ())))) (fun _ p k => bind_congr_ (shows_l3 N N p.1.2.2.1 p.1.2.2.2.1 p.1.2.2.2.2.1 p.1.2.2.2.2.2.1 p.1.2.2.2.2.2.2.1 p.1.2.2.2.2.2.2.2.1 p.1.2.2.2.2.2.2.2.2.1 p.1.2.2.2.2.2.2.2.2.2.1 p.1.2.2.2.2.2.2.2.2.2.2.1 p.1.2.2.2.2.2.2.2.2.2.2.2.1 p.1.2.2.2.2.2.2.2.2.2.2.2.2.1 p.2.1.1 p.2.2.1.1) _ _ (fun e => by rcases e with x | x <;> rfl)) (fun _ => rfl) (fun m z E Xc hE hX hrec hx => leaf_of_ev (B := shows_B) (loops := []) (leaves := [shows_l3_h (shows_l3 N m), shows_l3_e0, shows_l3_e1]) (shows_all N) mixed trivial hE hX ⟨hrec, (fun p hp => by obtain rfl := Option.some.inj hp; exact hx), (fun p hp => by obtain rfl := Option.some.inj hp; exact hx), trivial⟩ RetOK.no (fun p => shows_l3_eq N m p.1.2.2.1 p.1.2.2.2.1 p.1.2.2.2.2.1 p.1.2.2.2.2.2.1 p.1.2.2.2.2.2.2.1 p.1.2.2.2.2.2.2.2.1 p.1.2.2.2.2.2.2.2.2.1 p.1.2.2.2.2.2.2.2.2.2.1 p.1.2.2.2.2.2.2.2.2.2.2.1 p.1.2.2.2.2.2.2.2.2.2.2.2.1 p.1.2.2.2.2.2.2.2.2.2.2.2.2.1 p.2.1.1 p.2.2.1.1))
abbrev shows_l2_at : List PI := [.c [1, 1, 1, 1, 0, 1, 0, 0, 1, 1, 0, 0, 1, 1, 0, 0, 0], .c [1, 1, 1, 1, 0, 1, 0, 0, 1, 1, 0, 0, 1, 1, 0, 0, 1], .l [1, 1, 1, 1, 0, 1, 0, 0, 1, 1, 0, 0, 1, 1, 0, 0], .b 3, .b 2, .c [1, 1, 1, 1, 0, 1, 0, 0, 1, 1, 1], .l [1, 1, 1, 1, 0, 1, 0, 0], .b 1, .c [1, 1, 1, 1, 1]]
abbrev shows_l2_st : Sta := ⟨[8, 10, 11, 48, 49, 50, 55, 56, 57], ⟨[.own 0 0, .own 1 0, .i .i64, .sl (.sl (.sl (.int .i64))), .i .i64, .i .i64, .sl (.sl (.int .i64)), .i .i64, .i .i64], [.segs [.fe (.pair (.sl (.sl (.int .i64))) (.pair (.sl (.int .i64)) (.pair (.int .i64) (.pair (.sl (.int .i64)) (.sl (.int .i64))))))], .segs [.arr (.int .i64) 539]]⟩⟩
abbrev shows_l2_h (rec : Int → (List (List (List Int))) → Int → Int → (List (List Int)) → Int → Int → (((List (List Int)) × ((List Int) × (Int × ((List Int) × (List Int)))))) → (List Int) → Option ((Unit) ⊕ (List (List (List Int)) × Int × Int × ((List (List Int)) × ((List Int) × (Int × ((List Int) × (List Int))))) × List Int))) : Leaf ((Unit) ⊕ (List (List (List Int)) × Int × Int × ((List (List Int)) × ((List Int) × (Int × ((List Int) × (List Int))))) × List Int)) := ⟨shows_l2_at, shows_l2_st, fun p => rec p.1.2.2.1 p.1.2.2.2.1 p.1.2.2.2.2.1 p.1.2.2.2.2.2.1 p.1.2.2.2.2.2.2.1 p.1.2.2.2.2.2.2.2.1 p.1.2.2.2.2.2.2.2.2.1 p.2.1.1 p.2.2.1.1⟩
abbrev shows_l2_e0 : Leaf ((Unit) ⊕ (List (List (List Int)) × Int × Int × ((List (List Int)) × ((List Int) × (Int × ((List Int) × (List Int))))) × List Int)) := ⟨[.c [1, 1, 1, 1, 0, 1, 0, 0, 1, 1, 0, 0, 1, 1, 0, 0, 1, 1, 0, 0, 1, 1, 0, 0, 1, 1, 0, 0, 1, 1, 1, 0, 0], .c [1, 1, 1, 1, 0, 1, 0, 0, 1, 1, 0, 0, 1, 1, 0, 0, 1, 1, 0, 0, 1, 1, 0, 0, 1, 1, 0, 0, 1, 1, 1, 0, 1], .b 6, .c [1, 1, 1, 1, 0, 1, 0, 0, 1, 1, 0, 0, 1, 1, 0, 0, 1, 1, 0, 0, 1, 1, 0, 0, 1, 1, 1], .l [1, 1, 1, 1, 0, 1, 0, 0, 1, 1, 0, 0, 1, 1, 0, 0, 1, 1, 0, 0, 1, 1, 0, 0], .b 5, .b 4, .c [1, 1, 1, 1, 0, 1, 0, 0, 1, 1, 0, 0, 1, 1, 0, 0, 1, 1, 1], .l [1, 1, 1, 1, 0, 1, 0, 0, 1, 1, 0, 0, 1, 1, 0, 0], .b 3, .b 2, .c [1, 1, 1, 1, 0, 1, 0, 0, 1, 1, 1], .l [1, 1, 1, 1, 0, 1, 0, 0], .b 1, .c [1, 1, 1, 1, 1]], ⟨[], ⟨[], []⟩⟩, fun p => some (.inl ())⟩
abbrev shows_l2_e1 : Leaf ((Unit) ⊕ (List (List (List Int)) × Int × Int × ((List (List Int)) × ((List Int) × (Int × ((List Int) × (List Int))))) × List Int)) := ⟨[.c [1, 1, 1, 1, 0, 1, 0, 0, 1, 1, 1], .l [1, 1, 1, 1, 0, 1, 0, 0], .b 1, .c [1, 1, 1, 1, 1]], ⟨[8, 10, 48, 49, 50], ⟨[.own 0 0, .own 1 0, .sl (.sl (.sl (.int .i64))), .i .i64, .i .i64], [.segs [.fe (.pair (.sl (.sl (.int .i64))) (.pair (.sl (.int .i64)) (.pair (.int .i64) (.pair (.sl (.int .i64)) (.sl (.int .i64))))))], .segs [.arr (.int .i64) 539]]⟩⟩, fun p => some (.inr (p.1.2.2.1, p.1.2.2.2.1, p.1.2.2.2.2.1, p.2.1.1, p.2.2.1.1))⟩
noncomputable def shows_l2_L (N : Nat) : LoopS := { at_ := shows_l2_at, sta := shows_l2_st, exits := [([.c [1, 1, 1, 1, 0, 1, 0, 0, 1, 1, 0, 0, 1, 1, 0, 0, 1, 1, 0, 0, 1, 1, 0, 0, 1, 1, 0, 0, 1, 1, 1, 0, 0], .c [1, 1, 1, 1, 0, 1, 0, 0, 1, 1, 0, 0, 1, 1, 0, 0, 1, 1, 0, 0, 1, 1, 0, 0, 1, 1, 0, 0, 1, 1, 1, 0, 1], .b 6, .c [1, 1, 1, 1, 0, 1, 0, 0, 1, 1, 0, 0, 1, 1, 0, 0, 1, 1, 0, 0, 1, 1, 0, 0, 1, 1, 1], .l [1, 1, 1, 1, 0, 1, 0, 0, 1, 1, 0, 0, 1, 1, 0, 0, 1, 1, 0, 0, 1, 1, 0, 0], .b 5, .b 4, .c [1, 1, 1, 1, 0, 1, 0, 0, 1, 1, 0, 0, 1, 1, 0, 0, 1, 1, 1], .l [1, 1, 1, 1, 0, 1, 0, 0, 1, 1, 0, 0, 1, 1, 0, 0], .b 3, .b 2, .c [1, 1, 1, 1, 0, 1, 0, 0, 1, 1, 1], .l [1, 1, 1, 1, 0, 1, 0, 0], .b 1, .c [1, 1, 1, 1, 1]], ⟨[], ⟨[], []⟩⟩), ([.c [1, 1, 1, 1, 0, 1, 0, 0, 1, 1, 1], .l [1, 1, 1, 1, 0, 1, 0, 0], .b 1, .c [1, 1, 1, 1, 1]], ⟨[8, 10, 48, 49, 50], ⟨[.own 0 0, .own 1 0, .sl (.sl (.sl (.int .i64))), .i .i64, .i .i64], [.segs [.fe (.pair (.sl (.sl (.int .i64))) (.pair (.sl (.int .i64)) (.pair (.int .i64) (.pair (.sl (.int .i64)) (.sl (.int .i64))))))], .segs [.arr (.int .i64) 539]]⟩⟩)], run := fun p k => (shows_l2 N N p.1.2.2.1 p.1.2.2.2.1 p.1.2.2.2.2.1 p.1.2.2.2.2.2.1 p.1.2.2.2.2.2.2.1 p.1.2.2.2.2.2.2.2.1 p.1.2.2.2.2.2.2.2.2.1 p.2.1.1 p.2.2.1.1).bind fun e => match e with | .inl x => k (.inl ((), ())) | .inr x => k (.inr (.inl (((), (), x.1, x.2.1, x.2.2.1, ()), ((x.2.2.2.1, ()), (x.2.2.2.2, ()), ())))) }
theorem shows_l2_eq (N n_ : Nat) (i : Int) (u : List (List (List Int))) (u2 : Int) (u3 : Int) (u4 : List (List Int)) (u5 : Int) (u6 : Int) (d : ((List (List Int)) × ((List Int) × (Int × ((List Int) × (List Int)))))) (g : List Int) : ev (Z := (Unit) ⊕ (List (List (List Int)) × Int × Int × ((List (List Int)) × ((List Int) × (Int × ((List Int) × (List Int))))) × List Int)) Try.prog (shows_sp N) shows_B [shows_l3_L N] [shows_l2_h (shows_l2 N n_), shows_l2_e0, shows_l2_e1] none 400 true shows_l2_at (stL shows_l2_st (((), (), i, u, u2, u3, u4, u5, u6, ()), ((d, ()), (g, ()), ()))) (stH shows_l2_st (((), (), i, u, u2, u3, u4, u5, u6, ()), ((d, ()), (g, ()), ()))) = shows_l2 N (n_ + 1) i u u2 u3 u4 u5 u6 d g := by kernel_rfl
theorem shows_l2_ok (N : Nat) {top : Bool} : LoopOK Try.prog shows_B.c shows_B.n shows_B.m0 top (shows_l2_L N) := loop_of_ev (Z := (Unit) ⊕ (List (List (List Int)) × Int × Int × ((List (List Int)) × ((List Int) × (Int × ((List Int) × (List Int))))) × List Int)) (N := N) (fun m p => shows_l2 N m p.1.2.2.1 p.1.2.2.2.1 p.1.2.2.2.2.1 p.1.2.2.2.2.2.1 p.1.2.2.2.2.2.2.1 p.1.2.2.2.2.2.2.2.1 p.1.2.2.2.2.2.2.2.2.1 p.2.1.1 p.2.2.1.1) (fun e => match e with | .inl x => .inl ((), ()) | .inr x => .inr (.inl (((), (), x.1, x.2.1, x.2.2.1, ()), ((x.2.2.2.1, ()), (x.2.2.2.2, ()), ())))) (fun _ p k => bind_congr_ (shows_l2 N N p.1.2.2.1 p.1.2.2.2.1 p.1.2.2.2.2.1 p.1.2.2.2.2.2.1 p.1.2.2.2.2.2.2.1 p.1.2.2.2.2.2.2.2.1 p.1.2.2.2.2.2.2.2.2.1 p.2.1.1 p.2.2.1.1) _ _ (fun e => by rcases e with x | x <;> rfl)) (fun _ => rfl) (fun m z E Xc hE hX hrec hx => leaf_of_ev (B := shows_B) (loops := [shows_l3_L N]) (leaves := [shows_l2_h (shows_l2 N m), shows_l2_e0, shows_l2_e1]) (shows_all N) mixed ⟨shows_l3_ok N, trivial⟩ hE hX ⟨hrec, (fun p hp => by obtain rfl := Option.some.inj hp; exact hx), (fun p hp => by obtain rfl := Option.some.inj hp; exact hx), trivial⟩ RetOK.no (fun p => shows_l2_eq N m p.1.2.2.1 p.1.2.2.2.1 p.1.2.2.2.2.1 p.1.2.2.2.2.2.1 p.1.2.2.2.2.2.2.1 p.1.2.2.2.2.2.2.2.1 p.1.2.2.2.2.2.2.2.2.1 p.2.1.1 p.2.2.1.1))
abbrev shows_l1_at : List PI := [.c [1, 1, 1, 1, 0, 1, 0, 0, 0], .c [1, 1, 1, 1, 0, 1, 0, 0, 1], .l [1, 1, 1, 1, 0, 1, 0, 0], .b 1, .c [1, 1, 1, 1, 1]]
abbrev shows_l1_st : Sta := ⟨[8, 10, 48, 49, 50], ⟨[.own 0 0, .own 1 0, .sl (.sl (.sl (.int .i64))), .i .i64, .i .i64], [.segs [.fe (.pair (.sl (.sl (.int .i64))) (.pair (.sl (.int .i64)) (.pair (.int .i64) (.pair (.sl (.int .i64)) (.sl (.int .i64))))))], .segs [.arr (.int .i64) 539]]⟩⟩
abbrev shows_l1_h (rec : (List (List (List Int))) → Int → Int → (((List (List Int)) × ((List Int) × (Int × ((List Int) × (List Int)))))) → (List Int) → Option ((Unit) ⊕ (((List (List Int)) × ((List Int) × (Int × ((List Int) × (List Int))))) × List Int))) : Leaf ((Unit) ⊕ (((List (List Int)) × ((List Int) × (Int × ((List Int) × (List Int))))) × List Int)) := ⟨shows_l1_at, shows_l1_st, fun p => rec p.1.2.2.1 p.1.2.2.2.1 p.1.2.2.2.2.1 p.2.1.1 p.2.2.1.1⟩
abbrev shows_l1_e0 : Leaf ((Unit) ⊕ (((List (List Int)) × ((List Int) × (Int × ((List Int) × (List Int))))) × List Int)) := ⟨[.c [1, 1, 1, 1, 0, 1, 0, 0, 1, 1, 0, 0, 1, 1, 0, 0, 1, 1, 0, 0, 1, 1, 0, 0, 1, 1, 0, 0, 1, 1, 1, 0, 0], .c [1, 1, 1, 1, 0, 1, 0, 0, 1, 1, 0, 0, 1, 1, 0, 0, 1, 1, 0, 0, 1, 1, 0, 0, 1, 1, 0, 0, 1, 1, 1, 0, 1], .b 6, .c [1, 1, 1, 1, 0, 1, 0, 0, 1, 1, 0, 0, 1, 1, 0, 0, 1, 1, 0, 0, 1, 1, 0, 0, 1, 1, 1], .l [1, 1, 1, 1, 0, 1, 0, 0, 1, 1, 0, 0, 1, 1, 0, 0, 1, 1, 0, 0, 1, 1, 0, 0], .b 5, .b 4, .c [1, 1, 1, 1, 0, 1, 0, 0, 1, 1, 0, 0, 1, 1, 0, 0, 1, 1, 1], .l [1, 1, 1, 1, 0, 1, 0, 0, 1, 1, 0, 0, 1, 1, 0, 0], .b 3, .b 2, .c [1, 1, 1, 1, 0, 1, 0, 0, 1, 1, 1], .l [1, 1, 1, 1, 0, 1, 0, 0], .b 1, .c [1, 1, 1, 1, 1]], ⟨[], ⟨[], []⟩⟩, fun p => some (.inl ())⟩
abbrev shows_l1_e1 : Leaf ((Unit) ⊕ (((List (List Int)) × ((List Int) × (Int × ((List Int) × (List Int))))) × List Int)) := ⟨[.c [1, 1, 1, 1, 1, 0], .c [1, 1, 1, 1, 1, 1]], ⟨[8, 10], ⟨[.own 0 0, .own 1 0], [.segs [.fe (.pair (.sl (.sl (.int .i64))) (.pair (.sl (.int .i64)) (.pair (.int .i64) (.pair (.sl (.int .i64)) (.sl (.int .i64))))))], .segs [.arr (.int .i64) 539]]⟩⟩, fun p => some (.inr (p.2.1.1, p.2.2.1.1))⟩
noncomputable def shows_l1_L (N : Nat) : LoopS := { at_ := shows_l1_at, sta := shows_l1_st, exits := [([.c [1, 1, 1, 1, 0, 1, 0, 0, 1, 1, 0, 0, 1, 1, 0, 0, 1, 1, 0, 0, 1, 1, 0, 0, 1, 1, 0, 0, 1, 1, 1, 0, 0], .c [1, 1, 1, 1, 0, 1, 0, 0, 1, 1, 0, 0, 1, 1, 0, 0, 1, 1, 0, 0, 1, 1, 0, 0, 1, 1, 0, 0, 1, 1, 1, 0, 1], .b 6, .c [1, 1, 1, 1, 0, 1, 0, 0, 1, 1, 0, 0, 1, 1, 0, 0, 1, 1, 0, 0, 1, 1, 0, 0, 1, 1, 1], .l [1, 1, 1, 1, 0, 1, 0, 0, 1, 1, 0, 0, 1, 1, 0, 0, 1, 1, 0, 0, 1, 1, 0, 0], .b 5, .b 4, .c [1, 1, 1, 1, 0, 1, 0, 0, 1, 1, 0, 0, 1, 1, 0, 0, 1, 1, 1], .l [1, 1, 1, 1, 0, 1, 0, 0, 1, 1, 0, 0, 1, 1, 0, 0], .b 3, .b 2, .c [1, 1, 1, 1, 0, 1, 0, 0, 1, 1, 1], .l [1, 1, 1, 1, 0, 1, 0, 0], .b 1, .c [1, 1, 1, 1, 1]], ⟨[], ⟨[], []⟩⟩), ([.c [1, 1, 1, 1, 1, 0], .c [1, 1, 1, 1, 1, 1]], ⟨[8, 10], ⟨[.own 0 0, .own 1 0], [.segs [.fe (.pair (.sl (.sl (.int .i64))) (.pair (.sl (.int .i64)) (.pair (.int .i64) (.pair (.sl (.int .i64)) (.sl (.int .i64))))))], .segs [.arr (.int .i64) 539]]⟩⟩)], run := fun p k => (shows_l1 N N p.1.2.2.1 p.1.2.2.2.1 p.1.2.2.2.2.1 p.2.1.1 p.2.2.1.1).bind fun e => match e with | .inl x => k (.inl ((), ())) | .inr x => k (.inr (.inl (((), (), ()), ((x.1, ()), (x.2, ()), ())))) }
theorem shows_l1_eq (N n_ : Nat) (u : List (List (List Int))) (u2 : Int) (u3 : Int) (d : ((List (List Int)) × ((List Int) × (Int × ((List Int) × (List Int)))))) (g : List Int) : ev (Z := (Unit) ⊕ (((List (List Int)) × ((List Int) × (Int × ((List Int) × (List Int))))) × List Int)) Try.prog (shows_sp N) shows_B [shows_l3_L N, shows_l2_L N] [shows_l1_h (shows_l1 N n_), shows_l1_e0, shows_l1_e1] none 400 true shows_l1_at (stL shows_l1_st (((), (), u, u2, u3, ()), ((d, ()), (g, ()), ()))) (stH shows_l1_st (((), (), u, u2, u3, ()), ((d, ()), (g, ()), ()))) = shows_l1 N (n_ + 1) u u2 u3 d g := by kernel_rfl
theorem shows_l1_ok (N : Nat) {top : Bool} : LoopOK Try.prog shows_B.c shows_B.n shows_B.m0 top (shows_l1_L N) := loop_of_ev (Z := (Unit) ⊕ (((List (List Int)) × ((List Int) × (Int × ((List Int) × (List Int))))) × List Int)) (N := N) (fun m p => shows_l1 N m p.1.2.2.1 p.1.2.2.2.1 p.1.2.2.2.2.1 p.2.1.1 p.2.2.1.1) (fun e => match e with | .inl x => .inl ((), ()) | .inr x => .inr (.inl (((), (), ()), ((x.1, ()), (x.2, ()), ())))) (fun _ p k => bind_congr_ (shows_l1 N N p.1.2.2.1 p.1.2.2.2.1 p.1.2.2.2.2.1 p.2.1.1 p.2.2.1.1) _ _ (fun e => by rcases e with x | x <;> rfl)) (fun _ => rfl) (fun m z E Xc hE hX hrec hx => leaf_of_ev (B := shows_B) (loops := [shows_l3_L N, shows_l2_L N]) (leaves := [shows_l1_h (shows_l1 N m), shows_l1_e0, shows_l1_e1]) (shows_all N) mixed ⟨shows_l3_ok N, shows_l2_ok N, trivial⟩ hE hX ⟨hrec, (fun p hp => by obtain rfl := Option.some.inj hp; exact hx), (fun p hp => by obtain rfl := Option.some.inj hp; exact hx), trivial⟩ RetOK.no (fun p => shows_l1_eq N m p.1.2.2.1 p.1.2.2.2.1 p.1.2.2.2.2.1 p.2.1.1 p.2.2.1.1))
abbrev shows_st : Sta := ⟨[0, 1, 2], ⟨[.agg [.sl (.sl (.int .i64)), .sl (.int .i64), .i .i64], .agg [.i .i64, .i .i64], .sl (.sl (.sl (.int .i64)))], []⟩⟩
theorem shows_eq (N : Nat) (e : List (List Int)) (e2 : List Int) (e3 : Int) (p : Int) (p2 : Int) (marks : List (List (List Int))) : ev (Z := Int × Int) Try.prog (shows_sp N) shows_B [shows_l3_L N, shows_l2_L N, shows_l1_L N] [] (some shows_rt) 400 false [.c [0], .c [1]] (stL shows_st (((e, e2, e3, ()), (p, p2, ()), marks, ()), ())) (stH shows_st (((e, e2, e3, ()), (p, p2, ()), marks, ()), ())) = shows_S N e e2 e3 p p2 marks := by kernel_rfl
noncomputable def sp_shows (N : Nat) : Spec := { f := 65, ins := ⟨[.agg [.sl (.sl (.int .i64)), .sl (.int .i64), .i .i64], .agg [.i .i64, .i .i64], .sl (.sl (.sl (.int .i64)))], []⟩, outs := [⟨[.i .i64, .i .i64], []⟩], run := fun p k => (shows_S N p.1.1.1 p.1.1.2.1 p.1.1.2.2.1 p.1.2.1.1 p.1.2.1.2.1 p.1.2.2.1).bind fun r => k ((r.1, r.2, ()), ()) }
theorem sp_shows_ok (N : Nat) : SpecOK Try.prog (sp_shows N) := fn_sound (B := shows_B) (loops := [shows_l3_L N, shows_l2_L N, shows_l1_L N]) (leaves := []) (fun p => shows_S N p.1.1.1 p.1.1.2.1 p.1.1.2.2.1 p.1.2.1.1 p.1.2.1.2.1 p.1.2.2.1) (fun r => ((r.1, r.2, ()), ())) shows_rt (fun _ _ _ => rfl) (fun r z h => by cases h; rfl) Try.func65 (by kernel_rfl) (by kernel_rfl) (by kernel_rfl) rfl rfl (by kernel_rfl) (fun args w => Sem.pv_run _ _ _ (by kernel_rfl) w) (shows_all N) mixed ⟨shows_l3_ok N, shows_l2_ok N, shows_l1_ok N, trivial⟩ (fun z E Xc hE hX hret => trivial) (fun p => shows_eq N p.1.1.1 p.1.1.2.1 p.1.1.2.2.1 p.1.2.1.1 p.1.2.1.2.1 p.1.2.2.1)

/-- A sign: differences wrap around. -/
noncomputable def sp_wrapon (_ : Nat) : Spec := { f := 96, ins := ⟨[], []⟩, outs := [], run := fun _ _ => none }
theorem sp_wrapon_ok (N : Nat) : SpecOK Try.prog (sp_wrapon N) := ⟨fun _ _ _ => rfl, (sp_off_ok N).call, fun _ _ h => by cases h⟩
def rshows_l2 (N : Nat) : Nat → (List (List (List Int))) → (List Int) → (List Int) → Int → Int → (List (List Int)) → (List Int) → Int → Option ((Unit) ⊕ (List (List (List Int)) × List Int × List Int × Int × List (List Int) × List Int × Int))
  | 0, _, _, _, _, _, _, _, _ => none
  | n_ + 1, m, a, b, i, k, e, e2, e3 =>
    idx m i fun x_5 =>
    br (decide (k < (x_5.length : Int)))
      (idx m i fun x_6 =>
      idx x_6 k fun x_7 =>
      chk ((b.length : Int) + 1) <|
      br (!decide ((x_7.length : Int) = ((b.length : Int) + 1)))
        (some (.inl ()))
        (chk (k + 1) <|
        rshows_l2 N n_ m a b i (k + 1) e e2 e3))
      (some (.inr (m, a, b, i, e, e2, e3)))
def rshows_l1 (N : Nat) : Nat → (List (List (List Int))) → (List Int) → (List Int) → Int → (List (List Int)) → (List Int) → Int → Option ((Unit) ⊕ ((Unit) ⊕ (List (List (List Int)) × List Int × List Int × List (List Int) × List Int × Int)))
  | 0, _, _, _, _, _, _, _ => none
  | n_ + 1, m, a, b, i, e, e2, e3 =>
    br (decide (i < (m.length : Int)))
      (idx m i fun x_4 =>
      chk ((a.length : Int) + 1) <|
      br (!decide ((x_4.length : Int) = ((a.length : Int) + 1)))
        (some (.inl ()))
        ((rshows_l2 N N m a b i 0 e e2 e3).bind fun e => match e with
        | .inl _ =>
          some (.inr (.inl ()))
        | .inr (m_8, a_9, b_10, i_11, e_12, e2_13, e3_14) =>
          chk (i_11 + 1) <|
          rshows_l1 N n_ m_8 a_9 b_10 (i_11 + 1) e_12 e2_13 e3_14))
      (some (.inr (.inr (m, a, b, e, e2, e3))))
def rshows_j4 (N : Nat) (rec : (List (List (List Int))) → (List Int) → (List Int) → Bool → Bool → Int → Int → Int → (List (List Int)) → (List Int) → Int → Option (List (List (List Int)) × List Int × List Int × Bool × Bool × Int × Int × List (List Int) × List Int × Int)) (m : List (List (List Int))) (a : List Int) (b : List Int) (allowed : Bool) (holds : Bool) (i : Int) (k : Int) (n : Int) (e : List (List Int)) (e2 : List Int) (e3 : Int) : Option (List (List (List Int)) × List Int × List Int × Bool × Bool × Int × Int × List (List Int) × List Int × Int) :=
  chk (n + 1) <|
  rec m a b allowed holds i k (n + 1) e e2 e3
def rshows_j3 (N : Nat) (rec : (List (List (List Int))) → (List Int) → (List Int) → Bool → Bool → Int → Int → Int → (List (List Int)) → (List Int) → Int → Option (List (List (List Int)) × List Int × List Int × Bool × Bool × Int × Int × List (List Int) × List Int × Int)) (m : List (List (List Int))) (a : List Int) (b : List Int) (allowed : Bool) (holds : Bool) (i : Int) (k : Int) (n : Int) (now : Int) (e : List (List Int)) (e2 : List Int) (e3 : Int) : Option (List (List (List Int)) × List Int × List Int × Bool × Bool × Int × Int × List (List Int) × List Int × Int) :=
  br (decide (0 < i))
    (br (decide (0 < n))
      (idx e2 (IntKind.i64.wrap (i - 1)) fun x_36 =>
      idx b (IntKind.i64.wrap (n - 1)) fun x_37 =>
      br (decide (x_36 = x_37))
        (idx m (IntKind.i64.wrap (i - 1)) fun x_38 =>
        idx x_38 k fun x_39 =>
        idx x_39 (IntKind.i64.wrap (n - 1)) fun x_40 =>
        br (decide (x_40 < now))
          (rshows_j4 N (rec) m a b allowed false i k n e e2 e3)
          (rshows_j4 N (rec) m a b allowed holds i k n e e2 e3))
        (rshows_j4 N (rec) m a b allowed holds i k n e e2 e3))
      (rshows_j4 N (rec) m a b allowed holds i k n e e2 e3))
    (rshows_j4 N (rec) m a b allowed holds i k n e e2 e3)
def rshows_j2 (N : Nat) (rec : (List (List (List Int))) → (List Int) → (List Int) → Bool → Bool → Int → Int → Int → (List (List Int)) → (List Int) → Int → Option (List (List (List Int)) × List Int × List Int × Bool × Bool × Int × Int × List (List Int) × List Int × Int)) (m : List (List (List Int))) (a : List Int) (b : List Int) (allowed : Bool) (holds : Bool) (i : Int) (k : Int) (n : Int) (now : Int) (e : List (List Int)) (e2 : List Int) (e3 : Int) : Option (List (List (List Int)) × List Int × List Int × Bool × Bool × Int × Int × List (List Int) × List Int × Int) :=
  br (decide (0 < i))
    (br (decide (0 < k))
      (idx e2 (IntKind.i64.wrap (i - 1)) fun x_31 =>
      idx a (IntKind.i64.wrap (k - 1)) fun x_32 =>
      br (decide (x_31 = x_32))
        (idx m (IntKind.i64.wrap (i - 1)) fun x_33 =>
        idx x_33 (IntKind.i64.wrap (k - 1)) fun x_34 =>
        idx x_34 n fun x_35 =>
        br (decide (x_35 < now))
          (rshows_j3 N (rec) m a b allowed false i k n now e e2 e3)
          (rshows_j3 N (rec) m a b allowed holds i k n now e e2 e3))
        (rshows_j3 N (rec) m a b allowed holds i k n now e e2 e3))
      (rshows_j3 N (rec) m a b allowed holds i k n now e e2 e3))
    (rshows_j3 N (rec) m a b allowed holds i k n now e e2 e3)
def rshows_j1 (N : Nat) (rec : (List (List (List Int))) → (List Int) → (List Int) → Bool → Bool → Int → Int → Int → (List (List Int)) → (List Int) → Int → Option (List (List (List Int)) × List Int × List Int × Bool × Bool × Int × Int × List (List Int) × List Int × Int)) (m : List (List (List Int))) (a : List Int) (b : List Int) (allowed : Bool) (holds : Bool) (i : Int) (k : Int) (n : Int) (now : Int) (e : List (List Int)) (e2 : List Int) (e3 : Int) : Option (List (List (List Int)) × List Int × List Int × Bool × Bool × Int × Int × List (List Int) × List Int × Int) :=
  br (decide (0 < i))
    (idx m (IntKind.i64.wrap (i - 1)) fun x_28 =>
    idx x_28 k fun x_29 =>
    idx x_29 n fun x_30 =>
    br (decide (x_30 < (IntKind.i64.wrap (now - 1))))
      (rshows_j2 N (rec) m a b allowed false i k n now e e2 e3)
      (br (decide (0 < k))
        (idx m i fun x_41 =>
        idx x_41 (IntKind.i64.wrap (k - 1)) fun x_42 =>
        idx x_42 n fun x_43 =>
        br (decide (x_43 < (IntKind.i64.wrap (now - 1))))
          (rshows_j2 N (rec) m a b allowed false i k n now e e2 e3)
          (br (decide (0 < n))
            (idx m i fun x_44 =>
            idx x_44 k fun x_45 =>
            idx x_45 (IntKind.i64.wrap (n - 1)) fun x_46 =>
            br (decide (x_46 < (IntKind.i64.wrap (now - 1))))
              (rshows_j2 N (rec) m a b allowed false i k n now e e2 e3)
              (rshows_j2 N (rec) m a b allowed holds i k n now e e2 e3))
            (rshows_j2 N (rec) m a b allowed holds i k n now e e2 e3)))
        (br (decide (0 < n))
          (idx m i fun x_47 =>
          idx x_47 k fun x_48 =>
          idx x_48 (IntKind.i64.wrap (n - 1)) fun x_49 =>
          br (decide (x_49 < (IntKind.i64.wrap (now - 1))))
            (rshows_j2 N (rec) m a b allowed false i k n now e e2 e3)
            (rshows_j2 N (rec) m a b allowed holds i k n now e e2 e3))
          (rshows_j2 N (rec) m a b allowed holds i k n now e e2 e3))))
    (br (decide (0 < k))
      (idx m i fun x_50 =>
      idx x_50 (IntKind.i64.wrap (k - 1)) fun x_51 =>
      idx x_51 n fun x_52 =>
      br (decide (x_52 < (IntKind.i64.wrap (now - 1))))
        (rshows_j2 N (rec) m a b allowed false i k n now e e2 e3)
        (br (decide (0 < n))
          (idx m i fun x_53 =>
          idx x_53 k fun x_54 =>
          idx x_54 (IntKind.i64.wrap (n - 1)) fun x_55 =>
          br (decide (x_55 < (IntKind.i64.wrap (now - 1))))
            (rshows_j2 N (rec) m a b allowed false i k n now e e2 e3)
            (rshows_j2 N (rec) m a b allowed holds i k n now e e2 e3))
          (rshows_j2 N (rec) m a b allowed holds i k n now e e2 e3)))
      (br (decide (0 < n))
        (idx m i fun x_56 =>
        idx x_56 k fun x_57 =>
        idx x_57 (IntKind.i64.wrap (n - 1)) fun x_58 =>
        br (decide (x_58 < (IntKind.i64.wrap (now - 1))))
          (rshows_j2 N (rec) m a b allowed false i k n now e e2 e3)
          (rshows_j2 N (rec) m a b allowed holds i k n now e e2 e3))
        (rshows_j2 N (rec) m a b allowed holds i k n now e e2 e3)))
def rshows_l5 (N : Nat) : Nat → (List (List (List Int))) → (List Int) → (List Int) → Bool → Bool → Int → Int → Int → (List (List Int)) → (List Int) → Int → Option (List (List (List Int)) × List Int × List Int × Bool × Bool × Int × Int × List (List Int) × List Int × Int)
  | 0, _, _, _, _, _, _, _, _, _, _, _ => none
  | n_ + 1, m, a, b, allowed, holds, i, k, n, e, e2, e3 =>
    br (decide (n ≤ (b.length : Int)))
      (idx m i fun x_24 =>
      idx x_24 k fun x_25 =>
      idx x_25 n fun x_26 =>
      (off_S N x_26 0 99).bind fun x_27 =>
      br x_27
        (rshows_j1 N (rshows_l5 N n_) m a b false holds i k n x_26 e e2 e3)
        (rshows_j1 N (rshows_l5 N n_) m a b allowed holds i k n x_26 e e2 e3))
      (some ((m, a, b, allowed, holds, i, k, e, e2, e3)))
def rshows_l4 (N : Nat) : Nat → (List (List (List Int))) → (List Int) → (List Int) → Bool → Bool → Int → Int → (List (List Int)) → (List Int) → Int → Option (List (List (List Int)) × List Int × List Int × Bool × Bool × Int × List (List Int) × List Int × Int)
  | 0, _, _, _, _, _, _, _, _, _, _ => none
  | n_ + 1, m, a, b, allowed, holds, i, k, e, e2, e3 =>
    br (decide (k ≤ (a.length : Int)))
      ((rshows_l5 N N m a b allowed holds i k 0 e e2 e3).bind fun (m_59, a_60, b_61, allowed_62, holds_63, i_64, k_65, e_66, e2_67, e3_68) =>
      chk (k_65 + 1) <|
      rshows_l4 N n_ m_59 a_60 b_61 allowed_62 holds_63 i_64 (k_65 + 1) e_66 e2_67 e3_68)
      (some ((m, a, b, allowed, holds, i, e, e2, e3)))
def rshows_l3 (N : Nat) : Nat → (List (List (List Int))) → (List Int) → (List Int) → Bool → Bool → Int → (List (List Int)) → (List Int) → Int → Option (List (List (List Int)) × List Int × List Int × Bool × Bool × List (List Int) × List Int × Int)
  | 0, _, _, _, _, _, _, _, _, _ => none
  | n_ + 1, m, a, b, allowed, holds, i, e, e2, e3 =>
    br (decide (i ≤ (e2.length : Int)))
      ((rshows_l4 N N m a b allowed holds i 0 e e2 e3).bind fun (m_69, a_70, b_71, allowed_72, holds_73, i_74, e_75, e2_76, e3_77) =>
      chk (i_74 + 1) <|
      rshows_l3 N n_ m_69 a_70 b_71 allowed_72 holds_73 (i_74 + 1) e_75 e2_76 e3_77)
      (some ((m, a, b, allowed, holds, e, e2, e3)))
def rshows_S (N : Nat) (e : List (List Int)) (e2 : List Int) (e3 : Int) (p : Int) (p2 : Int) (m : List (List (List Int))) : Option (Int × Int) :=
  (rtwo_S N e e2 e3 p p2).bind fun x_1 =>
  br (!decide (x_1 = 0))
    (some (0, x_1))
    (idx e p fun x_2 =>
    idx e p2 fun x_3 =>
    chk ((e2.length : Int) + 1) <|
    br (!decide ((m.length : Int) = ((e2.length : Int) + 1)))
      (some (0, 2))
      ((rshows_l1 N N m x_2 x_3 0 e e2 e3).bind fun e => match e with
      | .inl _ =>
        some (0, 2)
      | .inr (.inl _) =>
        some (0, 2)
      | .inr (.inr (m_15, a_16, b_17, e_18, e2_19, e3_20)) =>
        idx m_15 0 fun x_21 =>
        idx x_21 0 fun x_22 =>
        idx x_22 0 fun x_23 =>
        (rshows_l3 N N m_15 a_16 b_17 true (decide (x_23 = 0)) 0 e_18 e2_19 e3_20).bind fun (m_78, a_79, b_80, allowed_81, holds_82, e_83, e2_84, e3_85) =>
        br (!allowed_81)
          (some (0, 3))
          (br (!holds_82)
            (some (0, 8))
            (idx m_78 (e2_84.length : Int) fun x_86 =>
            idx x_86 (a_79.length : Int) fun x_87 =>
            idx x_87 (b_80.length : Int) fun x_88 =>
            some (x_88, 0)))))
noncomputable def rshows_sp (N : Nat) : List Spec := [sp_wrapon N, sp_off N, sp_rtwo N]
theorem rshows_all (N : Nat) : AllP (SpecOK Try.prog) (rshows_sp N) := ⟨sp_wrapon_ok N, sp_off_ok N, sp_rtwo_ok N, trivial⟩
noncomputable def rshows_c : Code := (Try.f66.body).getD .skip
noncomputable abbrev rshows_B : Body := { c := rshows_c, n := 267, res := [.tmp 6, .tmp 7], outs := [⟨[.i .i64, .i .i64], []⟩], m0 := 0 }
abbrev rshows_rt : altD rshows_B.outs → Option (Int × Int) := fun r => some (r.1.1, r.1.2.1)
abbrev rshows_l2_at : List PI := [.c [1, 1, 1, 1, 0, 1, 0, 0, 1, 0, 0, 1, 1, 0, 0, 0, 0], .c [1, 1, 1, 1, 0, 1, 0, 0, 1, 0, 0, 1, 1, 0, 0, 0, 1], .c [1, 1, 1, 1, 0, 1, 0, 0, 1, 0, 0, 1, 1, 0, 0, 1], .l [1, 1, 1, 1, 0, 1, 0, 0, 1, 0, 0, 1, 1, 0, 0], .b 2, .b 1, .c [1, 1, 1, 1, 0, 1, 0, 0, 1, 1], .l [1, 1, 1, 1, 0, 1, 0, 0], .b 0, .c [1, 1, 1, 1, 1]]
abbrev rshows_l2_st : Sta := ⟨[2, 3, 9, 10, 11, 12], ⟨[.sl (.sl (.sl (.int .i64))), .own 0 0, .sl (.int .i64), .sl (.int .i64), .i .i64, .i .i64], [.segs [.sl (.sl (.int .i64)), .sl (.int .i64), .i .i64]]⟩⟩
abbrev rshows_l2_h (rec : (List (List (List Int))) → (List Int) → (List Int) → Int → Int → (List (List Int)) → (List Int) → Int → Option ((Unit) ⊕ (List (List (List Int)) × List Int × List Int × Int × List (List Int) × List Int × Int))) : Leaf ((Unit) ⊕ (List (List (List Int)) × List Int × List Int × Int × List (List Int) × List Int × Int)) := ⟨rshows_l2_at, rshows_l2_st, fun p => rec p.1.1 p.1.2.2.1 p.1.2.2.2.1 p.1.2.2.2.2.1 p.1.2.2.2.2.2.1 p.2.1.1 p.2.1.2.1 p.2.1.2.2.1⟩
abbrev rshows_l2_e0 : Leaf ((Unit) ⊕ (List (List (List Int)) × List Int × List Int × Int × List (List Int) × List Int × Int)) := ⟨[.c [1, 1, 1, 1, 0, 1, 0, 0, 1, 0, 0, 1, 1, 0, 0, 1, 0, 0, 1, 0, 0], .c [1, 1, 1, 1, 0, 1, 0, 0, 1, 0, 0, 1, 1, 0, 0, 1, 0, 0, 1, 0, 1], .b 3, .c [1, 1, 1, 1, 0, 1, 0, 0, 1, 0, 0, 1, 1, 0, 0, 1, 1], .l [1, 1, 1, 1, 0, 1, 0, 0, 1, 0, 0, 1, 1, 0, 0], .b 2, .b 1, .c [1, 1, 1, 1, 0, 1, 0, 0, 1, 1], .l [1, 1, 1, 1, 0, 1, 0, 0], .b 0, .c [1, 1, 1, 1, 1]], ⟨[], ⟨[], []⟩⟩, fun p => some (.inl ())⟩
abbrev rshows_l2_e1 : Leaf ((Unit) ⊕ (List (List (List Int)) × List Int × List Int × Int × List (List Int) × List Int × Int)) := ⟨[.c [1, 1, 1, 1, 0, 1, 0, 0, 1, 1], .l [1, 1, 1, 1, 0, 1, 0, 0], .b 0, .c [1, 1, 1, 1, 1]], ⟨[2, 3, 9, 10, 11], ⟨[.sl (.sl (.sl (.int .i64))), .own 0 0, .sl (.int .i64), .sl (.int .i64), .i .i64], [.segs [.sl (.sl (.int .i64)), .sl (.int .i64), .i .i64]]⟩⟩, fun p => some (.inr (p.1.1, p.1.2.2.1, p.1.2.2.2.1, p.1.2.2.2.2.1, p.2.1.1, p.2.1.2.1, p.2.1.2.2.1))⟩
noncomputable def rshows_l2_L (N : Nat) : LoopS := { at_ := rshows_l2_at, sta := rshows_l2_st, exits := [([.c [1, 1, 1, 1, 0, 1, 0, 0, 1, 0, 0, 1, 1, 0, 0, 1, 0, 0, 1, 0, 0], .c [1, 1, 1, 1, 0, 1, 0, 0, 1, 0, 0, 1, 1, 0, 0, 1, 0, 0, 1, 0, 1], .b 3, .c [1, 1, 1, 1, 0, 1, 0, 0, 1, 0, 0, 1, 1, 0, 0, 1, 1], .l [1, 1, 1, 1, 0, 1, 0, 0, 1, 0, 0, 1, 1, 0, 0], .b 2, .b 1, .c [1, 1, 1, 1, 0, 1, 0, 0, 1, 1], .l [1, 1, 1, 1, 0, 1, 0, 0], .b 0, .c [1, 1, 1, 1, 1]], ⟨[], ⟨[], []⟩⟩), ([.c [1, 1, 1, 1, 0, 1, 0, 0, 1, 1], .l [1, 1, 1, 1, 0, 1, 0, 0], .b 0, .c [1, 1, 1, 1, 1]], ⟨[2, 3, 9, 10, 11], ⟨[.sl (.sl (.sl (.int .i64))), .own 0 0, .sl (.int .i64), .sl (.int .i64), .i .i64], [.segs [.sl (.sl (.int .i64)), .sl (.int .i64), .i .i64]]⟩⟩)], run := fun p k => (rshows_l2 N N p.1.1 p.1.2.2.1 p.1.2.2.2.1 p.1.2.2.2.2.1 p.1.2.2.2.2.2.1 p.2.1.1 p.2.1.2.1 p.2.1.2.2.1).bind fun e => match e with | .inl x => k (.inl ((), ())) | .inr x => k (.inr (.inl ((x.1, (), x.2.1, x.2.2.1, x.2.2.2.1, ()), ((x.2.2.2.2.1, x.2.2.2.2.2.1, x.2.2.2.2.2.2, ()), ())))) }
theorem rshows_l2_eq (N n_ : Nat) (m : List (List (List Int))) (a : List Int) (b : List Int) (i : Int) (k : Int) (e : List (List Int)) (e2 : List Int) (e3 : Int) : ev (Z := (Unit) ⊕ (List (List (List Int)) × List Int × List Int × Int × List (List Int) × List Int × Int)) Try.prog (rshows_sp N) rshows_B [] [rshows_l2_h (rshows_l2 N n_), rshows_l2_e0, rshows_l2_e1] none 400 true rshows_l2_at (stL rshows_l2_st ((m, (), a, b, i, k, ()), ((e, e2, e3, ()), ()))) (stH rshows_l2_st ((m, (), a, b, i, k, ()), ((e, e2, e3, ()), ()))) = rshows_l2 N (n_ + 1) m a b i k e e2 e3 := by kernel_rfl
theorem rshows_l2_ok (N : Nat) {top : Bool} : LoopOK Try.prog rshows_B.c rshows_B.n rshows_B.m0 top (rshows_l2_L N) := loop_of_ev (Z := (Unit) ⊕ (List (List (List Int)) × List Int × List Int × Int × List (List Int) × List Int × Int)) (N := N) (fun m p => rshows_l2 N m p.1.1 p.1.2.2.1 p.1.2.2.2.1 p.1.2.2.2.2.1 p.1.2.2.2.2.2.1 p.2.1.1 p.2.1.2.1 p.2.1.2.2.1) (fun e => match e with | .inl x => .inl ((), ()) | .inr x => .inr (.inl ((x.1, (), x.2.1, x.2.2.1, x.2.2.2.1, ()), ((x.2.2.2.2.1, x.2.2.2.2.2.1, x.2.2.2.2.2.2, ()), ())))) (fun _ p k => bind_congr_ (rshows_l2 N N p.1.1 p.1.2.2.1 p.1.2.2.2.1 p.1.2.2.2.2.1 p.1.2.2.2.2.2.1 p.2.1.1 p.2.1.2.1 p.2.1.2.2.1) _ _ (fun e => by rcases e with x | x <;> rfl)) (fun _ => rfl) (fun m z E Xc hE hX hrec hx => leaf_of_ev (B := rshows_B) (loops := []) (leaves := [rshows_l2_h (rshows_l2 N m), rshows_l2_e0, rshows_l2_e1]) (rshows_all N) mixed trivial hE hX ⟨hrec, (fun p hp => by obtain rfl := Option.some.inj hp; exact hx), (fun p hp => by obtain rfl := Option.some.inj hp; exact hx), trivial⟩ RetOK.no (fun p => rshows_l2_eq N m p.1.1 p.1.2.2.1 p.1.2.2.2.1 p.1.2.2.2.2.1 p.1.2.2.2.2.2.1 p.2.1.1 p.2.1.2.1 p.2.1.2.2.1))
abbrev rshows_l1_at : List PI := [.c [1, 1, 1, 1, 0, 1, 0, 0, 0, 0], .c [1, 1, 1, 1, 0, 1, 0, 0, 0, 1], .c [1, 1, 1, 1, 0, 1, 0, 0, 1], .l [1, 1, 1, 1, 0, 1, 0, 0], .b 0, .c [1, 1, 1, 1, 1]]
abbrev rshows_l1_st : Sta := ⟨[2, 3, 9, 10, 11], ⟨[.sl (.sl (.sl (.int .i64))), .own 0 0, .sl (.int .i64), .sl (.int .i64), .i .i64], [.segs [.sl (.sl (.int .i64)), .sl (.int .i64), .i .i64]]⟩⟩
abbrev rshows_l1_h (rec : (List (List (List Int))) → (List Int) → (List Int) → Int → (List (List Int)) → (List Int) → Int → Option ((Unit) ⊕ ((Unit) ⊕ (List (List (List Int)) × List Int × List Int × List (List Int) × List Int × Int)))) : Leaf ((Unit) ⊕ ((Unit) ⊕ (List (List (List Int)) × List Int × List Int × List (List Int) × List Int × Int))) := ⟨rshows_l1_at, rshows_l1_st, fun p => rec p.1.1 p.1.2.2.1 p.1.2.2.2.1 p.1.2.2.2.2.1 p.2.1.1 p.2.1.2.1 p.2.1.2.2.1⟩
abbrev rshows_l1_e0 : Leaf ((Unit) ⊕ ((Unit) ⊕ (List (List (List Int)) × List Int × List Int × List (List Int) × List Int × Int))) := ⟨[.c [1, 1, 1, 1, 0, 1, 0, 0, 1, 0, 0, 0, 1, 0, 0], .c [1, 1, 1, 1, 0, 1, 0, 0, 1, 0, 0, 0, 1, 0, 1], .c [1, 1, 1, 1, 0, 1, 0, 0, 1, 0, 0, 1], .b 1, .c [1, 1, 1, 1, 0, 1, 0, 0, 1, 1], .l [1, 1, 1, 1, 0, 1, 0, 0], .b 0, .c [1, 1, 1, 1, 1]], ⟨[], ⟨[], []⟩⟩, fun p => some (.inl ())⟩
abbrev rshows_l1_e1 : Leaf ((Unit) ⊕ ((Unit) ⊕ (List (List (List Int)) × List Int × List Int × List (List Int) × List Int × Int))) := ⟨[.c [1, 1, 1, 1, 0, 1, 0, 0, 1, 0, 0, 1, 1, 0, 0, 1, 0, 0, 1, 0, 0], .c [1, 1, 1, 1, 0, 1, 0, 0, 1, 0, 0, 1, 1, 0, 0, 1, 0, 0, 1, 0, 1], .b 3, .c [1, 1, 1, 1, 0, 1, 0, 0, 1, 0, 0, 1, 1, 0, 0, 1, 1], .l [1, 1, 1, 1, 0, 1, 0, 0, 1, 0, 0, 1, 1, 0, 0], .b 2, .b 1, .c [1, 1, 1, 1, 0, 1, 0, 0, 1, 1], .l [1, 1, 1, 1, 0, 1, 0, 0], .b 0, .c [1, 1, 1, 1, 1]], ⟨[], ⟨[], []⟩⟩, fun p => some (.inr (.inl ()))⟩
abbrev rshows_l1_e2 : Leaf ((Unit) ⊕ ((Unit) ⊕ (List (List (List Int)) × List Int × List Int × List (List Int) × List Int × Int))) := ⟨[.c [1, 1, 1, 1, 1, 0], .c [1, 1, 1, 1, 1, 1]], ⟨[2, 3, 9, 10], ⟨[.sl (.sl (.sl (.int .i64))), .own 0 0, .sl (.int .i64), .sl (.int .i64)], [.segs [.sl (.sl (.int .i64)), .sl (.int .i64), .i .i64]]⟩⟩, fun p => some (.inr (.inr (p.1.1, p.1.2.2.1, p.1.2.2.2.1, p.2.1.1, p.2.1.2.1, p.2.1.2.2.1)))⟩
noncomputable def rshows_l1_L (N : Nat) : LoopS := { at_ := rshows_l1_at, sta := rshows_l1_st, exits := [([.c [1, 1, 1, 1, 0, 1, 0, 0, 1, 0, 0, 0, 1, 0, 0], .c [1, 1, 1, 1, 0, 1, 0, 0, 1, 0, 0, 0, 1, 0, 1], .c [1, 1, 1, 1, 0, 1, 0, 0, 1, 0, 0, 1], .b 1, .c [1, 1, 1, 1, 0, 1, 0, 0, 1, 1], .l [1, 1, 1, 1, 0, 1, 0, 0], .b 0, .c [1, 1, 1, 1, 1]], ⟨[], ⟨[], []⟩⟩), ([.c [1, 1, 1, 1, 0, 1, 0, 0, 1, 0, 0, 1, 1, 0, 0, 1, 0, 0, 1, 0, 0], .c [1, 1, 1, 1, 0, 1, 0, 0, 1, 0, 0, 1, 1, 0, 0, 1, 0, 0, 1, 0, 1], .b 3, .c [1, 1, 1, 1, 0, 1, 0, 0, 1, 0, 0, 1, 1, 0, 0, 1, 1], .l [1, 1, 1, 1, 0, 1, 0, 0, 1, 0, 0, 1, 1, 0, 0], .b 2, .b 1, .c [1, 1, 1, 1, 0, 1, 0, 0, 1, 1], .l [1, 1, 1, 1, 0, 1, 0, 0], .b 0, .c [1, 1, 1, 1, 1]], ⟨[], ⟨[], []⟩⟩), ([.c [1, 1, 1, 1, 1, 0], .c [1, 1, 1, 1, 1, 1]], ⟨[2, 3, 9, 10], ⟨[.sl (.sl (.sl (.int .i64))), .own 0 0, .sl (.int .i64), .sl (.int .i64)], [.segs [.sl (.sl (.int .i64)), .sl (.int .i64), .i .i64]]⟩⟩)], run := fun p k => (rshows_l1 N N p.1.1 p.1.2.2.1 p.1.2.2.2.1 p.1.2.2.2.2.1 p.2.1.1 p.2.1.2.1 p.2.1.2.2.1).bind fun e => match e with | .inl x => k (.inl ((), ())) | .inr (.inl x) => k (.inr (.inl ((), ()))) | .inr (.inr x) => k (.inr (.inr (.inl ((x.1, (), x.2.1, x.2.2.1, ()), ((x.2.2.2.1, x.2.2.2.2.1, x.2.2.2.2.2, ()), ()))))) }
theorem rshows_l1_eq (N n_ : Nat) (m : List (List (List Int))) (a : List Int) (b : List Int) (i : Int) (e : List (List Int)) (e2 : List Int) (e3 : Int) : ev (Z := (Unit) ⊕ ((Unit) ⊕ (List (List (List Int)) × List Int × List Int × List (List Int) × List Int × Int))) Try.prog (rshows_sp N) rshows_B [rshows_l2_L N] [rshows_l1_h (rshows_l1 N n_), rshows_l1_e0, rshows_l1_e1, rshows_l1_e2] none 400 true rshows_l1_at (stL rshows_l1_st ((m, (), a, b, i, ()), ((e, e2, e3, ()), ()))) (stH rshows_l1_st ((m, (), a, b, i, ()), ((e, e2, e3, ()), ()))) = rshows_l1 N (n_ + 1) m a b i e e2 e3 := by kernel_rfl
theorem rshows_l1_ok (N : Nat) {top : Bool} : LoopOK Try.prog rshows_B.c rshows_B.n rshows_B.m0 top (rshows_l1_L N) := loop_of_ev (Z := (Unit) ⊕ ((Unit) ⊕ (List (List (List Int)) × List Int × List Int × List (List Int) × List Int × Int))) (N := N) (fun m p => rshows_l1 N m p.1.1 p.1.2.2.1 p.1.2.2.2.1 p.1.2.2.2.2.1 p.2.1.1 p.2.1.2.1 p.2.1.2.2.1) (fun e => match e with | .inl x => .inl ((), ()) | .inr (.inl x) => .inr (.inl ((), ())) | .inr (.inr x) => .inr (.inr (.inl ((x.1, (), x.2.1, x.2.2.1, ()), ((x.2.2.2.1, x.2.2.2.2.1, x.2.2.2.2.2, ()), ()))))) (fun _ p k => bind_congr_ (rshows_l1 N N p.1.1 p.1.2.2.1 p.1.2.2.2.1 p.1.2.2.2.2.1 p.2.1.1 p.2.1.2.1 p.2.1.2.2.1) _ _ (fun e => by rcases e with x | x | x <;> rfl)) (fun _ => rfl) (fun m z E Xc hE hX hrec hx => leaf_of_ev (B := rshows_B) (loops := [rshows_l2_L N]) (leaves := [rshows_l1_h (rshows_l1 N m), rshows_l1_e0, rshows_l1_e1, rshows_l1_e2]) (rshows_all N) mixed ⟨rshows_l2_ok N, trivial⟩ hE hX ⟨hrec, (fun p hp => by obtain rfl := Option.some.inj hp; exact hx), (fun p hp => by obtain rfl := Option.some.inj hp; exact hx), (fun p hp => by obtain rfl := Option.some.inj hp; exact hx), trivial⟩ RetOK.no (fun p => rshows_l1_eq N m p.1.1 p.1.2.2.1 p.1.2.2.2.1 p.1.2.2.2.2.1 p.2.1.1 p.2.1.2.1 p.2.1.2.2.1))
abbrev rshows_l5_at : List PI := [.c [1, 1, 1, 1, 1, 1, 0, 1, 0, 0, 1, 0, 0, 1, 0, 0, 1, 0, 0, 1, 0, 0, 0, 0], .c [1, 1, 1, 1, 1, 1, 0, 1, 0, 0, 1, 0, 0, 1, 0, 0, 1, 0, 0, 1, 0, 0, 0, 1], .c [1, 1, 1, 1, 1, 1, 0, 1, 0, 0, 1, 0, 0, 1, 0, 0, 1, 0, 0, 1, 0, 0, 1], .l [1, 1, 1, 1, 1, 1, 0, 1, 0, 0, 1, 0, 0, 1, 0, 0, 1, 0, 0, 1, 0, 0], .b 8, .b 7, .c [1, 1, 1, 1, 1, 1, 0, 1, 0, 0, 1, 0, 0, 1, 0, 0, 1, 1], .l [1, 1, 1, 1, 1, 1, 0, 1, 0, 0, 1, 0, 0, 1, 0, 0], .b 6, .b 5, .c [1, 1, 1, 1, 1, 1, 0, 1, 0, 0, 1, 1], .l [1, 1, 1, 1, 1, 1, 0, 1, 0, 0], .b 4, .c [1, 1, 1, 1, 1, 1, 1]]
abbrev rshows_l5_st : Sta := ⟨[2, 3, 9, 10, 13, 14, 15, 16, 17], ⟨[.sl (.sl (.sl (.int .i64))), .own 0 0, .sl (.int .i64), .sl (.int .i64), .b, .b, .i .i64, .i .i64, .i .i64], [.segs [.sl (.sl (.int .i64)), .sl (.int .i64), .i .i64]]⟩⟩
abbrev rshows_l5_h (rec : (List (List (List Int))) → (List Int) → (List Int) → Bool → Bool → Int → Int → Int → (List (List Int)) → (List Int) → Int → Option (List (List (List Int)) × List Int × List Int × Bool × Bool × Int × Int × List (List Int) × List Int × Int)) : Leaf (List (List (List Int)) × List Int × List Int × Bool × Bool × Int × Int × List (List Int) × List Int × Int) := ⟨rshows_l5_at, rshows_l5_st, fun p => rec p.1.1 p.1.2.2.1 p.1.2.2.2.1 p.1.2.2.2.2.1 p.1.2.2.2.2.2.1 p.1.2.2.2.2.2.2.1 p.1.2.2.2.2.2.2.2.1 p.1.2.2.2.2.2.2.2.2.1 p.2.1.1 p.2.1.2.1 p.2.1.2.2.1⟩
abbrev rshows_l5_e0 : Leaf (List (List (List Int)) × List Int × List Int × Bool × Bool × Int × Int × List (List Int) × List Int × Int) := ⟨[.c [1, 1, 1, 1, 1, 1, 0, 1, 0, 0, 1, 0, 0, 1, 0, 0, 1, 1], .l [1, 1, 1, 1, 1, 1, 0, 1, 0, 0, 1, 0, 0, 1, 0, 0], .b 6, .b 5, .c [1, 1, 1, 1, 1, 1, 0, 1, 0, 0, 1, 1], .l [1, 1, 1, 1, 1, 1, 0, 1, 0, 0], .b 4, .c [1, 1, 1, 1, 1, 1, 1]], ⟨[2, 3, 9, 10, 13, 14, 15, 16], ⟨[.sl (.sl (.sl (.int .i64))), .own 0 0, .sl (.int .i64), .sl (.int .i64), .b, .b, .i .i64, .i .i64], [.segs [.sl (.sl (.int .i64)), .sl (.int .i64), .i .i64]]⟩⟩, fun p => some ((p.1.1, p.1.2.2.1, p.1.2.2.2.1, p.1.2.2.2.2.1, p.1.2.2.2.2.2.1, p.1.2.2.2.2.2.2.1, p.1.2.2.2.2.2.2.2.1, p.2.1.1, p.2.1.2.1, p.2.1.2.2.1))⟩
abbrev rshows_j4_at : List PI := [.c [1, 1, 1, 1, 1, 1, 0, 1, 0, 0, 1, 0, 0, 1, 0, 0, 1, 0, 0, 1, 0, 0, 1, 1], .l [1, 1, 1, 1, 1, 1, 0, 1, 0, 0, 1, 0, 0, 1, 0, 0, 1, 0, 0, 1, 0, 0], .b 8, .b 7, .c [1, 1, 1, 1, 1, 1, 0, 1, 0, 0, 1, 0, 0, 1, 0, 0, 1, 1], .l [1, 1, 1, 1, 1, 1, 0, 1, 0, 0, 1, 0, 0, 1, 0, 0], .b 6, .b 5, .c [1, 1, 1, 1, 1, 1, 0, 1, 0, 0, 1, 1], .l [1, 1, 1, 1, 1, 1, 0, 1, 0, 0], .b 4, .c [1, 1, 1, 1, 1, 1, 1]]
abbrev rshows_j4_st : Sta := ⟨[2, 3, 9, 10, 13, 14, 15, 16, 17], ⟨[.sl (.sl (.sl (.int .i64))), .own 0 0, .sl (.int .i64), .sl (.int .i64), .b, .b, .i .i64, .i .i64, .i .i64], [.segs [.sl (.sl (.int .i64)), .sl (.int .i64), .i .i64]]⟩⟩
abbrev rshows_j4_k (N : Nat) (rec : (List (List (List Int))) → (List Int) → (List Int) → Bool → Bool → Int → Int → Int → (List (List Int)) → (List Int) → Int → Option (List (List (List Int)) × List Int × List Int × Bool × Bool × Int × Int × List (List Int) × List Int × Int)) : Leaf (List (List (List Int)) × List Int × List Int × Bool × Bool × Int × Int × List (List Int) × List Int × Int) := ⟨rshows_j4_at, rshows_j4_st, fun p => rshows_j4 N rec p.1.1 p.1.2.2.1 p.1.2.2.2.1 p.1.2.2.2.2.1 p.1.2.2.2.2.2.1 p.1.2.2.2.2.2.2.1 p.1.2.2.2.2.2.2.2.1 p.1.2.2.2.2.2.2.2.2.1 p.2.1.1 p.2.1.2.1 p.2.1.2.2.1⟩
theorem rshows_j4_eq (N : Nat) (rec : (List (List (List Int))) → (List Int) → (List Int) → Bool → Bool → Int → Int → Int → (List (List Int)) → (List Int) → Int → Option (List (List (List Int)) × List Int × List Int × Bool × Bool × Int × Int × List (List Int) × List Int × Int)) (m : List (List (List Int))) (a : List Int) (b : List Int) (allowed : Bool) (holds : Bool) (i : Int) (k : Int) (n : Int) (e : List (List Int)) (e2 : List Int) (e3 : Int) : ev (Z := List (List (List Int)) × List Int × List Int × Bool × Bool × Int × Int × List (List Int) × List Int × Int) Try.prog (rshows_sp N) rshows_B [rshows_l2_L N, rshows_l1_L N] [rshows_l5_h rec, rshows_l5_e0] none 400 true rshows_j4_at (stL rshows_j4_st ((m, (), a, b, allowed, holds, i, k, n, ()), ((e, e2, e3, ()), ()))) (stH rshows_j4_st ((m, (), a, b, allowed, holds, i, k, n, ()), ((e, e2, e3, ()), ()))) = rshows_j4 N rec m a b allowed holds i k n e e2 e3 := by kernel_rfl
theorem rshows_j4_lf (N : Nat) (rec : (List (List (List Int))) → (List Int) → (List Int) → Bool → Bool → Int → Int → Int → (List (List Int)) → (List Int) → Int → Option (List (List (List Int)) × List Int × List Int × Bool × Bool × Int × Int × List (List Int) × List Int × Int)) {z : List (List (List Int)) × List Int × List Int × Bool × Bool × Int × Int × List (List Int) × List Int × Int} {top : Bool} {E : EE} {Xc : Ctx} (hE : EOK rshows_B.m0 E) (hX : CxOK top Xc) (hrec : LeafOK Try.prog rshows_B.c rshows_B.n rshows_B.m0 E Xc z (rshows_l5_h rec)) (h0 : LeafOK Try.prog rshows_B.c rshows_B.n rshows_B.m0 E Xc z rshows_l5_e0) : LeafOK Try.prog rshows_B.c rshows_B.n rshows_B.m0 E Xc z (rshows_j4_k N rec) := leaf_of_ev (B := rshows_B) (loops := [rshows_l2_L N, rshows_l1_L N]) (leaves := [rshows_l5_h rec, rshows_l5_e0]) (rshows_all N) mixed ⟨rshows_l2_ok N, rshows_l1_ok N, trivial⟩ hE hX ⟨hrec, h0, trivial⟩ RetOK.no (fun p => rshows_j4_eq N rec p.1.1 p.1.2.2.1 p.1.2.2.2.1 p.1.2.2.2.2.1 p.1.2.2.2.2.2.1 p.1.2.2.2.2.2.2.1 p.1.2.2.2.2.2.2.2.1 p.1.2.2.2.2.2.2.2.2.1 p.2.1.1 p.2.1.2.1 p.2.1.2.2.1)
abbrev rshows_j3_at : List PI := [.c [1, 1, 1, 1, 1, 1, 0, 1, 0, 0, 1, 0, 0, 1, 0, 0, 1, 0, 0, 1, 0, 0, 1, 0, 0, 1, 1, 1, 1, 0], .c [1, 1, 1, 1, 1, 1, 0, 1, 0, 0, 1, 0, 0, 1, 0, 0, 1, 0, 0, 1, 0, 0, 1, 0, 0, 1, 1, 1, 1, 1], .b 9, .c [1, 1, 1, 1, 1, 1, 0, 1, 0, 0, 1, 0, 0, 1, 0, 0, 1, 0, 0, 1, 0, 0, 1, 1], .l [1, 1, 1, 1, 1, 1, 0, 1, 0, 0, 1, 0, 0, 1, 0, 0, 1, 0, 0, 1, 0, 0], .b 8, .b 7, .c [1, 1, 1, 1, 1, 1, 0, 1, 0, 0, 1, 0, 0, 1, 0, 0, 1, 1], .l [1, 1, 1, 1, 1, 1, 0, 1, 0, 0, 1, 0, 0, 1, 0, 0], .b 6, .b 5, .c [1, 1, 1, 1, 1, 1, 0, 1, 0, 0, 1, 1], .l [1, 1, 1, 1, 1, 1, 0, 1, 0, 0], .b 4, .c [1, 1, 1, 1, 1, 1, 1]]
abbrev rshows_j3_st : Sta := ⟨[2, 3, 9, 10, 13, 14, 15, 16, 17, 18], ⟨[.sl (.sl (.sl (.int .i64))), .own 0 0, .sl (.int .i64), .sl (.int .i64), .b, .b, .i .i64, .i .i64, .i .i64, .i .i64], [.segs [.sl (.sl (.int .i64)), .sl (.int .i64), .i .i64]]⟩⟩
abbrev rshows_j3_k (N : Nat) (rec : (List (List (List Int))) → (List Int) → (List Int) → Bool → Bool → Int → Int → Int → (List (List Int)) → (List Int) → Int → Option (List (List (List Int)) × List Int × List Int × Bool × Bool × Int × Int × List (List Int) × List Int × Int)) : Leaf (List (List (List Int)) × List Int × List Int × Bool × Bool × Int × Int × List (List Int) × List Int × Int) := ⟨rshows_j3_at, rshows_j3_st, fun p => rshows_j3 N rec p.1.1 p.1.2.2.1 p.1.2.2.2.1 p.1.2.2.2.2.1 p.1.2.2.2.2.2.1 p.1.2.2.2.2.2.2.1 p.1.2.2.2.2.2.2.2.1 p.1.2.2.2.2.2.2.2.2.1 p.1.2.2.2.2.2.2.2.2.2.1 p.2.1.1 p.2.1.2.1 p.2.1.2.2.1⟩
theorem rshows_j3_eq (N : Nat) (rec : (List (List (List Int))) → (List Int) → (List Int) → Bool → Bool → Int → Int → Int → (List (List Int)) → (List Int) → Int → Option (List (List (List Int)) × List Int × List Int × Bool × Bool × Int × Int × List (List Int) × List Int × Int)) (m : List (List (List Int))) (a : List Int) (b : List Int) (allowed : Bool) (holds : Bool) (i : Int) (k : Int) (n : Int) (now : Int) (e : List (List Int)) (e2 : List Int) (e3 : Int) : ev (Z := List (List (List Int)) × List Int × List Int × Bool × Bool × Int × Int × List (List Int) × List Int × Int) Try.prog (rshows_sp N) rshows_B [rshows_l2_L N, rshows_l1_L N] [rshows_l5_h rec, rshows_l5_e0, rshows_j4_k N rec] none 400 true rshows_j3_at (stL rshows_j3_st ((m, (), a, b, allowed, holds, i, k, n, now, ()), ((e, e2, e3, ()), ()))) (stH rshows_j3_st ((m, (), a, b, allowed, holds, i, k, n, now, ()), ((e, e2, e3, ()), ()))) = rshows_j3 N rec m a b allowed holds i k n now e e2 e3 := by kernel_rfl
theorem rshows_j3_lf (N : Nat) (rec : (List (List (List Int))) → (List Int) → (List Int) → Bool → Bool → Int → Int → Int → (List (List Int)) → (List Int) → Int → Option (List (List (List Int)) × List Int × List Int × Bool × Bool × Int × Int × List (List Int) × List Int × Int)) {z : List (List (List Int)) × List Int × List Int × Bool × Bool × Int × Int × List (List Int) × List Int × Int} {top : Bool} {E : EE} {Xc : Ctx} (hE : EOK rshows_B.m0 E) (hX : CxOK top Xc) (hrec : LeafOK Try.prog rshows_B.c rshows_B.n rshows_B.m0 E Xc z (rshows_l5_h rec)) (h0 : LeafOK Try.prog rshows_B.c rshows_B.n rshows_B.m0 E Xc z rshows_l5_e0) : LeafOK Try.prog rshows_B.c rshows_B.n rshows_B.m0 E Xc z (rshows_j3_k N rec) := leaf_of_ev (B := rshows_B) (loops := [rshows_l2_L N, rshows_l1_L N]) (leaves := [rshows_l5_h rec, rshows_l5_e0, rshows_j4_k N rec]) (rshows_all N) mixed ⟨rshows_l2_ok N, rshows_l1_ok N, trivial⟩ hE hX ⟨hrec, h0, rshows_j4_lf N rec hE hX hrec h0, trivial⟩ RetOK.no (fun p => rshows_j3_eq N rec p.1.1 p.1.2.2.1 p.1.2.2.2.1 p.1.2.2.2.2.1 p.1.2.2.2.2.2.1 p.1.2.2.2.2.2.2.1 p.1.2.2.2.2.2.2.2.1 p.1.2.2.2.2.2.2.2.2.1 p.1.2.2.2.2.2.2.2.2.2.1 p.2.1.1 p.2.1.2.1 p.2.1.2.2.1)
abbrev rshows_j2_at : List PI := [.c [1, 1, 1, 1, 1, 1, 0, 1, 0, 0, 1, 0, 0, 1, 0, 0, 1, 0, 0, 1, 0, 0, 1, 0, 0, 1, 1, 1, 0, 0], .c [1, 1, 1, 1, 1, 1, 0, 1, 0, 0, 1, 0, 0, 1, 0, 0, 1, 0, 0, 1, 0, 0, 1, 0, 0, 1, 1, 1, 0, 1], .c [1, 1, 1, 1, 1, 1, 0, 1, 0, 0, 1, 0, 0, 1, 0, 0, 1, 0, 0, 1, 0, 0, 1, 0, 0, 1, 1, 1, 1], .b 9, .c [1, 1, 1, 1, 1, 1, 0, 1, 0, 0, 1, 0, 0, 1, 0, 0, 1, 0, 0, 1, 0, 0, 1, 1], .l [1, 1, 1, 1, 1, 1, 0, 1, 0, 0, 1, 0, 0, 1, 0, 0, 1, 0, 0, 1, 0, 0], .b 8, .b 7, .c [1, 1, 1, 1, 1, 1, 0, 1, 0, 0, 1, 0, 0, 1, 0, 0, 1, 1], .l [1, 1, 1, 1, 1, 1, 0, 1, 0, 0, 1, 0, 0, 1, 0, 0], .b 6, .b 5, .c [1, 1, 1, 1, 1, 1, 0, 1, 0, 0, 1, 1], .l [1, 1, 1, 1, 1, 1, 0, 1, 0, 0], .b 4, .c [1, 1, 1, 1, 1, 1, 1]]
abbrev rshows_j2_st : Sta := ⟨[2, 3, 9, 10, 13, 14, 15, 16, 17, 18], ⟨[.sl (.sl (.sl (.int .i64))), .own 0 0, .sl (.int .i64), .sl (.int .i64), .b, .b, .i .i64, .i .i64, .i .i64, .i .i64], [.segs [.sl (.sl (.int .i64)), .sl (.int .i64), .i .i64]]⟩⟩
abbrev rshows_j2_k (N : Nat) (rec : (List (List (List Int))) → (List Int) → (List Int) → Bool → Bool → Int → Int → Int → (List (List Int)) → (List Int) → Int → Option (List (List (List Int)) × List Int × List Int × Bool × Bool × Int × Int × List (List Int) × List Int × Int)) : Leaf (List (List (List Int)) × List Int × List Int × Bool × Bool × Int × Int × List (List Int) × List Int × Int) := ⟨rshows_j2_at, rshows_j2_st, fun p => rshows_j2 N rec p.1.1 p.1.2.2.1 p.1.2.2.2.1 p.1.2.2.2.2.1 p.1.2.2.2.2.2.1 p.1.2.2.2.2.2.2.1 p.1.2.2.2.2.2.2.2.1 p.1.2.2.2.2.2.2.2.2.1 p.1.2.2.2.2.2.2.2.2.2.1 p.2.1.1 p.2.1.2.1 p.2.1.2.2.1⟩
theorem rshows_j2_eq (N : Nat) (rec : (List (List (List Int))) → (List Int) → (List Int) → Bool → Bool → Int → Int → Int → (List (List Int)) → (List Int) → Int → Option (List (List (List Int)) × List Int × List Int × Bool × Bool × Int × Int × List (List Int) × List Int × Int)) (m : List (List (List Int))) (a : List Int) (b : List Int) (allowed : Bool) (holds : Bool) (i : Int) (k : Int) (n : Int) (now : Int) (e : List (List Int)) (e2 : List Int) (e3 : Int) : ev (Z := List (List (List Int)) × List Int × List Int × Bool × Bool × Int × Int × List (List Int) × List Int × Int) Try.prog (rshows_sp N) rshows_B [rshows_l2_L N, rshows_l1_L N] [rshows_l5_h rec, rshows_l5_e0, rshows_j4_k N rec, rshows_j3_k N rec] none 400 true rshows_j2_at (stL rshows_j2_st ((m, (), a, b, allowed, holds, i, k, n, now, ()), ((e, e2, e3, ()), ()))) (stH rshows_j2_st ((m, (), a, b, allowed, holds, i, k, n, now, ()), ((e, e2, e3, ()), ()))) = rshows_j2 N rec m a b allowed holds i k n now e e2 e3 := by kernel_rfl
theorem rshows_j2_lf (N : Nat) (rec : (List (List (List Int))) → (List Int) → (List Int) → Bool → Bool → Int → Int → Int → (List (List Int)) → (List Int) → Int → Option (List (List (List Int)) × List Int × List Int × Bool × Bool × Int × Int × List (List Int) × List Int × Int)) {z : List (List (List Int)) × List Int × List Int × Bool × Bool × Int × Int × List (List Int) × List Int × Int} {top : Bool} {E : EE} {Xc : Ctx} (hE : EOK rshows_B.m0 E) (hX : CxOK top Xc) (hrec : LeafOK Try.prog rshows_B.c rshows_B.n rshows_B.m0 E Xc z (rshows_l5_h rec)) (h0 : LeafOK Try.prog rshows_B.c rshows_B.n rshows_B.m0 E Xc z rshows_l5_e0) : LeafOK Try.prog rshows_B.c rshows_B.n rshows_B.m0 E Xc z (rshows_j2_k N rec) := leaf_of_ev (B := rshows_B) (loops := [rshows_l2_L N, rshows_l1_L N]) (leaves := [rshows_l5_h rec, rshows_l5_e0, rshows_j4_k N rec, rshows_j3_k N rec]) (rshows_all N) mixed ⟨rshows_l2_ok N, rshows_l1_ok N, trivial⟩ hE hX ⟨hrec, h0, rshows_j4_lf N rec hE hX hrec h0, rshows_j3_lf N rec hE hX hrec h0, trivial⟩ RetOK.no (fun p => rshows_j2_eq N rec p.1.1 p.1.2.2.1 p.1.2.2.2.1 p.1.2.2.2.2.1 p.1.2.2.2.2.2.1 p.1.2.2.2.2.2.2.1 p.1.2.2.2.2.2.2.2.1 p.1.2.2.2.2.2.2.2.2.1 p.1.2.2.2.2.2.2.2.2.2.1 p.2.1.1 p.2.1.2.1 p.2.1.2.2.1)
abbrev rshows_j1_at : List PI := [.c [1, 1, 1, 1, 1, 1, 0, 1, 0, 0, 1, 0, 0, 1, 0, 0, 1, 0, 0, 1, 0, 0, 1, 0, 0, 1, 1, 0, 0], .c [1, 1, 1, 1, 1, 1, 0, 1, 0, 0, 1, 0, 0, 1, 0, 0, 1, 0, 0, 1, 0, 0, 1, 0, 0, 1, 1, 0, 1], .c [1, 1, 1, 1, 1, 1, 0, 1, 0, 0, 1, 0, 0, 1, 0, 0, 1, 0, 0, 1, 0, 0, 1, 0, 0, 1, 1, 1], .b 9, .c [1, 1, 1, 1, 1, 1, 0, 1, 0, 0, 1, 0, 0, 1, 0, 0, 1, 0, 0, 1, 0, 0, 1, 1], .l [1, 1, 1, 1, 1, 1, 0, 1, 0, 0, 1, 0, 0, 1, 0, 0, 1, 0, 0, 1, 0, 0], .b 8, .b 7, .c [1, 1, 1, 1, 1, 1, 0, 1, 0, 0, 1, 0, 0, 1, 0, 0, 1, 1], .l [1, 1, 1, 1, 1, 1, 0, 1, 0, 0, 1, 0, 0, 1, 0, 0], .b 6, .b 5, .c [1, 1, 1, 1, 1, 1, 0, 1, 0, 0, 1, 1], .l [1, 1, 1, 1, 1, 1, 0, 1, 0, 0], .b 4, .c [1, 1, 1, 1, 1, 1, 1]]
abbrev rshows_j1_st : Sta := ⟨[2, 3, 9, 10, 13, 14, 15, 16, 17, 18], ⟨[.sl (.sl (.sl (.int .i64))), .own 0 0, .sl (.int .i64), .sl (.int .i64), .b, .b, .i .i64, .i .i64, .i .i64, .i .i64], [.segs [.sl (.sl (.int .i64)), .sl (.int .i64), .i .i64]]⟩⟩
abbrev rshows_j1_k (N : Nat) (rec : (List (List (List Int))) → (List Int) → (List Int) → Bool → Bool → Int → Int → Int → (List (List Int)) → (List Int) → Int → Option (List (List (List Int)) × List Int × List Int × Bool × Bool × Int × Int × List (List Int) × List Int × Int)) : Leaf (List (List (List Int)) × List Int × List Int × Bool × Bool × Int × Int × List (List Int) × List Int × Int) := ⟨rshows_j1_at, rshows_j1_st, fun p => rshows_j1 N rec p.1.1 p.1.2.2.1 p.1.2.2.2.1 p.1.2.2.2.2.1 p.1.2.2.2.2.2.1 p.1.2.2.2.2.2.2.1 p.1.2.2.2.2.2.2.2.1 p.1.2.2.2.2.2.2.2.2.1 p.1.2.2.2.2.2.2.2.2.2.1 p.2.1.1 p.2.1.2.1 p.2.1.2.2.1⟩
theorem rshows_j1_eq (N : Nat) (rec : (List (List (List Int))) → (List Int) → (List Int) → Bool → Bool → Int → Int → Int → (List (List Int)) → (List Int) → Int → Option (List (List (List Int)) × List Int × List Int × Bool × Bool × Int × Int × List (List Int) × List Int × Int)) (m : List (List (List Int))) (a : List Int) (b : List Int) (allowed : Bool) (holds : Bool) (i : Int) (k : Int) (n : Int) (now : Int) (e : List (List Int)) (e2 : List Int) (e3 : Int) : ev (Z := List (List (List Int)) × List Int × List Int × Bool × Bool × Int × Int × List (List Int) × List Int × Int) Try.prog (rshows_sp N) rshows_B [rshows_l2_L N, rshows_l1_L N] [rshows_l5_h rec, rshows_l5_e0, rshows_j4_k N rec, rshows_j3_k N rec, rshows_j2_k N rec] none 400 true rshows_j1_at (stL rshows_j1_st ((m, (), a, b, allowed, holds, i, k, n, now, ()), ((e, e2, e3, ()), ()))) (stH rshows_j1_st ((m, (), a, b, allowed, holds, i, k, n, now, ()), ((e, e2, e3, ()), ()))) = rshows_j1 N rec m a b allowed holds i k n now e e2 e3 := by kernel_rfl
theorem rshows_j1_lf (N : Nat) (rec : (List (List (List Int))) → (List Int) → (List Int) → Bool → Bool → Int → Int → Int → (List (List Int)) → (List Int) → Int → Option (List (List (List Int)) × List Int × List Int × Bool × Bool × Int × Int × List (List Int) × List Int × Int)) {z : List (List (List Int)) × List Int × List Int × Bool × Bool × Int × Int × List (List Int) × List Int × Int} {top : Bool} {E : EE} {Xc : Ctx} (hE : EOK rshows_B.m0 E) (hX : CxOK top Xc) (hrec : LeafOK Try.prog rshows_B.c rshows_B.n rshows_B.m0 E Xc z (rshows_l5_h rec)) (h0 : LeafOK Try.prog rshows_B.c rshows_B.n rshows_B.m0 E Xc z rshows_l5_e0) : LeafOK Try.prog rshows_B.c rshows_B.n rshows_B.m0 E Xc z (rshows_j1_k N rec) := leaf_of_ev (B := rshows_B) (loops := [rshows_l2_L N, rshows_l1_L N]) (leaves := [rshows_l5_h rec, rshows_l5_e0, rshows_j4_k N rec, rshows_j3_k N rec, rshows_j2_k N rec]) (rshows_all N) mixed ⟨rshows_l2_ok N, rshows_l1_ok N, trivial⟩ hE hX ⟨hrec, h0, rshows_j4_lf N rec hE hX hrec h0, rshows_j3_lf N rec hE hX hrec h0, rshows_j2_lf N rec hE hX hrec h0, trivial⟩ RetOK.no (fun p => rshows_j1_eq N rec p.1.1 p.1.2.2.1 p.1.2.2.2.1 p.1.2.2.2.2.1 p.1.2.2.2.2.2.1 p.1.2.2.2.2.2.2.1 p.1.2.2.2.2.2.2.2.1 p.1.2.2.2.2.2.2.2.2.1 p.1.2.2.2.2.2.2.2.2.2.1 p.2.1.1 p.2.1.2.1 p.2.1.2.2.1)
noncomputable def rshows_l5_L (N : Nat) : LoopS := { at_ := rshows_l5_at, sta := rshows_l5_st, exits := [([.c [1, 1, 1, 1, 1, 1, 0, 1, 0, 0, 1, 0, 0, 1, 0, 0, 1, 1], .l [1, 1, 1, 1, 1, 1, 0, 1, 0, 0, 1, 0, 0, 1, 0, 0], .b 6, .b 5, .c [1, 1, 1, 1, 1, 1, 0, 1, 0, 0, 1, 1], .l [1, 1, 1, 1, 1, 1, 0, 1, 0, 0], .b 4, .c [1, 1, 1, 1, 1, 1, 1]], ⟨[2, 3, 9, 10, 13, 14, 15, 16], ⟨[.sl (.sl (.sl (.int .i64))), .own 0 0, .sl (.int .i64), .sl (.int .i64), .b, .b, .i .i64, .i .i64], [.segs [.sl (.sl (.int .i64)), .sl (.int .i64), .i .i64]]⟩⟩)], run := fun p k => (rshows_l5 N N p.1.1 p.1.2.2.1 p.1.2.2.2.1 p.1.2.2.2.2.1 p.1.2.2.2.2.2.1 p.1.2.2.2.2.2.2.1 p.1.2.2.2.2.2.2.2.1 p.1.2.2.2.2.2.2.2.2.1 p.2.1.1 p.2.1.2.1 p.2.1.2.2.1).bind fun e => k (.inl ((e.1, (), e.2.1, e.2.2.1, e.2.2.2.1, e.2.2.2.2.1, e.2.2.2.2.2.1, e.2.2.2.2.2.2.1, ()), ((e.2.2.2.2.2.2.2.1, e.2.2.2.2.2.2.2.2.1, e.2.2.2.2.2.2.2.2.2, ()), ()))) }
theorem rshows_l5_eq (N n_ : Nat) (m : List (List (List Int))) (a : List Int) (b : List Int) (allowed : Bool) (holds : Bool) (i : Int) (k : Int) (n : Int) (e : List (List Int)) (e2 : List Int) (e3 : Int) : ev (Z := List (List (List Int)) × List Int × List Int × Bool × Bool × Int × Int × List (List Int) × List Int × Int) Try.prog (rshows_sp N) rshows_B [rshows_l2_L N, rshows_l1_L N] [rshows_l5_h (rshows_l5 N n_), rshows_l5_e0, rshows_j4_k N (rshows_l5 N n_), rshows_j3_k N (rshows_l5 N n_), rshows_j2_k N (rshows_l5 N n_), rshows_j1_k N (rshows_l5 N n_)] none 400 true rshows_l5_at (stL rshows_l5_st ((m, (), a, b, allowed, holds, i, k, n, ()), ((e, e2, e3, ()), ()))) (stH rshows_l5_st ((m, (), a, b, allowed, holds, i, k, n, ()), ((e, e2, e3, ()), ()))) = rshows_l5 N (n_ + 1) m a b allowed holds i k n e e2 e3 := by kernel_rfl
theorem rshows_l5_ok (N : Nat) {top : Bool} : LoopOK Try.prog rshows_B.c rshows_B.n rshows_B.m0 top (rshows_l5_L N) := loop_of_ev (Z := List (List (List Int)) × List Int × List Int × Bool × Bool × Int × Int × List (List Int) × List Int × Int) (N := N) (fun m p => rshows_l5 N m p.1.1 p.1.2.2.1 p.1.2.2.2.1 p.1.2.2.2.2.1 p.1.2.2.2.2.2.1 p.1.2.2.2.2.2.2.1 p.1.2.2.2.2.2.2.2.1 p.1.2.2.2.2.2.2.2.2.1 p.2.1.1 p.2.1.2.1 p.2.1.2.2.1) (fun e => .inl ((e.1, (), e.2.1, e.2.2.1, e.2.2.2.1, e.2.2.2.2.1, e.2.2.2.2.2.1, e.2.2.2.2.2.2.1, ()), ((e.2.2.2.2.2.2.2.1, e.2.2.2.2.2.2.2.2.1, e.2.2.2.2.2.2.2.2.2, ()), ()))) (fun _ _ _ => rfl) (fun _ => rfl) (fun m z E Xc hE hX hrec hx => leaf_of_ev (B := rshows_B) (loops := [rshows_l2_L N, rshows_l1_L N]) (leaves := [rshows_l5_h (rshows_l5 N m), rshows_l5_e0, rshows_j4_k N (rshows_l5 N m), rshows_j3_k N (rshows_l5 N m), rshows_j2_k N (rshows_l5 N m), rshows_j1_k N (rshows_l5 N m)]) (rshows_all N) mixed ⟨rshows_l2_ok N, rshows_l1_ok N, trivial⟩ hE hX ⟨hrec, (fun p hp => by obtain rfl := Option.some.inj hp; exact hx), rshows_j4_lf N _ hE hX hrec (fun p hp => by obtain rfl := Option.some.inj hp; exact hx), rshows_j3_lf N _ hE hX hrec (fun p hp => by obtain rfl := Option.some.inj hp; exact hx), rshows_j2_lf N _ hE hX hrec (fun p hp => by obtain rfl := Option.some.inj hp; exact hx), rshows_j1_lf N _ hE hX hrec (fun p hp => by obtain rfl := Option.some.inj hp; exact hx), trivial⟩ RetOK.no (fun p => rshows_l5_eq N m p.1.1 p.1.2.2.1 p.1.2.2.2.1 p.1.2.2.2.2.1 p.1.2.2.2.2.2.1 p.1.2.2.2.2.2.2.1 p.1.2.2.2.2.2.2.2.1 p.1.2.2.2.2.2.2.2.2.1 p.2.1.1 p.2.1.2.1 p.2.1.2.2.1))
abbrev rshows_l4_at : List PI := [.c [1, 1, 1, 1, 1, 1, 0, 1, 0, 0, 1, 0, 0, 1, 0, 0, 0, 0], .c [1, 1, 1, 1, 1, 1, 0, 1, 0, 0, 1, 0, 0, 1, 0, 0, 0, 1], .c [1, 1, 1, 1, 1, 1, 0, 1, 0, 0, 1, 0, 0, 1, 0, 0, 1], .l [1, 1, 1, 1, 1, 1, 0, 1, 0, 0, 1, 0, 0, 1, 0, 0], .b 6, .b 5, .c [1, 1, 1, 1, 1, 1, 0, 1, 0, 0, 1, 1], .l [1, 1, 1, 1, 1, 1, 0, 1, 0, 0], .b 4, .c [1, 1, 1, 1, 1, 1, 1]]
abbrev rshows_l4_st : Sta := ⟨[2, 3, 9, 10, 13, 14, 15, 16], ⟨[.sl (.sl (.sl (.int .i64))), .own 0 0, .sl (.int .i64), .sl (.int .i64), .b, .b, .i .i64, .i .i64], [.segs [.sl (.sl (.int .i64)), .sl (.int .i64), .i .i64]]⟩⟩
abbrev rshows_l4_h (rec : (List (List (List Int))) → (List Int) → (List Int) → Bool → Bool → Int → Int → (List (List Int)) → (List Int) → Int → Option (List (List (List Int)) × List Int × List Int × Bool × Bool × Int × List (List Int) × List Int × Int)) : Leaf (List (List (List Int)) × List Int × List Int × Bool × Bool × Int × List (List Int) × List Int × Int) := ⟨rshows_l4_at, rshows_l4_st, fun p => rec p.1.1 p.1.2.2.1 p.1.2.2.2.1 p.1.2.2.2.2.1 p.1.2.2.2.2.2.1 p.1.2.2.2.2.2.2.1 p.1.2.2.2.2.2.2.2.1 p.2.1.1 p.2.1.2.1 p.2.1.2.2.1⟩
abbrev rshows_l4_e0 : Leaf (List (List (List Int)) × List Int × List Int × Bool × Bool × Int × List (List Int) × List Int × Int) := ⟨[.c [1, 1, 1, 1, 1, 1, 0, 1, 0, 0, 1, 1], .l [1, 1, 1, 1, 1, 1, 0, 1, 0, 0], .b 4, .c [1, 1, 1, 1, 1, 1, 1]], ⟨[2, 3, 9, 10, 13, 14, 15], ⟨[.sl (.sl (.sl (.int .i64))), .own 0 0, .sl (.int .i64), .sl (.int .i64), .b, .b, .i .i64], [.segs [.sl (.sl (.int .i64)), .sl (.int .i64), .i .i64]]⟩⟩, fun p => some ((p.1.1, p.1.2.2.1, p.1.2.2.2.1, p.1.2.2.2.2.1, p.1.2.2.2.2.2.1, p.1.2.2.2.2.2.2.1, p.2.1.1, p.2.1.2.1, p.2.1.2.2.1))⟩
noncomputable def rshows_l4_L (N : Nat) : LoopS := { at_ := rshows_l4_at, sta := rshows_l4_st, exits := [([.c [1, 1, 1, 1, 1, 1, 0, 1, 0, 0, 1, 1], .l [1, 1, 1, 1, 1, 1, 0, 1, 0, 0], .b 4, .c [1, 1, 1, 1, 1, 1, 1]], ⟨[2, 3, 9, 10, 13, 14, 15], ⟨[.sl (.sl (.sl (.int .i64))), .own 0 0, .sl (.int .i64), .sl (.int .i64), .b, .b, .i .i64], [.segs [.sl (.sl (.int .i64)), .sl (.int .i64), .i .i64]]⟩⟩)], run := fun p k => (rshows_l4 N N p.1.1 p.1.2.2.1 p.1.2.2.2.1 p.1.2.2.2.2.1 p.1.2.2.2.2.2.1 p.1.2.2.2.2.2.2.1 p.1.2.2.2.2.2.2.2.1 p.2.1.1 p.2.1.2.1 p.2.1.2.2.1).bind fun e => k (.inl ((e.1, (), e.2.1, e.2.2.1, e.2.2.2.1, e.2.2.2.2.1, e.2.2.2.2.2.1, ()), ((e.2.2.2.2.2.2.1, e.2.2.2.2.2.2.2.1, e.2.2.2.2.2.2.2.2, ()), ()))) }
theorem rshows_l4_eq (N n_ : Nat) (m : List (List (List Int))) (a : List Int) (b : List Int) (allowed : Bool) (holds : Bool) (i : Int) (k : Int) (e : List (List Int)) (e2 : List Int) (e3 : Int) : ev (Z := List (List (List Int)) × List Int × List Int × Bool × Bool × Int × List (List Int) × List Int × Int) Try.prog (rshows_sp N) rshows_B [rshows_l2_L N, rshows_l1_L N, rshows_l5_L N] [rshows_l4_h (rshows_l4 N n_), rshows_l4_e0] none 400 true rshows_l4_at (stL rshows_l4_st ((m, (), a, b, allowed, holds, i, k, ()), ((e, e2, e3, ()), ()))) (stH rshows_l4_st ((m, (), a, b, allowed, holds, i, k, ()), ((e, e2, e3, ()), ()))) = rshows_l4 N (n_ + 1) m a b allowed holds i k e e2 e3 := by kernel_rfl
theorem rshows_l4_ok (N : Nat) {top : Bool} : LoopOK Try.prog rshows_B.c rshows_B.n rshows_B.m0 top (rshows_l4_L N) := loop_of_ev (Z := List (List (List Int)) × List Int × List Int × Bool × Bool × Int × List (List Int) × List Int × Int) (N := N) (fun m p => rshows_l4 N m p.1.1 p.1.2.2.1 p.1.2.2.2.1 p.1.2.2.2.2.1 p.1.2.2.2.2.2.1 p.1.2.2.2.2.2.2.1 p.1.2.2.2.2.2.2.2.1 p.2.1.1 p.2.1.2.1 p.2.1.2.2.1) (fun e => .inl ((e.1, (), e.2.1, e.2.2.1, e.2.2.2.1, e.2.2.2.2.1, e.2.2.2.2.2.1, ()), ((e.2.2.2.2.2.2.1, e.2.2.2.2.2.2.2.1, e.2.2.2.2.2.2.2.2, ()), ()))) (fun _ _ _ => rfl) (fun _ => rfl) (fun m z E Xc hE hX hrec hx => leaf_of_ev (B := rshows_B) (loops := [rshows_l2_L N, rshows_l1_L N, rshows_l5_L N]) (leaves := [rshows_l4_h (rshows_l4 N m), rshows_l4_e0]) (rshows_all N) mixed ⟨rshows_l2_ok N, rshows_l1_ok N, rshows_l5_ok N, trivial⟩ hE hX ⟨hrec, (fun p hp => by obtain rfl := Option.some.inj hp; exact hx), trivial⟩ RetOK.no (fun p => rshows_l4_eq N m p.1.1 p.1.2.2.1 p.1.2.2.2.1 p.1.2.2.2.2.1 p.1.2.2.2.2.2.1 p.1.2.2.2.2.2.2.1 p.1.2.2.2.2.2.2.2.1 p.2.1.1 p.2.1.2.1 p.2.1.2.2.1))
abbrev rshows_l3_at : List PI := [.c [1, 1, 1, 1, 1, 1, 0, 1, 0, 0, 0, 0], .c [1, 1, 1, 1, 1, 1, 0, 1, 0, 0, 0, 1], .c [1, 1, 1, 1, 1, 1, 0, 1, 0, 0, 1], .l [1, 1, 1, 1, 1, 1, 0, 1, 0, 0], .b 4, .c [1, 1, 1, 1, 1, 1, 1]]
abbrev rshows_l3_st : Sta := ⟨[2, 3, 9, 10, 13, 14, 15], ⟨[.sl (.sl (.sl (.int .i64))), .own 0 0, .sl (.int .i64), .sl (.int .i64), .b, .b, .i .i64], [.segs [.sl (.sl (.int .i64)), .sl (.int .i64), .i .i64]]⟩⟩
abbrev rshows_l3_h (rec : (List (List (List Int))) → (List Int) → (List Int) → Bool → Bool → Int → (List (List Int)) → (List Int) → Int → Option (List (List (List Int)) × List Int × List Int × Bool × Bool × List (List Int) × List Int × Int)) : Leaf (List (List (List Int)) × List Int × List Int × Bool × Bool × List (List Int) × List Int × Int) := ⟨rshows_l3_at, rshows_l3_st, fun p => rec p.1.1 p.1.2.2.1 p.1.2.2.2.1 p.1.2.2.2.2.1 p.1.2.2.2.2.2.1 p.1.2.2.2.2.2.2.1 p.2.1.1 p.2.1.2.1 p.2.1.2.2.1⟩
abbrev rshows_l3_e0 : Leaf (List (List (List Int)) × List Int × List Int × Bool × Bool × List (List Int) × List Int × Int) := ⟨[.c [1, 1, 1, 1, 1, 1, 1, 0, 0], .c [1, 1, 1, 1, 1, 1, 1, 0, 1], .c [1, 1, 1, 1, 1, 1, 1, 1]], ⟨[2, 3, 9, 10, 13, 14], ⟨[.sl (.sl (.sl (.int .i64))), .own 0 0, .sl (.int .i64), .sl (.int .i64), .b, .b], [.segs [.sl (.sl (.int .i64)), .sl (.int .i64), .i .i64]]⟩⟩, fun p => some ((p.1.1, p.1.2.2.1, p.1.2.2.2.1, p.1.2.2.2.2.1, p.1.2.2.2.2.2.1, p.2.1.1, p.2.1.2.1, p.2.1.2.2.1))⟩
noncomputable def rshows_l3_L (N : Nat) : LoopS := { at_ := rshows_l3_at, sta := rshows_l3_st, exits := [([.c [1, 1, 1, 1, 1, 1, 1, 0, 0], .c [1, 1, 1, 1, 1, 1, 1, 0, 1], .c [1, 1, 1, 1, 1, 1, 1, 1]], ⟨[2, 3, 9, 10, 13, 14], ⟨[.sl (.sl (.sl (.int .i64))), .own 0 0, .sl (.int .i64), .sl (.int .i64), .b, .b], [.segs [.sl (.sl (.int .i64)), .sl (.int .i64), .i .i64]]⟩⟩)], run := fun p k => (rshows_l3 N N p.1.1 p.1.2.2.1 p.1.2.2.2.1 p.1.2.2.2.2.1 p.1.2.2.2.2.2.1 p.1.2.2.2.2.2.2.1 p.2.1.1 p.2.1.2.1 p.2.1.2.2.1).bind fun e => k (.inl ((e.1, (), e.2.1, e.2.2.1, e.2.2.2.1, e.2.2.2.2.1, ()), ((e.2.2.2.2.2.1, e.2.2.2.2.2.2.1, e.2.2.2.2.2.2.2, ()), ()))) }
theorem rshows_l3_eq (N n_ : Nat) (m : List (List (List Int))) (a : List Int) (b : List Int) (allowed : Bool) (holds : Bool) (i : Int) (e : List (List Int)) (e2 : List Int) (e3 : Int) : ev (Z := List (List (List Int)) × List Int × List Int × Bool × Bool × List (List Int) × List Int × Int) Try.prog (rshows_sp N) rshows_B [rshows_l2_L N, rshows_l1_L N, rshows_l5_L N, rshows_l4_L N] [rshows_l3_h (rshows_l3 N n_), rshows_l3_e0] none 400 true rshows_l3_at (stL rshows_l3_st ((m, (), a, b, allowed, holds, i, ()), ((e, e2, e3, ()), ()))) (stH rshows_l3_st ((m, (), a, b, allowed, holds, i, ()), ((e, e2, e3, ()), ()))) = rshows_l3 N (n_ + 1) m a b allowed holds i e e2 e3 := by kernel_rfl
theorem rshows_l3_ok (N : Nat) {top : Bool} : LoopOK Try.prog rshows_B.c rshows_B.n rshows_B.m0 top (rshows_l3_L N) := loop_of_ev (Z := List (List (List Int)) × List Int × List Int × Bool × Bool × List (List Int) × List Int × Int) (N := N) (fun m p => rshows_l3 N m p.1.1 p.1.2.2.1 p.1.2.2.2.1 p.1.2.2.2.2.1 p.1.2.2.2.2.2.1 p.1.2.2.2.2.2.2.1 p.2.1.1 p.2.1.2.1 p.2.1.2.2.1) (fun e => .inl ((e.1, (), e.2.1, e.2.2.1, e.2.2.2.1, e.2.2.2.2.1, ()), ((e.2.2.2.2.2.1, e.2.2.2.2.2.2.1, e.2.2.2.2.2.2.2, ()), ()))) (fun _ _ _ => rfl) (fun _ => rfl) (fun m z E Xc hE hX hrec hx => leaf_of_ev (B := rshows_B) (loops := [rshows_l2_L N, rshows_l1_L N, rshows_l5_L N, rshows_l4_L N]) (leaves := [rshows_l3_h (rshows_l3 N m), rshows_l3_e0]) (rshows_all N) mixed ⟨rshows_l2_ok N, rshows_l1_ok N, rshows_l5_ok N, rshows_l4_ok N, trivial⟩ hE hX ⟨hrec, (fun p hp => by obtain rfl := Option.some.inj hp; exact hx), trivial⟩ RetOK.no (fun p => rshows_l3_eq N m p.1.1 p.1.2.2.1 p.1.2.2.2.1 p.1.2.2.2.2.1 p.1.2.2.2.2.2.1 p.1.2.2.2.2.2.2.1 p.2.1.1 p.2.1.2.1 p.2.1.2.2.1))
abbrev rshows_st : Sta := ⟨[0, 1, 2], ⟨[.agg [.sl (.sl (.int .i64)), .sl (.int .i64), .i .i64], .agg [.i .i64, .i .i64], .sl (.sl (.sl (.int .i64)))], []⟩⟩
theorem rshows_eq (N : Nat) (e : List (List Int)) (e2 : List Int) (e3 : Int) (p : Int) (p2 : Int) (m : List (List (List Int))) : ev (Z := Int × Int) Try.prog (rshows_sp N) rshows_B [rshows_l2_L N, rshows_l1_L N, rshows_l5_L N, rshows_l4_L N, rshows_l3_L N] [] (some rshows_rt) 400 false [.c [0], .c [1]] (stL rshows_st (((e, e2, e3, ()), (p, p2, ()), m, ()), ())) (stH rshows_st (((e, e2, e3, ()), (p, p2, ()), m, ()), ())) = rshows_S N e e2 e3 p p2 m := by kernel_rfl
noncomputable def sp_rshows (N : Nat) : Spec := { f := 66, ins := ⟨[.agg [.sl (.sl (.int .i64)), .sl (.int .i64), .i .i64], .agg [.i .i64, .i .i64], .sl (.sl (.sl (.int .i64)))], []⟩, outs := [⟨[.i .i64, .i .i64], []⟩], run := fun p k => (rshows_S N p.1.1.1 p.1.1.2.1 p.1.1.2.2.1 p.1.2.1.1 p.1.2.1.2.1 p.1.2.2.1).bind fun r => k ((r.1, r.2, ()), ()) }
theorem sp_rshows_ok (N : Nat) : SpecOK Try.prog (sp_rshows N) := fn_sound (B := rshows_B) (loops := [rshows_l2_L N, rshows_l1_L N, rshows_l5_L N, rshows_l4_L N, rshows_l3_L N]) (leaves := []) (fun p => rshows_S N p.1.1.1 p.1.1.2.1 p.1.1.2.2.1 p.1.2.1.1 p.1.2.1.2.1 p.1.2.2.1) (fun r => ((r.1, r.2, ()), ())) rshows_rt (fun _ _ _ => rfl) (fun r z h => by cases h; rfl) Try.func66 (by kernel_rfl) (by kernel_rfl) (by kernel_rfl) rfl rfl (by kernel_rfl) (fun args w => Sem.pv_run _ _ _ (by kernel_rfl) w) (rshows_all N) mixed ⟨rshows_l2_ok N, rshows_l1_ok N, rshows_l5_ok N, rshows_l4_ok N, rshows_l3_ok N, trivial⟩ (fun z E Xc hE hX hret => trivial) (fun p => rshows_eq N p.1.1.1 p.1.1.2.1 p.1.1.2.2.1 p.1.2.1.1 p.1.2.1.2.1 p.1.2.2.1)

end Go.Proofs.Ytfcnhnbnjdccfaa

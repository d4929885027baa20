/-
  Parts of a proof, put together: F7, Fm3, FD1, FD2, FD3, FD4, FD5, FD6, FD7, FD8, FD9, FDa, FDb, FDj, FAw, FLd.
  Conditions: none.
-/
import Derived.Test.YthncjilcflilcaaZd
import Derived.Test.YthncjilcflilcaaZf
import Derived.Test.YthncjilcflilcaaZg
namespace Go.Proofs.Ythncjilcflilcaa
set_option linter.all false
open Go

def rwith_j2 (N : Nat) (g : Int) (out : Li) (out2 : Int) (out3 : Ll) (out4 : Ll) (out5 : Li) : Option (Li × Int × Ll × Ll × Li × Int) :=
  some (out, out2, out3, out4, out5, 0)
def rwith_j1 (N : Nat) (found : Int) (trait : Int) (value : Int) (d : Li) (d2 : Int) (d3 : Ll) (d4 : Ll) (d5 : Li) (g : Int) (out : Li) (out2 : Int) (out3 : Ll) (out4 : Li) : Option (Li × Int × Ll × Ll × Li × Int) :=
  if ((0 ≤ found ∧ found < d4.length) ∧ 0 ≤ trait ∧ trait < (d4.getD found.toNat []).length) ∧ d4.length ≤ 1000000 ∧ ∀ r ∈ d4, r ≠ [] ∧ r.length ≤ 1000000 then
    rwith_j2 N g out out2 out3 (d4.set found.toNat ((d4.getD found.toNat []).set trait.toNat value)) out4
  else none
def rwith_S (N : Nat) (d : Li) (d2 : Int) (d3 : Ll) (d4 : Ll) (d5 : Li) (found : Int) (trait : Int) (value : Int) : Option (Li × Int × Ll × Ll × Li × Int) :=
  (rcheck_S N d d2 d3 d4 d5).bind fun x_1 =>
  br (!decide (x_1 = 0))
    (some ([], 0, [], [], [], x_1))
    (chk ((d4.length : Int) - 1) <|
    (off_S N found 0 ((d4.length : Int) - 1)).bind fun x_2 =>
    br x_2
      (some ([], 0, [], [], [], 1))
      (chk ((d.length : Int) - 1) <|
      (off_S N trait 0 ((d.length : Int) - 1)).bind fun x_3 =>
      br x_3
        (some ([], 0, [], [], [], 1))
        (idx d4 found fun x_4 =>
        idx x_4 trait fun x_5 =>
        br (decide (0 ≤ x_5))
          (some ([], 0, [], [], [], 5))
          ((off_S N value 0 5).bind fun x_6 =>
          br x_6
            (some ([], 0, [], [], [], 3))
            (rwith_j1 N found trait value d d2 d3 d4 d5 0 d d2 d3 d5)))))
noncomputable def rwith_sp (N : Nat) : List Spec := [sp_off N, sp_rcheck N]
theorem rwith_all (N : Nat) : AllP (SpecOK Try.prog) (rwith_sp N) := ⟨sp_off_ok N, sp_rcheck_ok N, trivial⟩
noncomputable def rwith_c : Code := (Try.f33.body).getD .skip
noncomputable abbrev rwith_B : Body := { c := rwith_c, n := 77, res := [.cell 8 47, .tmp 9], outs := [⟨[shG, shI], []⟩], m0 := 0 }
abbrev rwith_rt : altD rwith_B.outs → Option (Li × Int × Ll × Ll × Li × Int) := fun r => some (r.1.1.1, r.1.1.2.1, r.1.1.2.2.1, r.1.1.2.2.2.1, r.1.1.2.2.2.2.1, r.1.2.1)
abbrev rwith_j2_at : List PI := [.c [1, 1, 1, 1, 1, 1, 1, 1, 1, 0], .c [1, 1, 1, 1, 1, 1, 1, 1, 1, 1]]
abbrev rwith_j2_st : Sta := ⟨[8, 11], ⟨[.own 1 0, .own 2 0], [.dead, .segs [.nils, shI, .nils, .nils, .nils], .segs [shL, shI, shQ, shQ, shL]]⟩⟩
abbrev rwith_j2_k (N : Nat) : Leaf (Li × Int × Ll × Ll × Li × Int) := ⟨rwith_j2_at, rwith_j2_st, fun p => rwith_j2 N p.2.2.1.2.1 p.2.2.2.1.1 p.2.2.2.1.2.1 p.2.2.2.1.2.2.1 p.2.2.2.1.2.2.2.1 p.2.2.2.1.2.2.2.2.1⟩
theorem rwith_j2_eq (N : Nat) (g : Int) (out : Li) (out2 : Int) (out3 : Ll) (out4 : Ll) (out5 : Li) : ev (Z := Li × Int × Ll × Ll × Li × Int) Try.prog (rwith_sp N) rwith_B [] [] (some rwith_rt) 400 true rwith_j2_at (stL rwith_j2_st (((), (), ()), ((), ((), g, (), (), (), ()), (out, out2, out3, out4, out5, ()), ()))) (stH rwith_j2_st (((), (), ()), ((), ((), g, (), (), (), ()), (out, out2, out3, out4, out5, ()), ()))) = rwith_j2 N g out out2 out3 out4 out5 := by kernel_rfl
theorem rwith_j2_lf (N : Nat) {z : Li × Int × Ll × Ll × Li × Int} {E : EE} {Xc : Ctx} (hE : EOK rwith_B.m0 E) (hX : CxOK true Xc) (hret : RetOK Try.prog rwith_B E Xc z (some rwith_rt)) : LeafOK Try.prog rwith_B.c rwith_B.n rwith_B.m0 E Xc z (rwith_j2_k N) := leaf_of_ev (B := rwith_B) (loops := []) (leaves := []) (rwith_all N) mixed trivial hE hX trivial hret (fun p => rwith_j2_eq N p.2.2.1.2.1 p.2.2.2.1.1 p.2.2.2.1.2.1 p.2.2.2.1.2.2.1 p.2.2.2.1.2.2.2.1 p.2.2.2.1.2.2.2.2.1)
abbrev rwith_j1_at : List PI := [.c [1, 1, 1, 1, 1, 1, 1, 0, 0], .c [1, 1, 1, 1, 1, 1, 1, 0, 1], .c [1, 1, 1, 1, 1, 1, 1, 1]]
abbrev rwith_j1_st : Sta := ⟨[1, 2, 3, 4, 8, 11], ⟨[shI, shI, shI, .own 0 0, .own 1 0, .own 2 0], [.segs [shL, shI, shQ, shQ, shL], .segs [.nils, shI, .nils, .nils, .nils], .segs [shL, shI, shQ, .nils, shL]]⟩⟩
abbrev rwith_j1_k (N : Nat) : Leaf (Li × Int × Ll × Ll × Li × Int) := ⟨rwith_j1_at, rwith_j1_st, fun p => rwith_j1 N p.1.1 p.1.2.1 p.1.2.2.1 p.2.1.1 p.2.1.2.1 p.2.1.2.2.1 p.2.1.2.2.2.1 p.2.1.2.2.2.2.1 p.2.2.1.2.1 p.2.2.2.1.1 p.2.2.2.1.2.1 p.2.2.2.1.2.2.1 p.2.2.2.1.2.2.2.2.1⟩
theorem rwith_j1_lf (N : Nat) {z : Li × Int × Ll × Ll × Li × Int} {E : EE} {Xc : Ctx} (hE : EOK rwith_B.m0 E) (hX : CxOK true Xc) (hret : RetOK Try.prog rwith_B E Xc z (some rwith_rt)) : LeafOK Try.prog rwith_B.c rwith_B.n rwith_B.m0 E Xc z (rwith_j1_k N) := by
  rintro ⟨⟨fo, tr, va, u1, u2, u3, u4⟩, ⟨dW, ds, dL, F, dR, u5⟩, ⟨v1, g0, v2, v3, v4, v5⟩, ⟨W, s, L, v6, R, v7⟩, v8⟩ hfn a w hS
  have hfn : rwith_j1 N fo tr va dW ds dL F dR g0 W s L R = some z := hfn
  unfold rwith_j1 at hfn
  split at hfn
  rotate_left
  · cases hfn
  rename_i hc
  obtain ⟨⟨⟨hf0, hf1⟩, ht0, ht1⟩, hFn, hF⟩ := hc
  obtain ⟨f, rfl⟩ : ∃ f : Nat, fo = f := ⟨fo.toNat, (Int.toNat_of_nonneg hf0).symm⟩
  obtain ⟨t, rfl⟩ : ∃ t : Nat, tr = t := ⟨tr.toNat, (Int.toNat_of_nonneg ht0).symm⟩
  simp only [Int.toNat_natCast] at hfn ht1
  have hf : f < F.length := by omega
  have ht : t < (F.getD f []).length := by omega
  obtain ⟨⟨g, hs, htm, hi, he⟩, hsz, hm⟩ := hS
  have h1 : RepV g (.i .i64 f) (a.tmps.getD 1 undef) := htm 1 _ rfl
  have h2 : RepV g (.i .i64 t) (a.tmps.getD 2 undef) := htm 2 _ rfl
  have h3 : RepV g (.i .i64 va) (a.tmps.getD 3 undef) := htm 3 _ rfl
  have h4 : RepV g (.own 0 0) (a.tmps.getD 4 undef) := htm 4 _ rfl
  have h8 : RepV g (.own 1 0) (a.tmps.getD 8 undef) := htm 8 _ rfl
  have h9 : RepV g (.own 2 0) (a.tmps.getD 11 undef) := htm 11 _ rfl
  have hB0 : RepBlk g w 0 (.segs [.sl (.int .i64) dW, .i .i64 ds, .sl (.sl (.int .i64)) dL, .sl (.sl (.int .i64)) F, .sl (.int .i64) dR]) := hs.blk 0 _ rfl
  have hB1 : RepBlk g w 1 (.segs [.nils, .i .i64 g0, .nils, .nils, .nils]) := hs.blk 1 _ rfl
  have hB2 : RepBlk g w 2 (.segs [.sl (.int .i64) W, .i .i64 s, .sl (.sl (.int .i64)) L, .nils, .sl (.int .i64) R]) := hs.blk 2 _ rfl
  have hdis : ∀ i j b ci ni cj nj, i < 3 → j < 3 → g.ρ i = some (some (b, ci, ni)) → g.ρ j = some (some (b, cj, nj)) → i = j := fun i j b ci ni cj nj hi hj e1 e2 => by
    have hk : ∀ i, i < 3 → ∃ k, (stH rwith_j1_st (((↑f : Int), (↑t : Int), va, u1, u2, u3, u4), (dW, ds, dL, F, dR, u5), (v1, g0, v2, v3, v4, v5), (W, s, L, v6, R, v7), v8))[i]? = some k ∧ k.mut = true := fun i hi => by
      match i, hi with
      | 0, _ => exact ⟨_, rfl, rfl⟩
      | 1, _ => exact ⟨_, rfl, rfl⟩
      | 2, _ => exact ⟨_, rfl, rfl⟩
    obtain ⟨ki, x1, x2⟩ := hk i hi
    obtain ⟨kj, y1, y2⟩ := hk j hj
    exact hs.inj i j ki kj b ci ni cj nj x1 y1 x2 y2 e1 e2
  simp only [RepV] at h1 h2 h3 h4 h8 h9
  obtain ⟨b0, c0, n0, us0, ty0, e0, hb0, hp0, hm0⟩ := hB0
  obtain ⟨b1, c1, n1, us1, ty1, e1, hb1, hp1, hm1⟩ := hB1
  obtain ⟨b2, c2, n2, us2, ty2, e2, hb2, hp2, hm2⟩ := hB2
  obtain ⟨_, _, _, e4, h4⟩ := h4
  rw [e0] at e4; cases e4
  obtain ⟨_, _, _, e8, h8⟩ := h8
  rw [e1] at e8; cases e8
  obtain ⟨_, _, _, e9, h9⟩ := h9
  rw [e2] at e9; cases e9
  simp only [RepPs, PartOf, RepV] at hp0 hp2
  obtain ⟨_, _, rfl, ⟨xW, rfl, hxW⟩, _, _, rfl, ⟨xs, rfl, hxs⟩, _, _, rfl, ⟨xL, rfl, hxL⟩, _, _, rfl, ⟨xF, rfl, hxF⟩, _, _, rfl, ⟨xR, rfl, hxR⟩, rfl⟩ := hp0
  obtain ⟨_, _, rfl, ⟨yW, rfl, hW⟩, _, _, rfl, ⟨ys, rfl, hs_⟩, _, _, rfl, ⟨yL, rfl, hL⟩, _, _, rfl, ⟨yF, rfl, hyF⟩, _, _, rfl, ⟨yR, rfl, hR⟩, rfl⟩ := hp2
  subst hyF
  obtain ⟨aF, cF, rfl⟩ : ∃ aF cF, xF = .slice aF F.length cF := by
    obtain ⟨-, x, y, e, -⟩ := hxF
    exact ⟨x, y, e⟩
  have hlt0 := lt_of_blk hb0
  have hlt1 := lt_of_blk hb1
  have hlt2 := lt_of_blk hb2
  have h02 : b0 ≠ b2 := fun e => by
    subst e
    have := hdis 0 2 _ _ _ _ _ (by omega) (by omega) e0 e2
    omega
  have h12 : b1 ≠ b2 := fun e => by
    subst e
    have := hdis 1 2 _ _ _ _ _ (by omega) (by omega) e1 e2
    omega
  have hMw : ∀ b o, g.M b = some o → b ≠ b2 ∧ w.heap[b]? = some o := fun b o h => ⟨fun e => (by rw [e, hm2] at h; cases h), hs.mem b o h⟩
  have hwalk := with_walk (X := Xc) (df := a.defers) (M := g.M) b0 b1 b2 f t va F xW xs xL xR yW ys yL yR aF cF ty0 ty2 w hMw h02 hb0 hb2 hxF hFn hF hf ht h3.2 (fun bl c w' hu hb hc hlo hRF => ?_)
  · have e : (rwith_j1_k N).at_.map (itm rwith_B.c) = K33_20 := by kernel_rfl
    rw [e]
    refine St.toAt (tm := a.tmps) hwalk ⟨hsz, has_mem _ (fun x hx => ?_)⟩
    simp only [List.mem_cons, List.not_mem_nil, or_false] at hx
    rcases hx with rfl | rfl | rfl | rfl | rfl | rfl
    · exact h1.1
    · exact h2.1
    · exact h3.1
    · exact h4
    · exact h8
    · exact h9
  · intro tm htm'
    have e : (rwith_j2_k N).at_.map (itm rwith_B.c) = K33_26 := by kernel_rfl
    rw [← e]
    have hge : GE g ⟨g.ρ, frzM g.M [] w.heap.size w'⟩ := ⟨fun _ _ h => h, frzM_mono⟩
    have hMlt : ∀ b o, g.M b = some o → b < w.heap.size := fun b o h => lt_of_blk (hs.mem b o h)
    have hMbl : g.M bl = none := by
      cases e : g.M bl with
      | none => rfl
      | some o => have := hMlt bl o e; omega
    have hrepF := RowsOK.rep (S := []) (c := c) hRF hMlt hMbl (.inr hlo) (by simpa using hFn) (by simpa using hc)
    rw [List.length_set] at hrepF
    refine rwith_j2_lf N hE hX hret (((), (), ()), ((), ((), g0, (), (), (), ()), (W, s, L, F.set f ((F.getD f []).set t va), R, ()), ())) hfn _ _ ⟨⟨⟨g.ρ, frzM g.M [] w.heap.size w'⟩, ⟨fun b o h => ?_, fun id k hk => ?_, fun i j ki kj b ci ni cj nj x1 y1 x2 y2 z1 z2 => ?_⟩, ?_, fun i hi' => hi i hi', ?_⟩, htm'.1, hm⟩
    · rcases frzM_inv h with h | ⟨_, _, h, _⟩
      · exact hu.blk (hs.mem b o h) (by simp [(hMw b o h).1])
      · exact h
    · match id, hk with
      | 0, hk => cases hk; trivial
      | 1, hk =>
        cases hk
        exact ⟨b1, c1, n1, us1, ty1, e1, hu.blk hb1 (by simp [h12]), RepPs.mono hge _ _ hp1, frzM_none hm1 (by simp) hlt1⟩
      | 2, hk =>
        cases hk
        exact ⟨b2, c2, n2, _, ty2, e2, hb, ⟨_, _, rfl, ⟨_, rfl, RepS.mono hW frzM_mono (fun _ _ h => h)⟩, _, _, rfl, ⟨_, rfl, hs_⟩, _, _, rfl, ⟨_, rfl, RepV.mono hge (.sl (.sl (.int .i64)) L) _ hL⟩, _, _, rfl, ⟨_, rfl, hrepF⟩, _, _, rfl, ⟨_, rfl, RepS.mono hR frzM_mono (fun _ _ h => h)⟩, rfl⟩, frzM_none hm2 (by simp) hlt2⟩
      | n + 3, hk => cases hk
    · have hlt : ∀ i k, (stH rwith_j2_st (((), (), ()), ((), ((), g0, (), (), (), ()), (W, s, L, F.set f ((F.getD f []).set t va), R, ()), ())))[i]? = some k → k.mut = true → i < 3 := fun i k h1 h2 => by
        match i, h1 with
        | 0, _ => omega
        | 1, _ => omega
        | 2, _ => omega
        | n + 3, h => cases h
      exact hdis i j _ _ _ _ _ (hlt i ki x1 x2) (hlt j kj y1 y2) z1 z2
    · exact zip_tmF [8, 11] _ ⟨_, _, rfl, ⟨b1, c1, n1, e1, htm'.2 8 _ rfl⟩, _, _, rfl, ⟨b2, c2, n2, e2, htm'.2 11 _ rfl⟩, rfl⟩
    · have hSw : ∀ b ∈ [b2], Sw g (fun i => (stH rwith_j1_st (((↑f : Int), (↑t : Int), va, u1, u2, u3, u4), (dW, ds, dL, F, dR, u5), (v1, g0, v2, v3, v4, v5), (W, s, L, v6, R, v7), v8))[i]?) [2] b := fun b hb => by
        simp only [List.mem_singleton] at hb
        subst hb
        exact ⟨2, by simp, _, c2, n2, rfl, rfl, e2⟩
      refine hE.step (nw := fun _ => False) (wr := [2]) (fun _ h => h.elim) hs ⟨hu.os, hu.tape, hu.output, hu.size, fun b hb hn => hu.same b hb (fun h => hn (hSw b h)), hge, fun id h0 h1 => absurd h0 h1, fun id b c n h0 h1 => (by rw [h0] at h1; cases h1), fun b o h => ?_⟩ he
      rcases frzM_inv h with h | ⟨x1, x2, x3, x4⟩
      · exact .inl h
      · exact .inr ⟨x1, .inl (by rcases x2 with h | h; cases h; exact h), x4⟩

abbrev rwith_st : Sta := ⟨[0, 1, 2, 3], ⟨[shG, shI, shI, shI], []⟩⟩
theorem rwith_eq (N : Nat) (d : Li) (d2 : Int) (d3 : Ll) (d4 : Ll) (d5 : Li) (found : Int) (trait : Int) (value : Int) : ev (Z := Li × Int × Ll × Ll × Li × Int) Try.prog (rwith_sp N) rwith_B [] [rwith_j1_k N] (some rwith_rt) 400 false [.c [0], .c [1]] (stL rwith_st (((d, d2, d3, d4, d5, ()), found, trait, value, ()), ())) (stH rwith_st (((d, d2, d3, d4, d5, ()), found, trait, value, ()), ())) = rwith_S N d d2 d3 d4 d5 found trait value := by kernel_rfl
noncomputable def sp_rwith (N : Nat) : Spec := { f := 33, ins := ⟨[shG, shI, shI, shI], []⟩, outs := [⟨[shG, shI], []⟩], run := fun p k => (rwith_S N p.1.1.1 p.1.1.2.1 p.1.1.2.2.1 p.1.1.2.2.2.1 p.1.1.2.2.2.2.1 p.1.2.1 p.1.2.2.1 p.1.2.2.2.1).bind fun r => k (((r.1, r.2.1, r.2.2.1, r.2.2.2.1, r.2.2.2.2.1, ()), r.2.2.2.2.2, ()), ()) }
theorem sp_rwith_ok (N : Nat) : SpecOK Try.prog (sp_rwith N) := fn_sound (B := rwith_B) (loops := []) (leaves := [rwith_j1_k N]) (fun p => rwith_S N p.1.1.1 p.1.1.2.1 p.1.1.2.2.1 p.1.1.2.2.2.1 p.1.1.2.2.2.2.1 p.1.2.1 p.1.2.2.1 p.1.2.2.2.1) (fun r => (((r.1, r.2.1, r.2.2.1, r.2.2.2.1, r.2.2.2.2.1, ()), r.2.2.2.2.2, ()), ())) rwith_rt (fun _ _ _ => rfl) (fun r z h => by cases h; rfl) Try.func33 (by kernel_rfl) (by kernel_rfl) (by kernel_rfl) rfl rfl (by kernel_rfl) (fun args w => Sem.pv_run _ _ _ (by kernel_rfl) w) (rwith_all N) mixed trivial (fun z E Xc hE hX hret => ⟨rwith_j1_lf N hE hX hret, trivial⟩) (fun p => rwith_eq N p.1.1.1 p.1.1.2.1 p.1.1.2.2.1 p.1.1.2.2.2.1 p.1.1.2.2.2.2.1 p.1.2.1 p.1.2.2.1 p.1.2.2.2.1)

def rask_j1 (N : Nat) (rec : Int → Int → Int → Int → Int → Int → Int → Li → Int → Ll → Ll → Li → Option (Int × Int × Int × Int × Int × Int × Li × Int × Ll × Ll × Li)) (found : Int) (trait : Int) (least : Int) (k : Int) (t : Int) (most : Int) (v : Int) (d : Li) (d2 : Int) (d3 : Ll) (d4 : Ll) (d5 : Li) : Option (Int × Int × Int × Int × Int × Int × Li × Int × Ll × Ll × Li) :=
  chk (v + 1) <|
  rec found trait least k t most (v + 1) d d2 d3 d4 d5
def rask_l3 (N : Nat) : Nat → Int → Int → Int → Int → Int → Int → Int → Li → Int → Ll → Ll → Li → Option (Int × Int × Int × Int × Int × Int × Li × Int × Ll × Ll × Li)
  | 0, _, _, _, _, _, _, _, _, _, _, _, _ => none
  | n_ + 1, found, trait, least, k, t, most, v, d, d2, d3, d4, d5 =>
    br (decide (v ≤ 5))
      ((rwith_S N d d2 d3 d4 d5 k t v).bind fun (x_2, y_3, y_4, y_5, y_6, y_7) =>
      br (decide (y_7 = 0))
        ((rbest_S N x_2 y_3 y_4 y_5 y_6).bind fun (x_8, y_9) =>
        rask_j1 N (rask_l3 N n_) found trait least k t (max most (x_8.length : Int)) v d d2 d3 d4 d5)
        (rask_j1 N (rask_l3 N n_) found trait least k t most v d d2 d3 d4 d5))
      (some ((found, trait, least, k, t, most, d, d2, d3, d4, d5)))
def rask_j2 (N : Nat) (rec : Int → Int → Int → Int → Int → Li → Int → Ll → Ll → Li → Option (Int × Int × Int × Int × Li × Int × Ll × Ll × Li)) (found : Int) (trait : Int) (least : Int) (k : Int) (t : Int) (d : Li) (d2 : Int) (d3 : Ll) (d4 : Ll) (d5 : Li) : Option (Int × Int × Int × Int × Li × Int × Ll × Ll × Li) :=
  chk (t + 1) <|
  rec found trait least k (t + 1) d d2 d3 d4 d5
def rask_l2 (N : Nat) : Nat → Int → Int → Int → Int → Int → Li → Int → Ll → Ll → Li → Option (Int × Int × Int × Int × Li × Int × Ll × Ll × Li)
  | 0, _, _, _, _, _, _, _, _, _, _ => none
  | n_ + 1, found, trait, least, k, t, d, d2, d3, d4, d5 =>
    br (decide (t < (d.length : Int)))
      ((rask_l3 N N found trait least k t 0 0 d d2 d3 d4 d5).bind fun (found_10, trait_11, least_12, k_13, t_14, most_15, d_16, d2_17, d3_18, d4_19, d5_20) =>
      br (decide (0 < most_15))
        (br (decide (least_12 = 0))
          (rask_j2 N (rask_l2 N n_) k_13 t_14 most_15 k_13 t_14 d_16 d2_17 d3_18 d4_19 d5_20)
          (br (decide (most_15 < least_12))
            (rask_j2 N (rask_l2 N n_) k_13 t_14 most_15 k_13 t_14 d_16 d2_17 d3_18 d4_19 d5_20)
            (rask_j2 N (rask_l2 N n_) found_10 trait_11 least_12 k_13 t_14 d_16 d2_17 d3_18 d4_19 d5_20)))
        (rask_j2 N (rask_l2 N n_) found_10 trait_11 least_12 k_13 t_14 d_16 d2_17 d3_18 d4_19 d5_20))
      (some ((found, trait, least, k, d, d2, d3, d4, d5)))
def rask_l1 (N : Nat) : Nat → Int → Int → Int → Int → Li → Int → Ll → Ll → Li → Option (Int × Int × Int)
  | 0, _, _, _, _, _, _, _, _, _ => none
  | n_ + 1, found, trait, least, k, d, d2, d3, d4, d5 =>
    br (decide (k < (d4.length : Int)))
      ((rask_l2 N N found trait least k 0 d d2 d3 d4 d5).bind fun (found_21, trait_22, least_23, k_24, d_25, d2_26, d3_27, d4_28, d5_29) =>
      chk (k_24 + 1) <|
      rask_l1 N n_ found_21 trait_22 least_23 (k_24 + 1) d_25 d2_26 d3_27 d4_28 d5_29)
      (some ((found, trait, least)))
def rask_S (N : Nat) (d : Li) (d2 : Int) (d3 : Ll) (d4 : Ll) (d5 : Li) : Option (Int × Int × Int × Int) :=
  (rcheck_S N d d2 d3 d4 d5).bind fun x_1 =>
  br (!decide (x_1 = 0))
    (some (0, 0, 0, x_1))
    ((rask_l1 N N 0 0 0 0 d d2 d3 d4 d5).bind fun (found_30, trait_31, least_32) =>
    br (decide (least_32 = 0))
      (some (0, 0, 0, 6))
      (some (found_30, trait_31, least_32, 0)))
noncomputable def rask_sp (N : Nat) : List Spec := [sp_rcheck N, sp_rbest N, sp_rwith N]
theorem rask_all (N : Nat) : AllP (SpecOK Try.prog) (rask_sp N) := ⟨sp_rcheck_ok N, sp_rbest_ok N, sp_rwith_ok N, trivial⟩
noncomputable def rask_c : Code := (Try.f29.body).getD .skip
noncomputable abbrev rask_B : Body := { c := rask_c, n := 79, res := [.tmp 2, .tmp 3, .tmp 4, .tmp 5], outs := [⟨[shI, shI, shI, shI], []⟩], m0 := 0 }
abbrev rask_rt : altD rask_B.outs → Option (Int × Int × Int × Int) := fun r => some (r.1.1, r.1.2.1, r.1.2.2.1, r.1.2.2.2.1)
abbrev rask_l3_at : List PI := [.c [1, 1, 1, 0, 1, 0, 0, 1, 0, 0, 1, 0, 0, 1, 0, 0, 1, 0, 1, 0, 0, 0, 0], .c [1, 1, 1, 0, 1, 0, 0, 1, 0, 0, 1, 0, 0, 1, 0, 0, 1, 0, 1, 0, 0, 0, 1], .c [1, 1, 1, 0, 1, 0, 0, 1, 0, 0, 1, 0, 0, 1, 0, 0, 1, 0, 1, 0, 0, 1], .l [1, 1, 1, 0, 1, 0, 0, 1, 0, 0, 1, 0, 0, 1, 0, 0, 1, 0, 1, 0, 0], .b 4, .c [1, 1, 1, 0, 1, 0, 0, 1, 0, 0, 1, 0, 0, 1, 0, 0, 1, 1], .b 3, .c [1, 1, 1, 0, 1, 0, 0, 1, 0, 0, 1, 0, 0, 1, 1], .l [1, 1, 1, 0, 1, 0, 0, 1, 0, 0, 1, 0, 0], .b 2, .b 1, .c [1, 1, 1, 0, 1, 0, 0, 1, 1], .l [1, 1, 1, 0, 1, 0, 0], .b 0, .c [1, 1, 1, 1]]
abbrev rask_l3_st : Sta := ⟨[1, 7, 8, 9, 10, 11, 12, 13], ⟨[.own 0 0, shI, shI, shI, shI, shI, shI, shI], [.segs [shL, shI, shQ, shQ, shL]]⟩⟩
abbrev rask_l3_h (rec : Int → Int → Int → Int → Int → Int → Int → Li → Int → Ll → Ll → Li → Option (Int × Int × Int × Int × Int × Int × Li × Int × Ll × Ll × Li)) : Leaf (Int × Int × Int × Int × Int × Int × Li × Int × Ll × Ll × Li) := ⟨rask_l3_at, rask_l3_st, fun p => rec p.1.2.1 p.1.2.2.1 p.1.2.2.2.1 p.1.2.2.2.2.1 p.1.2.2.2.2.2.1 p.1.2.2.2.2.2.2.1 p.1.2.2.2.2.2.2.2.1 p.2.1.1 p.2.1.2.1 p.2.1.2.2.1 p.2.1.2.2.2.1 p.2.1.2.2.2.2.1⟩
abbrev rask_l3_e0 : Leaf (Int × Int × Int × Int × Int × Int × Li × Int × Ll × Ll × Li) := ⟨[.c [1, 1, 1, 0, 1, 0, 0, 1, 0, 0, 1, 0, 0, 1, 0, 0, 1, 1, 0], .c [1, 1, 1, 0, 1, 0, 0, 1, 0, 0, 1, 0, 0, 1, 0, 0, 1, 1, 1], .b 3, .c [1, 1, 1, 0, 1, 0, 0, 1, 0, 0, 1, 0, 0, 1, 1], .l [1, 1, 1, 0, 1, 0, 0, 1, 0, 0, 1, 0, 0], .b 2, .b 1, .c [1, 1, 1, 0, 1, 0, 0, 1, 1], .l [1, 1, 1, 0, 1, 0, 0], .b 0, .c [1, 1, 1, 1]], ⟨[1, 7, 8, 9, 10, 11, 12], ⟨[.own 0 0, shI, shI, shI, shI, shI, shI], [.segs [shL, shI, shQ, shQ, shL]]⟩⟩, fun p => some ((p.1.2.1, p.1.2.2.1, p.1.2.2.2.1, p.1.2.2.2.2.1, p.1.2.2.2.2.2.1, p.1.2.2.2.2.2.2.1, p.2.1.1, p.2.1.2.1, p.2.1.2.2.1, p.2.1.2.2.2.1, p.2.1.2.2.2.2.1))⟩
abbrev rask_j1_at : List PI := [.c [1, 1, 1, 0, 1, 0, 0, 1, 0, 0, 1, 0, 0, 1, 0, 0, 1, 0, 1, 0, 0, 1, 1], .l [1, 1, 1, 0, 1, 0, 0, 1, 0, 0, 1, 0, 0, 1, 0, 0, 1, 0, 1, 0, 0], .b 4, .c [1, 1, 1, 0, 1, 0, 0, 1, 0, 0, 1, 0, 0, 1, 0, 0, 1, 1], .b 3, .c [1, 1, 1, 0, 1, 0, 0, 1, 0, 0, 1, 0, 0, 1, 1], .l [1, 1, 1, 0, 1, 0, 0, 1, 0, 0, 1, 0, 0], .b 2, .b 1, .c [1, 1, 1, 0, 1, 0, 0, 1, 1], .l [1, 1, 1, 0, 1, 0, 0], .b 0, .c [1, 1, 1, 1]]
abbrev rask_j1_st : Sta := ⟨[1, 7, 8, 9, 10, 11, 12, 13], ⟨[.own 0 0, shI, shI, shI, shI, shI, shI, shI], [.segs [shL, shI, shQ, shQ, shL]]⟩⟩
abbrev rask_j1_k (N : Nat) (rec : Int → Int → Int → Int → Int → Int → Int → Li → Int → Ll → Ll → Li → Option (Int × Int × Int × Int × Int × Int × Li × Int × Ll × Ll × Li)) : Leaf (Int × Int × Int × Int × Int × Int × Li × Int × Ll × Ll × Li) := ⟨rask_j1_at, rask_j1_st, fun p => rask_j1 N rec p.1.2.1 p.1.2.2.1 p.1.2.2.2.1 p.1.2.2.2.2.1 p.1.2.2.2.2.2.1 p.1.2.2.2.2.2.2.1 p.1.2.2.2.2.2.2.2.1 p.2.1.1 p.2.1.2.1 p.2.1.2.2.1 p.2.1.2.2.2.1 p.2.1.2.2.2.2.1⟩
theorem rask_j1_eq (N : Nat) (rec : Int → Int → Int → Int → Int → Int → Int → Li → Int → Ll → Ll → Li → Option (Int × Int × Int × Int × Int × Int × Li × Int × Ll × Ll × Li)) (found : Int) (trait : Int) (least : Int) (k : Int) (t : Int) (most : Int) (v : Int) (d : Li) (d2 : Int) (d3 : Ll) (d4 : Ll) (d5 : Li) : ev (Z := Int × Int × Int × Int × Int × Int × Li × Int × Ll × Ll × Li) Try.prog (rask_sp N) rask_B [] [rask_l3_h rec, rask_l3_e0] none 400 true rask_j1_at (stL rask_j1_st (((), found, trait, least, k, t, most, v, ()), ((d, d2, d3, d4, d5, ()), ()))) (stH rask_j1_st (((), found, trait, least, k, t, most, v, ()), ((d, d2, d3, d4, d5, ()), ()))) = rask_j1 N rec found trait least k t most v d d2 d3 d4 d5 := by kernel_rfl
theorem rask_j1_lf (N : Nat) (rec : Int → Int → Int → Int → Int → Int → Int → Li → Int → Ll → Ll → Li → Option (Int × Int × Int × Int × Int × Int × Li × Int × Ll × Ll × Li)) {z : Int × Int × Int × Int × Int × Int × Li × Int × Ll × Ll × Li} {top : Bool} {E : EE} {Xc : Ctx} (hE : EOK rask_B.m0 E) (hX : CxOK top Xc) (hrec : LeafOK Try.prog rask_B.c rask_B.n rask_B.m0 E Xc z (rask_l3_h rec)) (h0 : LeafOK Try.prog rask_B.c rask_B.n rask_B.m0 E Xc z rask_l3_e0) : LeafOK Try.prog rask_B.c rask_B.n rask_B.m0 E Xc z (rask_j1_k N rec) := leaf_of_ev (B := rask_B) (loops := []) (leaves := [rask_l3_h rec, rask_l3_e0]) (rask_all N) mixed trivial hE hX ⟨hrec, h0, trivial⟩ RetOK.no (fun p => rask_j1_eq N rec p.1.2.1 p.1.2.2.1 p.1.2.2.2.1 p.1.2.2.2.2.1 p.1.2.2.2.2.2.1 p.1.2.2.2.2.2.2.1 p.1.2.2.2.2.2.2.2.1 p.2.1.1 p.2.1.2.1 p.2.1.2.2.1 p.2.1.2.2.2.1 p.2.1.2.2.2.2.1)
noncomputable def rask_l3_L (N : Nat) : LoopS := { at_ := rask_l3_at, sta := rask_l3_st, exits := [([.c [1, 1, 1, 0, 1, 0, 0, 1, 0, 0, 1, 0, 0, 1, 0, 0, 1, 1, 0], .c [1, 1, 1, 0, 1, 0, 0, 1, 0, 0, 1, 0, 0, 1, 0, 0, 1, 1, 1], .b 3, .c [1, 1, 1, 0, 1, 0, 0, 1, 0, 0, 1, 0, 0, 1, 1], .l [1, 1, 1, 0, 1, 0, 0, 1, 0, 0, 1, 0, 0], .b 2, .b 1, .c [1, 1, 1, 0, 1, 0, 0, 1, 1], .l [1, 1, 1, 0, 1, 0, 0], .b 0, .c [1, 1, 1, 1]], ⟨[1, 7, 8, 9, 10, 11, 12], ⟨[.own 0 0, shI, shI, shI, shI, shI, shI], [.segs [shL, shI, shQ, shQ, shL]]⟩⟩)], run := fun p k => (rask_l3 N N p.1.2.1 p.1.2.2.1 p.1.2.2.2.1 p.1.2.2.2.2.1 p.1.2.2.2.2.2.1 p.1.2.2.2.2.2.2.1 p.1.2.2.2.2.2.2.2.1 p.2.1.1 p.2.1.2.1 p.2.1.2.2.1 p.2.1.2.2.2.1 p.2.1.2.2.2.2.1).bind fun e => k (.inl (((), e.1, e.2.1, e.2.2.1, e.2.2.2.1, e.2.2.2.2.1, e.2.2.2.2.2.1, ()), ((e.2.2.2.2.2.2.1, e.2.2.2.2.2.2.2.1, e.2.2.2.2.2.2.2.2.1, e.2.2.2.2.2.2.2.2.2.1, e.2.2.2.2.2.2.2.2.2.2, ()), ()))) }
theorem rask_l3_eq (N n_ : Nat) (found : Int) (trait : Int) (least : Int) (k : Int) (t : Int) (most : Int) (v : Int) (d : Li) (d2 : Int) (d3 : Ll) (d4 : Ll) (d5 : Li) : ev (Z := Int × Int × Int × Int × Int × Int × Li × Int × Ll × Ll × Li) Try.prog (rask_sp N) rask_B [] [rask_l3_h (rask_l3 N n_), rask_l3_e0, rask_j1_k N (rask_l3 N n_)] none 400 true rask_l3_at (stL rask_l3_st (((), found, trait, least, k, t, most, v, ()), ((d, d2, d3, d4, d5, ()), ()))) (stH rask_l3_st (((), found, trait, least, k, t, most, v, ()), ((d, d2, d3, d4, d5, ()), ()))) = rask_l3 N (n_ + 1) found trait least k t most v d d2 d3 d4 d5 := by kernel_rfl
theorem rask_l3_ok (N : Nat) {top : Bool} : LoopOK Try.prog rask_B.c rask_B.n rask_B.m0 top (rask_l3_L N) := loop_of_ev (Z := Int × Int × Int × Int × Int × Int × Li × Int × Ll × Ll × Li) (N := N) (fun m p => rask_l3 N m p.1.2.1 p.1.2.2.1 p.1.2.2.2.1 p.1.2.2.2.2.1 p.1.2.2.2.2.2.1 p.1.2.2.2.2.2.2.1 p.1.2.2.2.2.2.2.2.1 p.2.1.1 p.2.1.2.1 p.2.1.2.2.1 p.2.1.2.2.2.1 p.2.1.2.2.2.2.1) (fun e => .inl (((), e.1, e.2.1, e.2.2.1, e.2.2.2.1, e.2.2.2.2.1, e.2.2.2.2.2.1, ()), ((e.2.2.2.2.2.2.1, e.2.2.2.2.2.2.2.1, e.2.2.2.2.2.2.2.2.1, e.2.2.2.2.2.2.2.2.2.1, e.2.2.2.2.2.2.2.2.2.2, ()), ()))) (fun _ _ _ => rfl) (fun _ => rfl) (fun m z E Xc hE hX hrec hx => leaf_of_ev (B := rask_B) (loops := []) (leaves := [rask_l3_h (rask_l3 N m), rask_l3_e0, rask_j1_k N (rask_l3 N m)]) (rask_all N) mixed trivial hE hX ⟨hrec, (fun p hp => by obtain rfl := Option.some.inj hp; exact hx), rask_j1_lf N _ hE hX hrec (fun p hp => by obtain rfl := Option.some.inj hp; exact hx), trivial⟩ RetOK.no (fun p => rask_l3_eq N m p.1.2.1 p.1.2.2.1 p.1.2.2.2.1 p.1.2.2.2.2.1 p.1.2.2.2.2.2.1 p.1.2.2.2.2.2.2.1 p.1.2.2.2.2.2.2.2.1 p.2.1.1 p.2.1.2.1 p.2.1.2.2.1 p.2.1.2.2.2.1 p.2.1.2.2.2.2.1))
abbrev rask_l2_at : List PI := [.c [1, 1, 1, 0, 1, 0, 0, 1, 0, 0, 1, 0, 0, 0, 0], .c [1, 1, 1, 0, 1, 0, 0, 1, 0, 0, 1, 0, 0, 0, 1], .c [1, 1, 1, 0, 1, 0, 0, 1, 0, 0, 1, 0, 0, 1], .l [1, 1, 1, 0, 1, 0, 0, 1, 0, 0, 1, 0, 0], .b 2, .b 1, .c [1, 1, 1, 0, 1, 0, 0, 1, 1], .l [1, 1, 1, 0, 1, 0, 0], .b 0, .c [1, 1, 1, 1]]
abbrev rask_l2_st : Sta := ⟨[1, 7, 8, 9, 10, 11], ⟨[.own 0 0, shI, shI, shI, shI, shI], [.segs [shL, shI, shQ, shQ, shL]]⟩⟩
abbrev rask_l2_h (rec : Int → Int → Int → Int → Int → Li → Int → Ll → Ll → Li → Option (Int × Int × Int × Int × Li × Int × Ll × Ll × Li)) : Leaf (Int × Int × Int × Int × Li × Int × Ll × Ll × Li) := ⟨rask_l2_at, rask_l2_st, fun p => rec p.1.2.1 p.1.2.2.1 p.1.2.2.2.1 p.1.2.2.2.2.1 p.1.2.2.2.2.2.1 p.2.1.1 p.2.1.2.1 p.2.1.2.2.1 p.2.1.2.2.2.1 p.2.1.2.2.2.2.1⟩
abbrev rask_l2_e0 : Leaf (Int × Int × Int × Int × Li × Int × Ll × Ll × Li) := ⟨[.c [1, 1, 1, 0, 1, 0, 0, 1, 1], .l [1, 1, 1, 0, 1, 0, 0], .b 0, .c [1, 1, 1, 1]], ⟨[1, 7, 8, 9, 10], ⟨[.own 0 0, shI, shI, shI, shI], [.segs [shL, shI, shQ, shQ, shL]]⟩⟩, fun p => some ((p.1.2.1, p.1.2.2.1, p.1.2.2.2.1, p.1.2.2.2.2.1, p.2.1.1, p.2.1.2.1, p.2.1.2.2.1, p.2.1.2.2.2.1, p.2.1.2.2.2.2.1))⟩
abbrev rask_j2_at : List PI := [.c [1, 1, 1, 0, 1, 0, 0, 1, 0, 0, 1, 0, 0, 1, 1], .l [1, 1, 1, 0, 1, 0, 0, 1, 0, 0, 1, 0, 0], .b 2, .b 1, .c [1, 1, 1, 0, 1, 0, 0, 1, 1], .l [1, 1, 1, 0, 1, 0, 0], .b 0, .c [1, 1, 1, 1]]
abbrev rask_j2_st : Sta := ⟨[1, 7, 8, 9, 10, 11], ⟨[.own 0 0, shI, shI, shI, shI, shI], [.segs [shL, shI, shQ, shQ, shL]]⟩⟩
abbrev rask_j2_k (N : Nat) (rec : Int → Int → Int → Int → Int → Li → Int → Ll → Ll → Li → Option (Int × Int × Int × Int × Li × Int × Ll × Ll × Li)) : Leaf (Int × Int × Int × Int × Li × Int × Ll × Ll × Li) := ⟨rask_j2_at, rask_j2_st, fun p => rask_j2 N rec p.1.2.1 p.1.2.2.1 p.1.2.2.2.1 p.1.2.2.2.2.1 p.1.2.2.2.2.2.1 p.2.1.1 p.2.1.2.1 p.2.1.2.2.1 p.2.1.2.2.2.1 p.2.1.2.2.2.2.1⟩
theorem rask_j2_eq (N : Nat) (rec : Int → Int → Int → Int → Int → Li → Int → Ll → Ll → Li → Option (Int × Int × Int × Int × Li × Int × Ll × Ll × Li)) (found : Int) (trait : Int) (least : Int) (k : Int) (t : Int) (d : Li) (d2 : Int) (d3 : Ll) (d4 : Ll) (d5 : Li) : ev (Z := Int × Int × Int × Int × Li × Int × Ll × Ll × Li) Try.prog (rask_sp N) rask_B [rask_l3_L N] [rask_l2_h rec, rask_l2_e0] none 400 true rask_j2_at (stL rask_j2_st (((), found, trait, least, k, t, ()), ((d, d2, d3, d4, d5, ()), ()))) (stH rask_j2_st (((), found, trait, least, k, t, ()), ((d, d2, d3, d4, d5, ()), ()))) = rask_j2 N rec found trait least k t d d2 d3 d4 d5 := by kernel_rfl
theorem rask_j2_lf (N : Nat) (rec : Int → Int → Int → Int → Int → Li → Int → Ll → Ll → Li → Option (Int × Int × Int × Int × Li × Int × Ll × Ll × Li)) {z : Int × Int × Int × Int × Li × Int × Ll × Ll × Li} {top : Bool} {E : EE} {Xc : Ctx} (hE : EOK rask_B.m0 E) (hX : CxOK top Xc) (hrec : LeafOK Try.prog rask_B.c rask_B.n rask_B.m0 E Xc z (rask_l2_h rec)) (h0 : LeafOK Try.prog rask_B.c rask_B.n rask_B.m0 E Xc z rask_l2_e0) : LeafOK Try.prog rask_B.c rask_B.n rask_B.m0 E Xc z (rask_j2_k N rec) := leaf_of_ev (B := rask_B) (loops := [rask_l3_L N]) (leaves := [rask_l2_h rec, rask_l2_e0]) (rask_all N) mixed ⟨rask_l3_ok N, trivial⟩ hE hX ⟨hrec, h0, trivial⟩ RetOK.no (fun p => rask_j2_eq N rec p.1.2.1 p.1.2.2.1 p.1.2.2.2.1 p.1.2.2.2.2.1 p.1.2.2.2.2.2.1 p.2.1.1 p.2.1.2.1 p.2.1.2.2.1 p.2.1.2.2.2.1 p.2.1.2.2.2.2.1)
noncomputable def rask_l2_L (N : Nat) : LoopS := { at_ := rask_l2_at, sta := rask_l2_st, exits := [([.c [1, 1, 1, 0, 1, 0, 0, 1, 1], .l [1, 1, 1, 0, 1, 0, 0], .b 0, .c [1, 1, 1, 1]], ⟨[1, 7, 8, 9, 10], ⟨[.own 0 0, shI, shI, shI, shI], [.segs [shL, shI, shQ, shQ, shL]]⟩⟩)], run := fun p k => (rask_l2 N N p.1.2.1 p.1.2.2.1 p.1.2.2.2.1 p.1.2.2.2.2.1 p.1.2.2.2.2.2.1 p.2.1.1 p.2.1.2.1 p.2.1.2.2.1 p.2.1.2.2.2.1 p.2.1.2.2.2.2.1).bind fun e => k (.inl (((), e.1, e.2.1, e.2.2.1, e.2.2.2.1, ()), ((e.2.2.2.2.1, e.2.2.2.2.2.1, e.2.2.2.2.2.2.1, e.2.2.2.2.2.2.2.1, e.2.2.2.2.2.2.2.2, ()), ()))) }
theorem rask_l2_eq (N n_ : Nat) (found : Int) (trait : Int) (least : Int) (k : Int) (t : Int) (d : Li) (d2 : Int) (d3 : Ll) (d4 : Ll) (d5 : Li) : ev (Z := Int × Int × Int × Int × Li × Int × Ll × Ll × Li) Try.prog (rask_sp N) rask_B [rask_l3_L N] [rask_l2_h (rask_l2 N n_), rask_l2_e0, rask_j2_k N (rask_l2 N n_)] none 400 true rask_l2_at (stL rask_l2_st (((), found, trait, least, k, t, ()), ((d, d2, d3, d4, d5, ()), ()))) (stH rask_l2_st (((), found, trait, least, k, t, ()), ((d, d2, d3, d4, d5, ()), ()))) = rask_l2 N (n_ + 1) found trait least k t d d2 d3 d4 d5 := by kernel_rfl
theorem rask_l2_ok (N : Nat) {top : Bool} : LoopOK Try.prog rask_B.c rask_B.n rask_B.m0 top (rask_l2_L N) := loop_of_ev (Z := Int × Int × Int × Int × Li × Int × Ll × Ll × Li) (N := N) (fun m p => rask_l2 N m p.1.2.1 p.1.2.2.1 p.1.2.2.2.1 p.1.2.2.2.2.1 p.1.2.2.2.2.2.1 p.2.1.1 p.2.1.2.1 p.2.1.2.2.1 p.2.1.2.2.2.1 p.2.1.2.2.2.2.1) (fun e => .inl (((), e.1, e.2.1, e.2.2.1, e.2.2.2.1, ()), ((e.2.2.2.2.1, e.2.2.2.2.2.1, e.2.2.2.2.2.2.1, e.2.2.2.2.2.2.2.1, e.2.2.2.2.2.2.2.2, ()), ()))) (fun _ _ _ => rfl) (fun _ => rfl) (fun m z E Xc hE hX hrec hx => leaf_of_ev (B := rask_B) (loops := [rask_l3_L N]) (leaves := [rask_l2_h (rask_l2 N m), rask_l2_e0, rask_j2_k N (rask_l2 N m)]) (rask_all N) mixed ⟨rask_l3_ok N, trivial⟩ hE hX ⟨hrec, (fun p hp => by obtain rfl := Option.some.inj hp; exact hx), rask_j2_lf N _ hE hX hrec (fun p hp => by obtain rfl := Option.some.inj hp; exact hx), trivial⟩ RetOK.no (fun p => rask_l2_eq N m p.1.2.1 p.1.2.2.1 p.1.2.2.2.1 p.1.2.2.2.2.1 p.1.2.2.2.2.2.1 p.2.1.1 p.2.1.2.1 p.2.1.2.2.1 p.2.1.2.2.2.1 p.2.1.2.2.2.2.1))
abbrev rask_l1_at : List PI := [.c [1, 1, 1, 0, 1, 0, 0, 0, 0], .c [1, 1, 1, 0, 1, 0, 0, 0, 1], .c [1, 1, 1, 0, 1, 0, 0, 1], .l [1, 1, 1, 0, 1, 0, 0], .b 0, .c [1, 1, 1, 1]]
abbrev rask_l1_st : Sta := ⟨[1, 7, 8, 9, 10], ⟨[.own 0 0, shI, shI, shI, shI], [.segs [shL, shI, shQ, shQ, shL]]⟩⟩
abbrev rask_l1_h (rec : Int → Int → Int → Int → Li → Int → Ll → Ll → Li → Option (Int × Int × Int)) : Leaf (Int × Int × Int) := ⟨rask_l1_at, rask_l1_st, fun p => rec p.1.2.1 p.1.2.2.1 p.1.2.2.2.1 p.1.2.2.2.2.1 p.2.1.1 p.2.1.2.1 p.2.1.2.2.1 p.2.1.2.2.2.1 p.2.1.2.2.2.2.1⟩
abbrev rask_l1_e0 : Leaf (Int × Int × Int) := ⟨[.c [1, 1, 1, 1, 0, 0], .c [1, 1, 1, 1, 0, 1], .c [1, 1, 1, 1, 1]], ⟨[7, 8, 9], ⟨[shI, shI, shI], []⟩⟩, fun p => some ((p.1.1, p.1.2.1, p.1.2.2.1))⟩
noncomputable def rask_l1_L (N : Nat) : LoopS := { at_ := rask_l1_at, sta := rask_l1_st, exits := [([.c [1, 1, 1, 1, 0, 0], .c [1, 1, 1, 1, 0, 1], .c [1, 1, 1, 1, 1]], ⟨[7, 8, 9], ⟨[shI, shI, shI], []⟩⟩)], run := fun p k => (rask_l1 N N p.1.2.1 p.1.2.2.1 p.1.2.2.2.1 p.1.2.2.2.2.1 p.2.1.1 p.2.1.2.1 p.2.1.2.2.1 p.2.1.2.2.2.1 p.2.1.2.2.2.2.1).bind fun e => k (.inl ((e.1, e.2.1, e.2.2, ()), ())) }
theorem rask_l1_eq (N n_ : Nat) (found : Int) (trait : Int) (least : Int) (k : Int) (d : Li) (d2 : Int) (d3 : Ll) (d4 : Ll) (d5 : Li) : ev (Z := Int × Int × Int) Try.prog (rask_sp N) rask_B [rask_l3_L N, rask_l2_L N] [rask_l1_h (rask_l1 N n_), rask_l1_e0] none 400 true rask_l1_at (stL rask_l1_st (((), found, trait, least, k, ()), ((d, d2, d3, d4, d5, ()), ()))) (stH rask_l1_st (((), found, trait, least, k, ()), ((d, d2, d3, d4, d5, ()), ()))) = rask_l1 N (n_ + 1) found trait least k d d2 d3 d4 d5 := by kernel_rfl
theorem rask_l1_ok (N : Nat) {top : Bool} : LoopOK Try.prog rask_B.c rask_B.n rask_B.m0 top (rask_l1_L N) := loop_of_ev (Z := Int × Int × Int) (N := N) (fun m p => rask_l1 N m p.1.2.1 p.1.2.2.1 p.1.2.2.2.1 p.1.2.2.2.2.1 p.2.1.1 p.2.1.2.1 p.2.1.2.2.1 p.2.1.2.2.2.1 p.2.1.2.2.2.2.1) (fun e => .inl ((e.1, e.2.1, e.2.2, ()), ())) (fun _ _ _ => rfl) (fun _ => rfl) (fun m z E Xc hE hX hrec hx => leaf_of_ev (B := rask_B) (loops := [rask_l3_L N, rask_l2_L N]) (leaves := [rask_l1_h (rask_l1 N m), rask_l1_e0]) (rask_all N) mixed ⟨rask_l3_ok N, rask_l2_ok N, trivial⟩ hE hX ⟨hrec, (fun p hp => by obtain rfl := Option.some.inj hp; exact hx), trivial⟩ RetOK.no (fun p => rask_l1_eq N m p.1.2.1 p.1.2.2.1 p.1.2.2.2.1 p.1.2.2.2.2.1 p.2.1.1 p.2.1.2.1 p.2.1.2.2.1 p.2.1.2.2.2.1 p.2.1.2.2.2.2.1))
abbrev rask_st : Sta := ⟨[0], ⟨[shG], []⟩⟩
theorem rask_eq (N : Nat) (d : Li) (d2 : Int) (d3 : Ll) (d4 : Ll) (d5 : Li) : ev (Z := Int × Int × Int × Int) Try.prog (rask_sp N) rask_B [rask_l3_L N, rask_l2_L N, rask_l1_L N] [] (some rask_rt) 400 false [.c [0], .c [1]] (stL rask_st (((d, d2, d3, d4, d5, ()), ()), ())) (stH rask_st (((d, d2, d3, d4, d5, ()), ()), ())) = rask_S N d d2 d3 d4 d5 := by kernel_rfl
noncomputable def sp_rask (N : Nat) : Spec := { f := 29, ins := ⟨[shG], []⟩, outs := [⟨[shI, shI, shI, shI], []⟩], run := fun p k => (rask_S N p.1.1.1 p.1.1.2.1 p.1.1.2.2.1 p.1.1.2.2.2.1 p.1.1.2.2.2.2.1).bind fun r => k ((r.1, r.2.1, r.2.2.1, r.2.2.2, ()), ()) }
theorem sp_rask_ok (N : Nat) : SpecOK Try.prog (sp_rask N) := fn_sound (B := rask_B) (loops := [rask_l3_L N, rask_l2_L N, rask_l1_L N]) (leaves := []) (fun p => rask_S N p.1.1.1 p.1.1.2.1 p.1.1.2.2.1 p.1.1.2.2.2.1 p.1.1.2.2.2.2.1) (fun r => ((r.1, r.2.1, r.2.2.1, r.2.2.2, ()), ())) rask_rt (fun _ _ _ => rfl) (fun r z h => by cases h; rfl) Try.func29 (by kernel_rfl) (by kernel_rfl) (by kernel_rfl) rfl rfl (by kernel_rfl) (fun args w => Sem.pv_run _ _ _ (by kernel_rfl) w) (rask_all N) mixed ⟨rask_l3_ok N, rask_l2_ok N, rask_l1_ok N, trivial⟩ (fun z E Xc hE hX hret => trivial) (fun p => rask_eq N p.1.1.1 p.1.1.2.1 p.1.1.2.2.1 p.1.1.2.2.2.1 p.1.1.2.2.2.2.1)

def fasks_S (N : Nat) (d : Li) (d2 : Int) (d3 : Ll) (d4 : Ll) (d5 : Li) : Option Bool :=
  (great_S N d d2 d3 d4 d5).bind fun x_1 =>
  br x_1
    ((awake_S N).bind fun x_2 =>
    some x_2)
    ((wide_S N d d2 d3 d4 d5 3).bind fun x_3 =>
    br x_3
      ((awake_S N).bind fun x_4 =>
      some x_4)
      ((copyd_S N d d2 d3 d4 d5).bind fun (x_5, y_6, y_7, y_8, y_9) =>
      (ask_S N x_5 y_6 y_7 y_8 y_9).bind fun (x_10, y_11, y_12, y_13) =>
      (copyd_S N d d2 d3 d4 d5).bind fun (x_14, y_15, y_16, y_17, y_18) =>
      (rask_S N x_14 y_15 y_16 y_17 y_18).bind fun (x_19, y_20, y_21, y_22) =>
      br (decide (x_10 = x_19))
        (br (decide (y_11 = y_20))
          (br (decide (y_12 = y_21))
            (br (decide (y_13 = y_22))
              ((same_S N x_5 y_6 y_7 y_8 y_9 d d2 d3 d4 d5).bind fun x_23 =>
              br x_23
                ((awake_S N).bind fun x_24 =>
                some x_24)
                (some false))
              (some false))
            (some false))
          (some false))
        (some false)))
noncomputable def fasks_sp (N : Nat) : List Spec := [sp_ask N, sp_awake N, sp_copyd N, sp_same N, sp_great N, sp_wide N, sp_rask N]
theorem fasks_all (N : Nat) : AllP (SpecOK Try.prog) (fasks_sp N) := ⟨sp_ask_ok N, sp_awake_ok N, sp_copyd_ok N, sp_same_ok N, sp_great_ok N, sp_wide_ok N, sp_rask_ok N, trivial⟩
noncomputable def fasks_c : Code := (Try.f4.body).getD .skip
noncomputable abbrev fasks_B : Body := { c := fasks_c, n := 62, res := [.tmp 2], outs := [⟨[.b], []⟩], m0 := 0 }
abbrev fasks_rt : altD fasks_B.outs → Option Bool := fun r => some r.1.1
abbrev fasks_st : Sta := ⟨[0], ⟨[shG], []⟩⟩
theorem fasks_eq (N : Nat) (d : Li) (d2 : Int) (d3 : Ll) (d4 : Ll) (d5 : Li) : ev (Z := Bool) Try.prog (fasks_sp N) fasks_B [] [] (some fasks_rt) 400 false [.c [0], .c [1]] (stL fasks_st (((d, d2, d3, d4, d5, ()), ()), ())) (stH fasks_st (((d, d2, d3, d4, d5, ()), ()), ())) = fasks_S N d d2 d3 d4 d5 := by kernel_rfl
noncomputable def sp_fasks (N : Nat) : Spec := { f := 4, ins := ⟨[shG], []⟩, outs := [⟨[.b], []⟩], run := fun p k => (fasks_S N p.1.1.1 p.1.1.2.1 p.1.1.2.2.1 p.1.1.2.2.2.1 p.1.1.2.2.2.2.1).bind fun r => k ((r, ()), ()) }
theorem sp_fasks_ok (N : Nat) : SpecOK Try.prog (sp_fasks N) := fn_sound (B := fasks_B) (loops := []) (leaves := []) (fun p => fasks_S N p.1.1.1 p.1.1.2.1 p.1.1.2.2.1 p.1.1.2.2.2.1 p.1.1.2.2.2.2.1) (fun r => ((r, ()), ())) fasks_rt (fun _ _ _ => rfl) (fun r z h => by cases h; rfl) Try.func4 (by kernel_rfl) (by kernel_rfl) (by kernel_rfl) rfl rfl (by kernel_rfl) (fun args w => Sem.pv_run _ _ _ (by kernel_rfl) w) (fasks_all N) mixed trivial (fun z E Xc hE hX hret => trivial) (fun p => fasks_eq N p.1.1.1 p.1.1.2.1 p.1.1.2.2.1 p.1.1.2.2.2.1 p.1.1.2.2.2.2.1)

end Go.Proofs.Ythncjilcflilcaa

namespace Go.Proofs.Ythncjilcflilcaa
set_option linter.all false
open Go

/-! ### Numbers without one -/
def up (i x : Nat) : Nat := if x < i then x else x + 1
section
variable {n m : Nat} {can : Nat → Nat → Bool} {t : Nat → Nat → Int}
theorem Mt.bd {J : Nat → Int} (h : Mt n m can J) {i : Nat} (hi : i < n) : -1 ≤ J i ∧ J i < m := by
  rcases h.ok i hi with e | ⟨k, e, hk, _⟩ <;> omega
/-! ### Without a found thing -/
theorem IsMax.congr {fr fr' : Nat → Prop} {v : Int} (h : IsMax n m can t fr v) (hf : ∀ k, fr k ↔ fr' k) : IsMax n m can t fr' v := by
  have : fr = fr' := funext fun k => propext (hf k)
  rw [← this]; exact h
/-! ### Without a lost thing -/
/-! ### How many joins join two things -/
theorem Mt.congr {J J' : Nat → Int} (h : Mt n m can J) (he : ∀ i, i < n → J i = J' i) : Mt n m can J' := by
  refine ⟨fun i hi => by rw [← he i hi]; exact h.ok i hi, fun i j hi hj hij e => ?_⟩
  rw [← he i hi, ← he j hj] at e
  rw [← he i hi]
  exact h.inj i j hi hj hij e
end
end Go.Proofs.Ythncjilcflilcaa

namespace Go.Proofs.Ythncjilcflilcaa
set_option linter.all false
open Go

theorem drop_cons {α : Type} {l : List α} {k : Nat} (h : k < l.length) (d : α) : l.drop k = l.getD k d :: l.drop (k + 1) := by
  rw [List.drop_eq_getElem_cons h]; simp [List.getD, h]
theorem gets {α : Type} {l : List α} {k : Nat} (h : k < l.length) (d : α) : l[((k : Nat) : Int).toNat]? = some (l.getD k d) := by simp [List.getD, h]
theorem getD_mem {α : Type} {l : List α} {i : Nat} {d : α} (h : i < l.length) : l.getD i d ∈ l := by
  simp [List.getD, h]
theorem nat_succ (k : Nat) : ((k + 1 : Nat) : Int) = (k : Int) + 1 := by omega
theorem in_v (N : Nat) (n lo hi : Int) : in__S N n lo hi = some (decide (lo ≤ n ∧ n ≤ hi)) := by
  unfold in__S br
  by_cases h : lo ≤ n <;> simp [h]
theorem every_gen {α : Type} {f : α → Option Bool} {p : α → Bool} {s : List α} {N : Nat} (hf : ∀ x ∈ s, f x = some (p x)) (hs : s.length ≤ 1000000) (hN : s.length < N) :
    (((ixS (fun x => (f x).bind fun c => some (!c)) N s).bind fun x => some (decide (0 ≤ x))).bind fun x => some (!x)) = some (s.all p) := by
  rw [ixS_any (p := fun x => !p x) (fun x hx => by rw [hf x hx]; rfl) hs hN]
  simp only [Option.bind_some, any_not]
/-- The limits of a desk's numbers. -/
def okv (x : Int) : Bool := decide (-1 ≤ x ∧ x ≤ 5)
def okw (x : Int) : Bool := decide (1 ≤ x ∧ x ≤ 9)
def okr (x : Int) : Bool := decide (0 ≤ x ∧ x ≤ 99)
def okl (n : Nat) (r : List Int) : Bool := decide (r.length = n)
/-- What is looked at is small. -/
structure Sm (W : List Int) (L F : List (List Int)) (R : List Int) : Prop where
  w : W.length ≤ 100
  l : L.length ≤ 100
  f : F.length ≤ 100
  r : R.length ≤ 100
  lr : ∀ x ∈ L, x.length ≤ 100
  fr : ∀ x ∈ F, x.length ≤ 100
section
variable (N : Nat)
theorem ixfv_gen : ∀ (n : Nat) (s : List Int) (u u2 : Int), ixfv_l1 N n s u u2 = ixL (every1v_S N) n s u u2
  | 0, _, _, _ => rfl
  | n + 1, s, u, u2 => by unfold ixfv_l1 ixL; simp only [ixfv_gen n]
theorem ixfva_gen : ∀ (n : Nat) (s : List (List Int)) (u u2 : Int), ixfva_l1 N n s u u2 = ixL (every1va_S N) n s u u2
  | 0, _, _, _ => rfl
  | n + 1, s, u, u2 => by unfold ixfva_l1 ixL; simp only [ixfva_gen n]
theorem ixfw_gen : ∀ (n : Nat) (s : List Int) (u u2 : Int), ixfw_l1 N n s u u2 = ixL (every1w_S N) n s u u2
  | 0, _, _, _ => rfl
  | n + 1, s, u, u2 => by unfold ixfw_l1 ixL; simp only [ixfw_gen n]
theorem ixfr_gen : ∀ (n : Nat) (s : List Int) (u u2 : Int), ixfr_l1 N n s u u2 = ixL (every1r_S N) n s u u2
  | 0, _, _, _ => rfl
  | n + 1, s, u, u2 => by unfold ixfr_l1 ixL; simp only [ixfr_gen n]
end
section
variable {N : Nat} {W : List Int} {s : Int} {L F : List (List Int)} {R : List Int}
theorem everyv_v {l : List Int} (h : l.length ≤ 1000000) (hN : l.length < N) : everyv_S N l = some (l.all okv) := by
  unfold everyv_S cofv_S ixfv_S
  rw [← every_gen (f := check21_S N) (p := okv) (s := l) (N := N) (fun x _ => ?_) h hN]
  · unfold ixS
    rw [ixfv_gen]
    rfl
  · unfold check21_S okv
    rw [in_v]; rfl
theorem everyw_v {l : List Int} (h : l.length ≤ 1000000) (hN : l.length < N) : everyw_S N l = some (l.all okw) := by
  unfold everyw_S cofw_S ixfw_S
  rw [← every_gen (f := check3_S N) (p := okw) (s := l) (N := N) (fun x _ => ?_) h hN]
  · unfold ixS
    rw [ixfw_gen]
    rfl
  · unfold check3_S okw
    rw [in_v]; rfl
theorem everyr_v {l : List Int} (h : l.length ≤ 1000000) (hN : l.length < N) : everyr_S N l = some (l.all okr) := by
  unfold everyr_S cofr_S ixfr_S
  rw [← every_gen (f := check4_S N) (p := okr) (s := l) (N := N) (fun x _ => ?_) h hN]
  · unfold ixS
    rw [ixfr_gen]
    rfl
  · unfold check4_S okr
    rw [in_v]; rfl
theorem everyva_v {l : List (List Int)} (h : l.length ≤ 1000000) (hN : l.length < N) (hr : ∀ x ∈ l, x.length ≤ 1000000 ∧ x.length < N) : everyva_S N l = some (l.all fun r => r.all okv) := by
  unfold everyva_S cofva_S ixfva_S
  rw [← every_gen (f := check2_S N) (p := fun r => r.all okv) (s := l) (N := N) (fun x hx => ?_) h hN]
  · unfold ixS
    rw [ixfva_gen]
    rfl
  · unfold check2_S
    rw [everyv_v (hr x hx).1 (hr x hx).2]; rfl
theorem ixflo_gen : ∀ (n : Nat) (l : List (List Int)) (u u2 : Int), ixflo_l1 N n l u u2 (W, s, L, F, R) = (ixL (fun x => some (!okl W.length x)) n l u u2).map fun r => match r with | .inl i => .inl (i, (W, s, L, F, R)) | .inr _ => .inr (W, s, L, F, R)
  | 0, _, _, _ => rfl
  | n + 1, l, u, u2 => by
    have e : ∀ x, every1lo_S N x (W, s, L, F, R) = some (!okl W.length x, (W, s, L, F, R)) := fun x => by
      unfold every1lo_S check1_S okl
      simp only [Option.bind_some]
      congr 3
      exact decide_eq_decide.2 (by omega)
    unfold ixflo_l1 ixL
    simp only [e, Option.bind_some, ixflo_gen n]
    unfold br
    split
    · unfold idx
      split
      · cases l[u2.toNat]? with
        | none => rfl
        | some a =>
          dsimp only
          cases okl W.length a
          · rfl
          · simp only [Bool.not_true, Bool.false_eq_true, if_false]
            unfold chk
            split <;> rfl
      · rfl
    · rfl
theorem everylo_v {l : List (List Int)} (h : l.length ≤ 1000000) (hN : l.length < N) : everylo_S N l (W, s, L, F, R) = some (l.all (okl W.length)) := by
  unfold everylo_S coflo_S ixflo_S
  rw [← every_gen (f := fun x => some (okl W.length x)) (p := okl W.length) (s := l) (N := N) (fun x _ => rfl) h hN]
  unfold ixS
  rw [ixflo_gen]
  simp only [Option.bind_some]
  cases ixL (fun x => some (!okl W.length x)) N l l.length 0 with
  | none => rfl
  | some r => cases r <;> rfl
end
/-- The error of a desk. -/
def errD (W : List Int) (s : Int) (L F : List (List Int)) (R : List Int) : Int :=
  if ¬ (1 ≤ (W.length : Int) ∧ (W.length : Int) ≤ 5) then 2 else if 6 < (L.length : Int) then 2 else if 6 < (F.length : Int) then 2 else if L.all (okl W.length) = false then 2 else if F.all (okl W.length) = false then 2 else
  if ¬ ((R.length : Int) = (L.length : Int)) then 2 else if (W.all okw && decide (0 ≤ s ∧ s ≤ 3) && R.all okr && (L.all fun r => r.all okv) && F.all fun r => r.all okv) = true then 0 else 3
section
variable {N : Nat} {W : List Int} {s : Int} {L F : List (List Int)} {R : List Int}
theorem check_v (hN : 110 ≤ N) (h : Sm W L F R) : check_S N W s L F R = some (errD W s L F R) := by
  obtain ⟨hw, hl, hf, hr, hlr, hfr⟩ := h
  unfold check_S errD
  rw [in_v]
  simp only [Option.bind_some]
  by_cases c1 : 1 ≤ (W.length : Int) ∧ (W.length : Int) ≤ 5
  rotate_left
  · rw [br_nnd c1, if_pos c1]
  rw [br_nd c1, if_neg (by simpa using c1)]
  by_cases c2 : 6 < (L.length : Int)
  · rw [br_dec c2, if_pos c2]
  rw [br_ndec c2, if_neg c2]
  by_cases c3 : 6 < (F.length : Int)
  · rw [br_dec c3, if_pos c3]
  rw [br_ndec c3, if_neg c3, everylo_v (by omega) (by omega), everylo_v (by omega) (by omega), everyw_v (by omega) (by omega), in_v, everyr_v (by omega) (by omega),
    everyva_v (by omega) (by omega) (fun x hx => ⟨by have := hlr x hx; omega, by have := hlr x hx; omega⟩), everyva_v (by omega) (by omega) (fun x hx => ⟨by have := hfr x hx; omega, by have := hfr x hx; omega⟩)]
  simp only [Option.bind_some]
  cases L.all (okl W.length)
  · rfl
  cases F.all (okl W.length)
  · rfl
  by_cases c4 : (R.length : Int) = (L.length : Int)
  rotate_left
  · simp only [Bool.not_true, br_false, Bool.true_eq_false, if_false]
    rw [br_nnd c4, if_pos c4]
  simp only [Bool.not_true, br_false, Bool.true_eq_false, if_false]
  rw [br_nd c4, if_neg (not_not_intro c4)]
  cases W.all okw <;> cases decide (0 ≤ s ∧ s ≤ 3) <;> cases R.all okr <;> cases (L.all fun r => r.all okv) <;> cases (F.all fun r => r.all okv) <;> rfl
theorem off_v (n lo hi : Int) : off_S N n lo hi = some (!decide (lo ≤ n ∧ n ≤ hi)) := by
  unfold off_S
  by_cases c : n < lo
  · rw [br_dec c]; congr 1; simp; omega
  · rw [br_ndec c]; congr 1
    by_cases d : n ≤ hi
    · rw [decide_eq_false (show ¬ hi < n by omega), decide_eq_true (show lo ≤ n ∧ n ≤ hi from ⟨by omega, d⟩)]; rfl
    · rw [decide_eq_true (show hi < n by omega), decide_eq_false (fun h : lo ≤ n ∧ n ≤ hi => d h.2)]; rfl
/-- A loop through a list that ends at the first element that isn't so. -/
def alls {α β : Type} (p : α → Bool) (s : List α) (k : Nat) (b : β) : Option (Unit ⊕ β) := some (if (s.drop k).all p then .inr b else .inl ())
theorem alls_yes {α β : Type} {p : α → Bool} {s : List α} {k : Nat} {b : β} (d : α) (h : k < s.length) (hp : p (s.getD k d) = true) : alls p s k b = alls p s (k + 1) b := by
  unfold alls; rw [drop_cons h d, List.all_cons, hp, Bool.true_and]
theorem alls_no {α β : Type} {p : α → Bool} {s : List α} {k : Nat} {b : β} (d : α) (h : k < s.length) (hp : p (s.getD k d) = false) : alls p s k b = some (.inl ()) := by
  unfold alls; rw [drop_cons h d, List.all_cons, hp, Bool.false_and]; rfl
theorem alls_end {α β : Type} {p : α → Bool} {s : List α} {k : Nat} {b : β} (h : s.length ≤ k) : alls p s k b = some (.inr b) := by
  unfold alls; rw [List.drop_of_length_le h]; rfl
theorem described_l1_p (hw : W.length ≤ 1000000) {l : List (List Int)} (hl : l.length ≤ 1000000) : ∀ (n k : Nat), l.length < n + k → k ≤ l.length → described_l1 N n l k W s L F R = alls (okl W.length) l k ()
  | 0, k, h, _ => by omega
  | n + 1, k, h, hk => by
    unfold described_l1
    by_cases c : k < l.length
    · have ih := described_l1_p hw hl n (k + 1) (by omega) (by omega)
      rw [nat_succ] at ih
      rw [br_dec (by omega), idx_eq (by omega) (gets c [])]
      by_cases c1 : ((l.getD k []).length : Int) = W.length
      · rw [br_nd c1, chk_eq (by omega), ih, alls_yes [] c (by unfold okl; rw [decide_eq_true_eq]; omega)]
      · rw [br_nnd c1, alls_no [] c (by unfold okl; rw [decide_eq_false_iff_not]; omega)]
    · rw [br_ndec (by omega), alls_end (by omega)]
theorem described_v (hw : W.length ≤ 1000000) {l : List (List Int)} (hl : l.length ≤ 1000000) (hN : l.length < N) : described_S N W s L F R l = some (l.all (okl W.length)) := by
  unfold described_S
  have := described_l1_p (N := N) (s := s) (L := L) (F := F) (R := R) hw hl N 0 (by omega) (by omega)
  rw [show ((0 : Nat) : Int) = 0 from rfl] at this
  rw [this]
  unfold alls
  simp only [List.drop_zero, Option.bind_some]
  cases l.all (okl W.length) <;> rfl
theorem valued_l2_p {l : List (List Int)} {i : Nat} (hi : i < l.length) (hr : (l.getD i []).length ≤ 1000000) : ∀ (n k : Nat), (l.getD i []).length < n + k → k ≤ (l.getD i []).length → valued_l2 N n l i k = alls okv (l.getD i []) k (l, (i : Int))
  | 0, k, h, _ => by omega
  | n + 1, k, h, hk => by
    unfold valued_l2
    rw [idx_eq (by omega) (gets hi [])]
    by_cases c : k < (l.getD i []).length
    · have ih := valued_l2_p hi hr n (k + 1) (by omega) (by omega)
      rw [nat_succ] at ih
      rw [br_dec (by omega), idx_eq (by omega) (gets hi []), idx_eq (by omega) (gets c 0), off_v]
      simp only [Option.bind_some]
      by_cases c1 : -1 ≤ (l.getD i []).getD k 0 ∧ (l.getD i []).getD k 0 ≤ 5
      · rw [br_nd c1, chk_eq (by omega), ih, alls_yes 0 c (by simp only [okv, c1, and_self, decide_true])]
      · rw [br_nnd c1, alls_no 0 c (by simp only [okv, c1, decide_false])]
    · rw [br_ndec (by omega), alls_end (by omega)]
theorem valued_l1_p {l : List (List Int)} (hl : l.length ≤ 1000000) (hr : ∀ x ∈ l, x.length ≤ 1000000 ∧ x.length < N) : ∀ (n k : Nat), l.length < n + k → k ≤ l.length → valued_l1 N n l k = alls (fun r => r.all okv) l k ()
  | 0, k, h, _ => by omega
  | n + 1, k, h, hk => by
    unfold valued_l1
    by_cases c : k < l.length
    · have ih := valued_l1_p hl hr n (k + 1) (by omega) (by omega)
      rw [nat_succ] at ih
      have e := valued_l2_p (N := N) c (hr _ (getD_mem c)).1 N 0 (by have := (hr _ (getD_mem (d := []) c)).2; omega) (by omega)
      rw [show ((0 : Nat) : Int) = 0 from rfl] at e
      rw [br_dec (by omega), e]
      by_cases hb : (l.getD k []).all okv = true
      · rw [alls_yes (p := fun r => r.all okv) [] c hb, ← ih]
        unfold alls
        rw [List.drop_zero, if_pos hb]
        exact chk_eq (by omega)
      · rw [alls_no (p := fun r => r.all okv) [] c (Bool.eq_false_iff.2 hb)]
        unfold alls
        rw [List.drop_zero, if_neg hb]
        rfl
    · rw [br_ndec (by omega), alls_end (by omega)]
theorem valued_v {l : List (List Int)} (hl : l.length ≤ 1000000) (hN : l.length < N) (hr : ∀ x ∈ l, x.length ≤ 1000000 ∧ x.length < N) : valued_S N l = some (l.all fun r => r.all okv) := by
  unfold valued_S
  have := valued_l1_p (N := N) hl hr N 0 (by omega) (by omega)
  rw [show ((0 : Nat) : Int) = 0 from rfl] at this
  rw [this]
  unfold alls
  simp only [List.drop_zero, Option.bind_some]
  cases (l.all fun r => r.all okv) <;> rfl
theorem rcheck_l1_p (hw : W.length ≤ 1000000) : ∀ (n k : Nat), W.length < n + k → k ≤ W.length → rcheck_l1 N n k W s L F R = alls okw W k (W, s, L, F, R)
  | 0, k, h, _ => by omega
  | n + 1, k, h, hk => by
    unfold rcheck_l1
    by_cases c : k < W.length
    · have ih := rcheck_l1_p hw n (k + 1) (by omega) (by omega)
      rw [nat_succ] at ih
      rw [br_dec (by omega), idx_eq (by omega) (gets c 0), off_v]
      simp only [Option.bind_some]
      by_cases c1 : 1 ≤ W.getD k 0 ∧ W.getD k 0 ≤ 9
      · rw [br_nd c1, chk_eq (by omega), ih, alls_yes 0 c (by simp only [okw, c1, and_self, decide_true])]
      · rw [br_nnd c1, alls_no 0 c (by simp only [okw, c1, decide_false])]
    · rw [br_ndec (by omega), alls_end (by omega)]
theorem rcheck_l2_p (hw : R.length ≤ 1000000) : ∀ (n k : Nat), R.length < n + k → k ≤ R.length → rcheck_l2 N n k W s L F R = alls okr R k (W, s, L, F, R)
  | 0, k, h, _ => by omega
  | n + 1, k, h, hk => by
    unfold rcheck_l2
    by_cases c : k < R.length
    · have ih := rcheck_l2_p hw n (k + 1) (by omega) (by omega)
      rw [nat_succ] at ih
      rw [br_dec (by omega), idx_eq (by omega) (gets c 0), off_v]
      simp only [Option.bind_some]
      by_cases c1 : 0 ≤ R.getD k 0 ∧ R.getD k 0 ≤ 99
      · rw [br_nd c1, chk_eq (by omega), ih, alls_yes 0 c (by simp only [okr, c1, and_self, decide_true])]
      · rw [br_nnd c1, alls_no 0 c (by simp only [okr, c1, decide_false])]
    · rw [br_ndec (by omega), alls_end (by omega)]
theorem rcheck_v (hN : 110 ≤ N) (h : Sm W L F R) : rcheck_S N W s L F R = some (errD W s L F R) := by
  obtain ⟨hw, hl, hf, hr, hlr, hfr⟩ := h
  unfold rcheck_S errD
  rw [off_v]
  simp only [Option.bind_some]
  by_cases c1 : 1 ≤ (W.length : Int) ∧ (W.length : Int) ≤ 5
  rotate_left
  · rw [br_nnd c1, if_pos c1]
  rw [br_nd c1, if_neg (by simpa using c1)]
  by_cases c2 : 6 < (L.length : Int)
  · rw [br_dec c2, if_pos c2]
  rw [br_ndec c2, if_neg c2]
  by_cases c3 : 6 < (F.length : Int)
  · rw [br_dec c3, if_pos c3]
  have e1 := rcheck_l1_p (N := N) (s := s) (L := L) (F := F) (R := R) (W := W) (by omega) N 0 (by omega) (by omega)
  have e2 := rcheck_l2_p (N := N) (s := s) (L := L) (F := F) (W := W) (R := R) (by omega) N 0 (by omega) (by omega)
  rw [show ((0 : Nat) : Int) = 0 from rfl] at e1 e2
  rw [br_ndec c3, if_neg c3, described_v (by omega) (by omega) (by omega), described_v (by omega) (by omega) (by omega), e1]
  unfold alls at e2 ⊢
  simp only [List.drop_zero, Option.bind_some] at e2 ⊢
  cases L.all (okl W.length)
  · rfl
  cases F.all (okl W.length)
  · rfl
  by_cases c4 : (R.length : Int) = (L.length : Int)
  rotate_left
  · simp only [Bool.not_true, br_false, Bool.true_eq_false, if_false]
    rw [br_nnd c4, if_pos c4]
  simp only [Bool.not_true, br_false, Bool.true_eq_false, if_false]
  rw [br_nd c4, if_neg (not_not_intro c4)]
  by_cases d1 : W.all okw = true
  rotate_left
  · rw [if_neg d1, if_neg (by rw [Bool.eq_false_iff.2 d1]; simp)]
  rw [if_pos d1, d1]
  dsimp only
  rw [e2]
  simp only [Option.bind_some]
  by_cases d2 : R.all okr = true
  rotate_left
  · rw [if_neg d2, if_neg (by rw [Bool.eq_false_iff.2 d2]; simp)]
  rw [if_pos d2, d2]
  dsimp only
  rw [off_v, valued_v (N := N) (l := L) (by omega) (by omega) (fun x hx => ⟨by have := hlr x hx; omega, by have := hlr x hx; omega⟩), valued_v (N := N) (l := F) (by omega) (by omega) (fun x hx => ⟨by have := hfr x hx; omega, by have := hfr x hx; omega⟩)]
  simp only [Option.bind_some]
  cases decide (0 ≤ s ∧ s ≤ 3) <;> cases (L.all fun r => r.all okv) <;> cases (F.all fun r => r.all okv) <;> rfl
end
section
variable {N : Nat}
theorem copyi_v {l : List Int} (h : l.length ≤ 1000000) : copyi_S N l = some l := by
  unfold copyi_S
  rw [grd_eq (lmI_iff.2 (by omega))]
  simp
theorem take_succ' {α : Type} {l : List α} {k : Nat} (c : k < l.length) (d : α) : l.take (k + 1) = l.take k ++ [l.getD k d] := by
  rw [List.take_add_one]; simp [List.getD, c]
theorem likei_v {l : List Int} (h : l.length ≤ 1000) (hN : l.length < N) : likei_S N l l = some true := by
  have e : ∀ (n k : Nat), l.length < n + k → k ≤ l.length → equali_l1 N n l l l.length k = some (.inr ()) := by
    intro n
    induction n with
    | zero => intro k h _; omega
    | succ n ih =>
      intro k h2 hk
      unfold equali_l1
      by_cases c : k < l.length
      · have := ih (k + 1) (by omega) (by omega)
        rw [show ((k + 1 : Nat) : Int) = (k : Int) + 1 by omega] at this
        rw [br_dec (by omega), idx_eq (by omega) (gets c 0), idx_eq (by omega) (gets c 0), br_nd rfl, chk_eq (by omega), this]
      · rw [br_ndec (by omega)]
  have e0 := e N 0 (by omega) (by omega)
  simp only [Int.natCast_zero] at e0
  unfold likei_S equali_S
  rw [br_nd rfl, e0]; rfl
end
end Go.Proofs.Ythncjilcflilcaa

namespace Go.Proofs.Ythncjilcflilcaa
set_option linter.all false
open Go

def tabA (g : Nat → Int) : List Int := (List.range 36).map g
theorem tabA_len (g : Nat → Int) : (tabA g).length = 36 := by simp [tabA]
theorem tabA_get {g : Nat → Int} {x : Nat} (h : x < 36) : (tabA g).getD x 0 = g x := by simp [tabA, List.getD, h]
theorem tabA_set (g : Nat → Int) (x : Nat) (v : Int) : (tabA g).set x v = tabA (upd g x v) := by
  refine List.ext_getElem (by simp [tabA]) fun i h1 h2 => ?_
  simp only [tabA, List.getElem_set, List.getElem_map, List.getElem_range, upd]
  by_cases e : x = i
  · rw [if_pos e, if_pos e.symm]
  · rw [if_neg e, if_neg (Ne.symm e)]
/-- What two descriptions agree in, and how often they slip, up to a trait. -/
def agA (W a b : List Int) (t : Nat) : Int := if a.getD t 0 = b.getD t 0 ∧ a.getD t 0 ≠ -1 then W.getD t 0 else 0
def slA (a b : List Int) (t : Nat) : Int := if a.getD t 0 ≠ -1 ∧ b.getD t 0 ≠ -1 ∧ a.getD t 0 ≠ b.getD t 0 then 1 else 0
def agP (W a b : List Int) (k : Nat) : Int := sumN (agA W a b) k
def slP (a b : List Int) (k : Nat) : Int := sumN (slA a b) k
def agF (W : List Int) (L F : List (List Int)) (i k : Nat) : Int := if i < L.length ∧ k < F.length then agP W (L.getD i []) (F.getD k []) W.length else 0
def slF (W : List Int) (L F : List (List Int)) (i k : Nat) : Int := if i < L.length ∧ k < F.length then slP (L.getD i []) (F.getD k []) W.length else 0
theorem sumN_bound {f : Nat → Int} {m : Int} (h : ∀ i, 0 ≤ f i ∧ f i ≤ m) (hm : 0 ≤ m ∧ m ≤ 10) : ∀ n : Nat, n ≤ 1000 → 0 ≤ sumN f n ∧ sumN f n ≤ 10 * n
  | 0, _ => by simp [sumN]
  | n + 1, hn => by
    have h1 := sumN_bound h hm n (by omega)
    have h2 := h n
    rw [sumN]; omega
/-- A desk without an error. -/
structure Fine (W : List Int) (s : Int) (L F : List (List Int)) (R : List Int) : Prop where
  w1 : 1 ≤ W.length
  w5 : W.length ≤ 5
  l6 : L.length ≤ 6
  f6 : F.length ≤ 6
  lw : ∀ x ∈ L, x.length = W.length
  fw : ∀ x ∈ F, x.length = W.length
  rl : R.length = L.length
  w : ∀ x ∈ W, 1 ≤ x ∧ x ≤ 9
  s : 0 ≤ s ∧ s ≤ 3
  r : ∀ x ∈ R, 0 ≤ x ∧ x ≤ 99
  lv : ∀ r ∈ L, ∀ x ∈ r, -1 ≤ x ∧ x ≤ 5
  fv : ∀ r ∈ F, ∀ x ∈ r, -1 ≤ x ∧ x ≤ 5
section
variable {W : List Int} {s : Int} {L F : List (List Int)} {R : List Int}
theorem errD_iff : errD W s L F R = 0 ↔ Fine W s L F R := by
  unfold errD
  constructor
  · intro h
    split at h
    · cases h
    rename_i c1
    split at h
    · cases h
    rename_i c2
    split at h
    · cases h
    rename_i c3
    split at h
    · cases h
    rename_i c4
    split at h
    · cases h
    rename_i c5
    split at h
    · cases h
    rename_i c6
    split at h
    rotate_left
    · cases h
    rename_i c7
    simp only [Bool.and_eq_true, List.all_eq_true, okw, okr, okv, decide_eq_true_eq] at c7
    simp only [Bool.not_eq_false, List.all_eq_true, okl, decide_eq_true_eq] at c4 c5
    exact ⟨by omega, by omega, by omega, by omega, c4, c5, by omega, c7.1.1.1.1, c7.1.1.1.2, c7.1.1.2, c7.1.2, c7.2⟩
  · intro h
    have c4 : L.all (okl W.length) = true := by simpa [okl] using h.lw
    have c5 : F.all (okl W.length) = true := by simpa [okl] using h.fw
    have h1 := h.w1; have h2 := h.w5; have h3 := h.l6; have h4 := h.f6; have h5 := h.rl
    rw [if_neg (by omega), if_neg (by omega), if_neg (by omega), if_neg (by simp [c4]), if_neg (by simp [c5]), if_neg (by omega), if_pos]
    simp only [Bool.and_eq_true, List.all_eq_true, okw, okr, okv, decide_eq_true_eq]
    exact ⟨⟨⟨⟨h.w, h.s⟩, h.r⟩, h.lv⟩, h.fv⟩
theorem Fine.sm (h : Fine W s L F R) : Sm W L F R := by
  have h1 := h.w1; have h2 := h.w5; have h3 := h.l6; have h4 := h.f6; have h5 := h.rl
  exact ⟨by omega, by omega, by omega, by omega, fun x hx => by have := h.lw x hx; omega, fun x hx => by have := h.fw x hx; omega⟩
/-- The desk at work. -/
def dkT (W : List Int) (s : Int) (L F : List (List Int)) (R : List Int) (A B : Nat → Nat → Int) : Dk := (W, s, L, F, R, tabA (fun x => A (x / 6) (x % 6)), tabA (fun x => B (x / 6) (x % 6)), ())
def dkO (W : List Int) (s : Int) (L F : List (List Int)) (R : List Int) : Dk := dkT W s L F R (agF W L F) (slF W L F)
theorem getD_W (hw : ∀ x ∈ W, 1 ≤ x ∧ x ≤ 9) (t : Nat) : 0 ≤ W.getD t 0 ∧ W.getD t 0 ≤ 9 := by
  by_cases h : t < W.length
  · have := hw _ (getD_mem (d := 0) h); omega
  · have : W.getD t 0 = 0 := by simp [List.getD, List.getElem?_eq_none (show W.length ≤ t by omega)]
    omega
theorem agA_bound (hw : ∀ x ∈ W, 1 ≤ x ∧ x ≤ 9) (a b : List Int) (t : Nat) : 0 ≤ agA W a b t ∧ agA W a b t ≤ 9 := by
  have := getD_W hw t
  unfold agA; split <;> omega
theorem slA_bound (a b : List Int) (t : Nat) : 0 ≤ slA a b t ∧ slA a b t ≤ 1 := by unfold slA; split <;> omega
theorem agP_bound (hw : ∀ x ∈ W, 1 ≤ x ∧ x ≤ 9) (a b : List Int) {t : Nat} (ht : t ≤ 5) : 0 ≤ agP W a b t ∧ agP W a b t ≤ 50 := by
  have := sumN_bound (agA_bound hw a b) (by omega) t (by omega)
  unfold agP; omega
theorem slP_bound (a b : List Int) {t : Nat} (ht : t ≤ 5) : 0 ≤ slP a b t ∧ slP a b t ≤ 50 := by
  have := sumN_bound (slA_bound a b) (by omega) t (by omega)
  unfold slP; omega
theorem upd_upd {α : Type} (J : Nat → α) (i : Nat) (v w : α) : upd (upd J i v) i w = upd J i w := by
  funext x; unfold upd; split <;> rfl
theorem upd_id {α : Type} (J : Nat → α) (i : Nat) : upd J i (J i) = J := by
  funext x; unfold upd; split
  · rename_i e; rw [e]
  · rfl
theorem opened_l3_p {N : Nat} (h : Fine W s L F R) {i k : Nat} (hi : i < 6) (hk : k < 6) {a b : List Int} (ha : a.length = W.length) (hb : b.length = W.length) {u u4 : List (List Int)} {u2 u3 u5 u6 : Int} {o1 o5 : List Int} {o2 : Int} {o3 o4 : List (List Int)} :
    ∀ (n t : Nat) (g g' : Nat → Int), W.length < n + t → t ≤ W.length → g (i * 6 + k) = agP W a b t → g' (i * 6 + k) = slP a b t →
      opened_l3 N n i a k b u u2 u3 u4 u5 u6 a a.length t W s L F R o1 o2 o3 o4 o5 (tabA g) (tabA g') = some ((i : Int), a, u, u2, u3, u4, u5, u6, W, s, L, F, R, o1, o2, o3, o4, o5, tabA (upd g (i * 6 + k) (agP W a b W.length)), tabA (upd g' (i * 6 + k) (slP a b W.length)))
  | 0, t, _, _, hn, ht, _, _ => by omega
  | n + 1, t, g, g', hn, ht, e1, e2 => by
    unfold opened_l3
    have hw5 := h.w5
    by_cases c : t < W.length
    · have hx : i * 6 + k < 36 := by omega
      have hj : ∀ g g' : Nat → Int, opened_j1 N (opened_l3 N n) i a k b u u2 u3 u4 u5 u6 a a.length t W s L F R o1 o2 o3 o4 o5 (tabA g) (tabA g') = opened_l3 N n i a k b u u2 u3 u4 u5 u6 a a.length ((t + 1 : Nat) : Int) W s L F R o1 o2 o3 o4 o5 (tabA g) (tabA g') := fun g g' => by
        unfold opened_j1
        rw [chk_eq (by omega)]; rfl
      have b1 := agP_bound h.w a b (t := t) (by omega)
      have b2 := slP_bound a b (t := t) (by omega)
      have b3 := getD_W h.w t
      have s1 : agP W a b (t + 1) = agP W a b t + agA W a b t := rfl
      have s2 : slP a b (t + 1) = slP a b t + slA a b t := rfl
      rw [br_dec (by omega), idx_eq (by omega) (gets (by omega) 0)]
      unfold agA at s1
      unfold slA at s2
      by_cases c1 : a.getD t 0 = -1
      · rw [if_neg (by omega)] at s1 s2
        rw [br_dec c1, hj, opened_l3_p h hi hk ha hb n (t + 1) g g' (by omega) (by omega) (by omega) (by omega)]
      rw [br_ndec c1, idx_eq (by omega) (gets (by omega) 0)]
      by_cases c2 : b.getD t 0 = -1
      · rw [if_neg (by omega)] at s1 s2
        rw [br_dec c2, hj, opened_l3_p h hi hk ha hb n (t + 1) g g' (by omega) (by omega) (by omega) (by omega)]
      rw [br_ndec c2, idx_eq (by omega) (gets (by omega) 0)]
      by_cases c3 : a.getD t 0 = b.getD t 0
      · rw [if_pos ⟨c3, c1⟩] at s1
        rw [if_neg (by omega)] at s2
        rw [br_dec c3, rng_eq (by omega), rng_eq (by omega)]
        simp only [Int.toNat_natCast]
        rw [get_get 0 (by rw [tabA_len]; exact hx), tabA_get hx, e1, idx_eq (by omega) (gets (k := t) (l := W) (by omega) 0), chk_eq (by omega), rng_eq (by omega), rng_eq (by omega), get_get 0 (by rw [tabA_len]; exact hx), tabA_set, hj,
          opened_l3_p h hi hk ha hb n (t + 1) _ _ (by omega) (by omega) (by rw [upd_self]; omega) (by omega), upd_upd]
      · rw [if_neg (by omega)] at s1
        rw [if_pos ⟨c1, c2, c3⟩] at s2
        rw [br_ndec c3, rng_eq (by omega), rng_eq (by omega)]
        simp only [Int.toNat_natCast]
        rw [get_get 0 (by rw [tabA_len]; exact hx), tabA_get hx, e2, chk_eq (by omega), rng_eq (by omega), rng_eq (by omega), get_get 0 (by rw [tabA_len]; exact hx), tabA_set, hj,
          opened_l3_p h hi hk ha hb n (t + 1) _ _ (by omega) (by omega) (by omega) (by rw [upd_self]; omega), upd_upd]
    · obtain rfl : t = W.length := by omega
      rw [br_ndec (by omega), ← e1, ← e2, upd_id, upd_id]
/-- Tables that are filled up to a pair. -/
def gK (A : Nat → Nat → Int) (i k : Nat) : Nat → Int := fun x => if x / 6 < i ∨ (x / 6 = i ∧ x % 6 < k) then A (x / 6) (x % 6) else 0
theorem gK_step (A : Nat → Nat → Int) {i k : Nat} (hk : k < 6) : upd (gK A i k) (i * 6 + k) (A i k) = gK A i (k + 1) := by
  funext x
  unfold upd gK
  by_cases e : x = i * 6 + k
  · rw [if_pos e, if_pos (by omega), show x / 6 = i by omega, show x % 6 = k by omega]
  · rw [if_neg e]
    by_cases c : x / 6 < i ∨ (x / 6 = i ∧ x % 6 < k)
    · rw [if_pos c, if_pos (by omega)]
    · rw [if_neg c, if_neg (by omega)]
theorem gK_self (A : Nat → Nat → Int) {i k : Nat} (hk : k < 6) : gK A i k (i * 6 + k) = 0 := if_neg (by omega)
theorem gK_row {A : Nat → Nat → Int} {i m : Nat} (h : ∀ k, m ≤ k → A i k = 0) : gK A i m = gK A (i + 1) 0 := by
  funext x
  unfold gK
  by_cases c : x / 6 < i ∨ (x / 6 = i ∧ x % 6 < m)
  · rw [if_pos c, if_pos (by omega)]
  · rw [if_neg c]
    by_cases d : x / 6 = i
    · rw [if_pos (by omega), d, h _ (by omega)]
    · rw [if_neg (by omega)]
theorem gK_all {A : Nat → Nat → Int} {n : Nat} (h : ∀ i k, n ≤ i → A i k = 0) : gK A n 0 = fun x => A (x / 6) (x % 6) := by
  funext x
  unfold gK
  by_cases c : x / 6 < n
  · rw [if_pos (.inl c)]
  · rw [if_neg (by omega), h _ _ (by omega)]
theorem opened_l2_p {N : Nat} (hN : 110 ≤ N) (h : Fine W s L F R) {i : Nat} (hi : i < L.length) {u : List (List Int)} {u2 u3 : Int} {o1 o5 : List Int} {o2 : Int} {o3 o4 : List (List Int)} :
    ∀ (n k : Nat), F.length < n + k → k ≤ F.length →
      opened_l2 N n i (L.getD i []) u u2 u3 F F.length k W s L F R o1 o2 o3 o4 o5 (tabA (gK (agF W L F) i k)) (tabA (gK (slF W L F) i k)) = some (u, u2, u3, W, s, L, F, R, o1, o2, o3, o4, o5, tabA (gK (agF W L F) (i + 1) 0), tabA (gK (slF W L F) (i + 1) 0))
  | 0, k, hn, hk => by omega
  | n + 1, k, hn, hk => by
    unfold opened_l2
    have hl6 := h.l6; have hf6 := h.f6; have hw5 := h.w5
    by_cases c : k < F.length
    · have ih := opened_l2_p hN h hi (u := u) (u2 := u2) (u3 := u3) (o1 := o1) (o5 := o5) (o2 := o2) (o3 := o3) (o4 := o4) n (k + 1) (by omega) (by omega)
      rw [nat_succ] at ih
      have e := opened_l3_p (N := N) h (i := i) (k := k) (by omega) (by omega) (h.lw _ (getD_mem (d := []) hi)) (h.fw _ (getD_mem (d := []) c)) (u := u) (u4 := F) (u2 := u2) (u3 := u3) (u5 := F.length) (u6 := k) (o1 := o1) (o5 := o5) (o2 := o2) (o3 := o3) (o4 := o4)
        N 0 (gK (agF W L F) i k) (gK (slF W L F) i k) (by omega) (by omega) (gK_self _ (by omega)) (gK_self _ (by omega))
      have a1 : agP W (L.getD i []) (F.getD k []) W.length = agF W L F i k := (if_pos ⟨hi, c⟩).symm
      have a2 : slP (L.getD i []) (F.getD k []) W.length = slF W L F i k := (if_pos ⟨hi, c⟩).symm
      rw [a1, a2, gK_step _ (by omega), gK_step _ (by omega), show ((0 : Nat) : Int) = 0 from rfl] at e
      rw [br_dec (by omega), idx_eq (by omega) (gets c []), e]
      simp only [Option.bind_some]
      rw [chk_eq (by omega)]
      exact ih
    · obtain rfl : k = F.length := by omega
      rw [br_ndec (by omega), gK_row (A := agF W L F) (i := i) (m := F.length) (fun k hk => by unfold agF; exact if_neg (by omega)), gK_row (A := slF W L F) (i := i) (m := F.length) (fun k hk => by unfold slF; exact if_neg (by omega))]
theorem opened_l1_p {N : Nat} (hN : 110 ≤ N) (h : Fine W s L F R) {o1 o5 : List Int} {o2 : Int} {o3 o4 : List (List Int)} :
    ∀ (n i : Nat), L.length < n + i → i ≤ L.length →
      opened_l1 N n L L.length i W s L F R o1 o2 o3 o4 o5 (tabA (gK (agF W L F) i 0)) (tabA (gK (slF W L F) i 0)) = some (o1, o2, o3, o4, o5, tabA (fun x => agF W L F (x / 6) (x % 6)), tabA (fun x => slF W L F (x / 6) (x % 6)))
  | 0, i, hn, hi => by omega
  | n + 1, i, hn, hi => by
    unfold opened_l1
    have hl6 := h.l6; have hf6 := h.f6
    by_cases c : i < L.length
    · have ih := opened_l1_p hN h (o1 := o1) (o5 := o5) (o2 := o2) (o3 := o3) (o4 := o4) n (i + 1) (by omega) (by omega)
      rw [nat_succ] at ih
      have e := opened_l2_p hN h c (u := L) (u2 := L.length) (u3 := i) (o1 := o1) (o5 := o5) (o2 := o2) (o3 := o3) (o4 := o4) N 0 (by omega) (by omega)
      rw [show ((0 : Nat) : Int) = 0 from rfl] at e
      rw [br_dec (by omega), idx_eq (by omega) (gets c []), e]
      simp only [Option.bind_some]
      rw [chk_eq (by omega)]
      exact ih
    · obtain rfl : i = L.length := by omega
      rw [br_ndec (by omega), gK_all (A := agF W L F) (fun i k hi => by unfold agF; exact if_neg (by omega)), gK_all (A := slF W L F) (fun i k hi => by unfold slF; exact if_neg (by omega))]
theorem opened_v {N : Nat} (hN : 110 ≤ N) (h : Sm W L F R) : opened_S N W s L F R = some (if errD W s L F R = 0 then .inl (dkO W s L F R, 0) else .inr (errD W s L F R)) := by
  unfold opened_S
  rw [check_v hN h]
  simp only [Option.bind_some]
  by_cases c : errD W s L F R = 0
  · have hF := errD_iff.1 c
    have e := opened_l1_p hN hF (o1 := W) (o2 := s) (o3 := L) (o4 := F) (o5 := R) N 0 (by have := hF.l6; omega) (by omega)
    have z : ∀ A : Nat → Nat → Int, tabA (gK A 0 0) = List.replicate 36 (0 : Int) := fun A => by
      rw [show gK A 0 0 = fun _ => 0 by funext x; exact if_neg (by omega)]; rfl
    rw [z, z, show ((0 : Nat) : Int) = 0 from rfl] at e
    rw [br_nd c, if_pos c, e]; rfl
  · rw [br_nnd c, if_neg c]
theorem opened_f {N : Nat} (hN : 110 ≤ N) (h : Fine W s L F R) : opened_S N W s L F R = some (.inl (dkO W s L F R, 0)) := by
  rw [opened_v hN h.sm, if_pos (errD_iff.2 h)]
end
end Go.Proofs.Ythncjilcflilcaa

namespace Go.Proofs.Ythncjilcflilcaa
set_option linter.all false
open Go

/-! ### All of some numbers -/
def alI (p : Nat → Bool) (n : Nat) : Bool := (List.range' 0 n).all p
theorem alI_iff {p : Nat → Bool} {n : Nat} : alI p n = true ↔ ∀ i, i < n → p i = true := by
  unfold alI
  rw [List.all_eq_true]
  constructor
  · exact fun h i hi => h i (by simp [List.mem_range'_1, hi])
  · exact fun h i hi => h i (by have := List.mem_range'_1.1 hi; omega)
def allI {β : Type} (p : Nat → Bool) (n k : Nat) (b : β) : Option (Unit ⊕ β) := some (if (List.range' k (n - k)).all p then .inr b else .inl ())
theorem allI_0 {β : Type} (p : Nat → Bool) (n : Nat) (b : β) : allI p n 0 b = some (if alI p n then .inr b else .inl ()) := rfl
theorem allI_yes {β : Type} {p : Nat → Bool} {n k : Nat} {b : β} (h : k < n) (hp : p k = true) : allI p n k b = allI p n (k + 1) b := by
  unfold allI
  rw [show n - k = (n - (k + 1)) + 1 by omega, List.range'_succ, List.all_cons, hp, Bool.true_and]
theorem allI_no {β : Type} {p : Nat → Bool} {n k : Nat} {b : β} (h : k < n) (hp : p k = false) : allI p n k b = some (.inl ()) := by
  unfold allI
  rw [show n - k = (n - (k + 1)) + 1 by omega, List.range'_succ, List.all_cons, hp, Bool.false_and]; rfl
theorem allI_end {β : Type} {p : Nat → Bool} {n k : Nat} {b : β} (h : n ≤ k) : allI p n k b = some (.inr b) := by
  unfold allI
  rw [show n - k = 0 by omega]; rfl
/-! ### Tables -/
def canT (A B : Nat → Nat → Int) (s : Int) (i k : Nat) : Bool := decide (0 < A i k) && decide (B i k ≤ s)
section
variable {W : List Int} {s : Int} {L F : List (List Int)} {R : List Int} {A B : Nat → Nat → Int} {N : Nat}
theorem agD_T {i k : Nat} (hi : i < 6) (hk : k < 6) : agD (dkT W s L F R A B) i k = A i k := by
  unfold agD dkT
  rw [tabA_get (by omega), show (i * 6 + k) / 6 = i by omega, show (i * 6 + k) % 6 = k by omega]
theorem slD_T {i k : Nat} (hi : i < 6) (hk : k < 6) : slD (dkT W s L F R A B) i k = B i k := by
  unfold slD dkT
  rw [tabA_get (by omega), show (i * 6 + k) / 6 = i by omega, show (i * 6 + k) % 6 = k by omega]
theorem get_T {i k : Nat} (hi : i < 6) (hk : k < 6) {Z : Type} {f : Int → Option Z} : get (dkT W s L F R A B).2.2.2.2.2.1 (i * 6 + k) f = f (A i k) := by
  have e := agD_T (W := W) (s := s) (L := L) (F := F) (R := R) (A := A) (B := B) hi hk
  unfold agD at e
  rw [get_get 0 (by unfold dkT; rw [tabA_len]; omega), e]
theorem agF_bound (h : Fine W s L F R) (i k : Nat) : 0 ≤ agF W L F i k ∧ agF W L F i k ≤ 50 := by
  unfold agF
  split
  · exact agP_bound h.w _ _ h.w5
  · omega
abbrev canF (W : List Int) (s : Int) (L F : List (List Int)) : Nat → Nat → Bool := canT (agF W L F) (slF W L F) s
/-! ### A pair -/
theorem rpair_l1_p (h : Fine W s L F R) {i k : Nat} (hi : i < L.length) (hk : k < F.length) : ∀ (n t : Nat), W.length < n + t → t ≤ W.length →
    rpair_l1 N n i k (agP W (L.getD i []) (F.getD k []) t) (slP (L.getD i []) (F.getD k []) t) t W s L F R = some (agF W L F i k, slF W L F i k, W, s, L, F, R)
  | 0, t, hn, ht => by omega
  | n + 1, t, hn, ht => by
    unfold rpair_l1
    have hw5 := h.w5
    have ha := h.lw _ (getD_mem (d := []) hi)
    have hb := h.fw _ (getD_mem (d := []) hk)
    by_cases c : t < W.length
    · have e1 : -1 ≤ (L.getD i []).getD t 0 := (h.lv _ (getD_mem (d := []) hi) _ (getD_mem (d := 0) (by omega))).1
      have e2 : -1 ≤ (F.getD k []).getD t 0 := (h.fv _ (getD_mem (d := []) hk) _ (getD_mem (d := 0) (by omega))).1
      have ih := rpair_l1_p h hi hk n (t + 1) (by omega) (by omega)
      rw [nat_succ] at ih
      have b1 := agP_bound h.w (L.getD i []) (F.getD k []) (t := t) (by omega)
      have b2 := slP_bound (L.getD i []) (F.getD k []) (t := t) (by omega)
      have b3 := getD_W h.w t
      have s1 : agP W (L.getD i []) (F.getD k []) (t + 1) = agP W (L.getD i []) (F.getD k []) t + agA W (L.getD i []) (F.getD k []) t := rfl
      have s2 : slP (L.getD i []) (F.getD k []) (t + 1) = slP (L.getD i []) (F.getD k []) t + slA (L.getD i []) (F.getD k []) t := rfl
      rw [s1, s2] at ih
      clear s1 s2
      rw [br_dec (by omega), idx_eq (by omega) (gets hi []), idx_eq (by omega) (gets (by omega) 0), idx_eq (by omega) (gets hk []), idx_eq (by omega) (gets (by omega) 0)]
      have hj : ∀ x y, rpair_j2 N (rpair_l1 N n) i k x y t W s L F R = rpair_l1 N n i k x y (↑t + 1) W s L F R := fun x y => by
        unfold rpair_j2
        rw [chk_eq (by omega)]
      unfold rpair_j1
      simp only [hj]
      unfold agA slA at ih
      generalize (L.getD i []).getD t 0 = x at *
      generalize (F.getD k []).getD t 0 = y at *
      generalize agP W (L.getD i []) (F.getD k []) t = p at *
      generalize slP (L.getD i []) (F.getD k []) t = q at *
      by_cases c1 : 0 ≤ x
      rotate_left
      · rw [if_neg (by omega), if_neg (by omega), Int.add_zero, Int.add_zero] at ih
        rw [br_ndec c1, br_ndec c1, ih]
      by_cases c2 : 0 ≤ y
      rotate_left
      · rw [if_neg (by omega), if_neg (by omega), Int.add_zero, Int.add_zero] at ih
        rw [br_dec c1, br_ndec c2, br_dec c1, br_ndec c2, ih]
      by_cases c3 : x = y
      · rw [if_pos ⟨c3, by omega⟩, if_neg (by omega), Int.add_zero] at ih
        rw [br_dec c1, br_dec c2, br_dec c3, idx_eq (by omega) (gets c 0), chk_eq (by omega), br_dec c1, br_dec c2, br_nd c3, ih]
      · rw [if_neg (by omega), if_pos ⟨by omega, by omega, c3⟩, Int.add_zero] at ih
        rw [br_dec c1, br_dec c2, br_ndec c3, br_dec c1, br_dec c2, br_nnd c3, chk_eq (by omega), ih]
    · obtain rfl : t = W.length := by omega
      rw [br_ndec (by omega)]
      unfold agF slF
      rw [if_pos ⟨hi, hk⟩, if_pos ⟨hi, hk⟩]
theorem rpair_v (hN : 110 ≤ N) (h : Fine W s L F R) {i k : Nat} (hi : i < L.length) (hk : k < F.length) : rpair_S N W s L F R i k = some (agF W L F i k, slF W L F i k, canF W s L F i k) := by
  have e := rpair_l1_p (N := N) h hi hk N 0 (by have := h.w5; omega) (by omega)
  unfold rpair_S
  rw [show agP W (L.getD i []) (F.getD k []) 0 = 0 from rfl, show slP (L.getD i []) (F.getD k []) 0 = 0 from rfl, show ((0 : Nat) : Int) = 0 from rfl] at e
  rw [e]
  simp only [Option.bind_some]
  unfold canF canT
  by_cases c : 0 < agF W L F i k
  · rw [br_dec c, decide_eq_true c, Bool.true_and]
  · rw [br_ndec c, decide_eq_false c, Bool.false_and]
/-! ### Joins -/
def inm (m : Nat) (x : Int) : Bool := decide (-1 ≤ x ∧ x ≤ (m : Int) - 1)
def hasB (l : List Int) (x : Int) : Bool := l.any fun y => decide (x = y)
theorem hasB_iff {l : List Int} {x : Int} : hasB l x = true ↔ x ∈ l := by simp [hasB]
def dupI (l : List Int) (i : Nat) : Bool := decide (l.getD i 0 = -1) || !hasB (l.take i) (l.getD i 0)
def cnI (can : Nat → Nat → Bool) (l : List Int) (i : Nat) : Bool := decide (l.getD i 0 = -1) || can i (l.getD i 0).toNat
/-- The error of joins, e that of the desk. -/
def errJ (e : Int) (n m : Nat) (can : Nat → Nat → Bool) (l : List Int) : Int :=
  if ¬ e = 0 then e else if ¬ (l.length : Int) = (n : Int) then 2 else if l.all (inm m) = false then 1 else if alI (dupI l) l.length = false then 5 else if alI (cnI can l) l.length = false then 8 else 0
theorem rjoins_l1_p (hF : F.length ≤ 1000000) {l : List Int} (hl : l.length ≤ 1000000) : ∀ (n k : Nat), l.length < n + k → k ≤ l.length → rjoins_l1 N n l k W s L F R = alls (inm F.length) l k (l, W, s, L, F, R)
  | 0, k, h, _ => by omega
  | n + 1, k, h, hk => by
    unfold rjoins_l1
    by_cases c : k < l.length
    · have ih := rjoins_l1_p hF hl n (k + 1) (by omega) (by omega)
      rw [nat_succ] at ih
      rw [br_dec (by omega), idx_eq (by omega) (gets c 0), chk_eq (by omega), off_v]
      simp only [Option.bind_some]
      by_cases c1 : -1 ≤ l.getD k 0 ∧ l.getD k 0 ≤ (F.length : Int) - 1
      · rw [br_nd c1, chk_eq (by omega), ih, alls_yes 0 c (by unfold inm; rw [decide_eq_true c1])]
      · rw [br_nnd c1, alls_no 0 c (by unfold inm; rw [decide_eq_false c1])]
    · rw [br_ndec (by omega), alls_end (by omega)]
def neI (l : List Int) (i k : Nat) : Bool := !decide (0 ≤ l.getD i 0) || !decide (l.getD i 0 = l.getD k 0)
theorem rjoins_l3_p {l : List Int} (hl : l.length ≤ 1000000) {i : Nat} (hi : i < l.length) : ∀ (n k : Nat), i < n + k → k ≤ i → rjoins_l3 N n l i k W s L F R = allI (neI l i) i k (l, (i : Int), W, s, L, F, R)
  | 0, k, h, _ => by omega
  | n + 1, k, h, hk => by
    unfold rjoins_l3
    by_cases c : k < i
    · have ih := rjoins_l3_p hl hi n (k + 1) (by omega) (by omega)
      rw [nat_succ] at ih
      rw [br_dec (by omega), idx_eq (by omega) (gets hi 0)]
      by_cases c1 : 0 ≤ l.getD i 0
      · rw [br_dec c1, idx_eq (by omega) (gets hi 0), idx_eq (by omega) (gets (by omega) 0)]
        by_cases c2 : l.getD i 0 = l.getD k 0
        · rw [br_dec c2, allI_no c (by unfold neI; rw [decide_eq_true c1, decide_eq_true c2]; rfl)]
        · rw [br_ndec c2, chk_eq (by omega), ih, allI_yes c (by unfold neI; rw [decide_eq_false c2]; simp)]
      · rw [br_ndec c1, chk_eq (by omega), ih, allI_yes c (by unfold neI; rw [decide_eq_false c1]; rfl)]
    · rw [br_ndec (by omega), allI_end (by omega)]
theorem neI_dup {l : List Int} {m i : Nat} (hm : l.all (inm m) = true) (hi : i < l.length) : alI (neI l i) i = dupI l i := by
  have hx := List.all_eq_true.1 hm _ (getD_mem (d := 0) hi)
  unfold inm at hx
  rw [decide_eq_true_eq] at hx
  rw [Bool.eq_iff_iff, alI_iff]
  unfold neI dupI
  by_cases c : l.getD i 0 = -1
  · rw [decide_eq_true c]
    exact ⟨fun _ => rfl, fun _ k _ => by rw [decide_eq_false (by omega)]; rfl⟩
  · rw [decide_eq_false c, Bool.false_or, Bool.not_eq_true', ← Bool.not_eq_true, hasB_iff]
    constructor
    · intro h hmem
      obtain ⟨k, hk, e⟩ := List.getElem_of_mem hmem
      have hk2 : k < i := by simp at hk; omega
      have := h k hk2
      rw [decide_eq_true (by omega : 0 ≤ l.getD i 0)] at this
      simp only [Bool.not_true, Bool.false_or, Bool.not_eq_true', decide_eq_false_iff_not] at this
      apply this
      rw [← e]
      simp [List.getD, show k < l.length by omega]
    · intro h k hk
      have : l.getD i 0 ≠ l.getD k 0 := fun e => h (by
        rw [e]
        exact List.mem_iff_getElem.2 ⟨k, by simp; omega, by simp [List.getD, show k < l.length by omega]⟩)
      rw [decide_eq_false this]; simp
theorem rjoins_l2_p {l : List Int} (hl : l.length ≤ 1000000) (hN : l.length < N) {m : Nat} (hm : l.all (inm m) = true) : ∀ (n k : Nat), l.length < n + k → k ≤ l.length → rjoins_l2 N n l k W s L F R = allI (dupI l) l.length k (l, W, s, L, F, R)
  | 0, k, h, _ => by omega
  | n + 1, k, h, hk => by
    unfold rjoins_l2
    by_cases c : k < l.length
    · have ih := rjoins_l2_p hl hN hm n (k + 1) (by omega) (by omega)
      rw [nat_succ] at ih
      have e := rjoins_l3_p (N := N) (W := W) (s := s) (L := L) (F := F) (R := R) hl c N 0 (by omega) (by omega)
      rw [show ((0 : Nat) : Int) = 0 from rfl, allI_0, neI_dup hm c] at e
      rw [br_dec (by omega), e]
      cases hb : dupI l k
      · rw [allI_no c hb]; rfl
      · rw [allI_yes c hb, if_pos rfl, ← ih]
        simp only [Option.bind_some]
        rw [chk_eq (by omega)]
    · rw [br_ndec (by omega), allI_end (by omega)]
theorem rjoins_l4_p (hN : 110 ≤ N) (h : Fine W s L F R) {l : List Int} (hl : l.length = L.length) (hm : l.all (inm F.length) = true) : ∀ (n k : Nat), l.length < n + k → k ≤ l.length → rjoins_l4 N n l k W s L F R = allI (cnI (canF W s L F) l) l.length k ()
  | 0, k, hn, _ => by omega
  | n + 1, k, hn, hk => by
    unfold rjoins_l4
    have hl6 := h.l6; have hf6 := h.f6
    by_cases c : k < l.length
    · have ih := rjoins_l4_p hN h hl hm n (k + 1) (by omega) (by omega)
      rw [nat_succ] at ih
      have hj : rjoins_j1 N (rjoins_l4 N n) l k W s L F R = allI (cnI (canF W s L F) l) l.length (k + 1) () := by
        unfold rjoins_j1
        rw [chk_eq (by omega), ih]
      have y := allI_yes (p := cnI (canF W s L F) l) (b := ()) c
      have no := allI_no (p := cnI (canF W s L F) l) (b := ()) c
      have hx := List.all_eq_true.1 hm _ (getD_mem (d := 0) c)
      unfold inm at hx
      rw [decide_eq_true_eq] at hx
      rw [br_dec (by omega), idx_eq (by omega) (gets c 0), hj]
      have ec : cnI (canF W s L F) l k = (decide (l.getD k 0 = -1) || canF W s L F k (l.getD k 0).toNat) := rfl
      by_cases c1 : l.getD k 0 = -1
      · rw [br_dec (by omega), y (by rw [ec, decide_eq_true c1]; rfl)]
      · obtain ⟨q, hq⟩ : ∃ q : Nat, l.getD k 0 = q := ⟨(l.getD k 0).toNat, by omega⟩
        rw [decide_eq_false c1, Bool.false_or] at ec
        rw [br_ndec (by omega), idx_eq (by omega) (gets c 0)]
        rw [hq] at hx ec ⊢
        rw [rpair_v hN h (by omega) (by omega)]
        simp only [Option.bind_some, Int.toNat_natCast] at ec ⊢
        rw [ec] at y no
        cases hb : canF W s L F k q
        · rw [no hb]; rfl
        · rw [y hb]; rfl
    · rw [br_ndec (by omega), allI_end (by omega)]
theorem rjoins_v (hN : 110 ≤ N) (h : Sm W L F R) {l : List Int} (hl : l.length ≤ 100) : rjoins_S N W s L F R l = some (errJ (errD W s L F R) L.length F.length (canF W s L F) l) := by
  unfold rjoins_S errJ
  rw [rcheck_v hN h]
  simp only [Option.bind_some]
  by_cases c : errD W s L F R = 0
  rotate_left
  · rw [br_nnd c, if_pos c]
  have hF := errD_iff.1 c
  rw [br_nd c, if_neg (not_not_intro c)]
  by_cases c1 : (l.length : Int) = (L.length : Int)
  rotate_left
  · rw [br_nnd c1, if_pos c1]
  have hl6 := hF.l6; have hf6 := hF.f6
  have e0 := rjoins_l1_p (N := N) (W := W) (s := s) (L := L) (R := R) (F := F) (by omega) (l := l) (by omega) N 0 (by omega) (by omega)
  rw [show ((0 : Nat) : Int) = 0 from rfl] at e0
  unfold alls at e0
  rw [List.drop_zero] at e0
  rw [br_nd c1, if_neg (not_not_intro c1), e0]
  by_cases c2 : l.all (inm F.length) = true
  rotate_left
  · rw [if_neg c2, Bool.eq_false_iff.2 c2]; rfl
  have e1 := rjoins_l2_p (N := N) (W := W) (s := s) (L := L) (F := F) (R := R) (l := l) (by omega) (by omega) c2 N 0 (by omega) (by omega)
  have e2 := rjoins_l4_p hN hF (by omega) c2 N 0 (by omega) (by omega)
  rw [show ((0 : Nat) : Int) = 0 from rfl, allI_0] at e1 e2
  rw [if_pos c2, c2, if_neg (by simp)]
  simp only [Option.bind_some]
  rw [e1]
  by_cases c3 : alI (dupI l) l.length = true
  rotate_left
  · rw [if_neg c3, Bool.eq_false_iff.2 c3]; rfl
  rw [if_pos c3, c3]
  simp only [Option.bind_some]
  rw [e2]
  by_cases c4 : alI (cnI (canF W s L F) l) l.length = true
  rotate_left
  · rw [if_neg c4, Bool.eq_false_iff.2 c4]; rfl
  rw [if_pos c4, c4]; rfl
end
end Go.Proofs.Ythncjilcflilcaa

namespace Go.Proofs.Ythncjilcflilcaa
set_option linter.all false
open Go

section
variable {N : Nat}
end
theorem valJ_bound {t : Nat → Nat → Int} {m : Int} (h : ∀ i k, 0 ≤ t i k ∧ t i k ≤ m) (hm : 0 ≤ m) : ∀ (l : List Int) (i : Nat), 0 ≤ valJ t i l ∧ valJ t i l ≤ m * l.length
  | [], _ => by simp [valJ]
  | x :: l, i => by
    have h1 := valJ_bound h hm l (i + 1)
    have h2 := h i x.toNat
    rw [valJ, List.length_cons, Int.natCast_add, Int.mul_add]
    unfold pv
    split <;> simp <;> omega
section
variable {W : List Int} {s : Int} {L F : List (List Int)} {R : List Int} {A B : Nat → Nat → Int} {N : Nat}
theorem rworth_l1_p (hN : 110 ≤ N) (h : Fine W s L F R) {l : List Int} (hl : l.length ≤ L.length) (hm : l.all (inm F.length) = true) : ∀ (n k : Nat) (x : Int), l.length < n + k → k ≤ l.length → 0 ≤ x ∧ x ≤ 50 * k → rworth_l1 N n l x k W s L F R = some (x + valJ (agF W L F) k (l.drop k))
  | 0, k, _, h, _, _ => by omega
  | n + 1, k, x, hn, hk, hx0 => by
    unfold rworth_l1
    have hl6 := h.l6
    by_cases c : k < l.length
    · have hx := List.all_eq_true.1 hm _ (getD_mem (d := 0) c)
      unfold inm at hx
      rw [decide_eq_true_eq] at hx
      have hj : ∀ x, 0 ≤ x ∧ x ≤ 50 * ((k : Int) + 1) → rworth_j1 N (rworth_l1 N n) l x k W s L F R = some (x + valJ (agF W L F) (k + 1) (l.drop (k + 1))) := fun x hx0 => by
        have ih := rworth_l1_p hN h hl hm n (k + 1) x (by omega) (by omega) (by omega)
        rw [nat_succ] at ih
        unfold rworth_j1
        rw [chk_eq (by omega), ih]
      rw [br_dec (by omega), idx_eq (by omega) (gets c 0), drop_cons c 0, valJ]
      by_cases c1 : l.getD k 0 = -1
      · rw [br_ndec (by omega), hj _ (by omega), c1, pv_none, Int.zero_add]
      · obtain ⟨q, hq⟩ : ∃ q : Nat, l.getD k 0 = q := ⟨(l.getD k 0).toNat, by omega⟩
        rw [br_dec (by omega), idx_eq (by omega) (gets c 0)]
        rw [hq] at hx ⊢
        have hb := agF_bound h k q
        rw [rpair_v hN h (by omega) (by omega), pv_some]
        simp only [Option.bind_some]
        rw [chk_eq (by omega), hj _ (by omega)]
        congr 1; omega
    · rw [br_ndec (by omega), List.drop_of_length_le (by omega)]
      simp [valJ]
theorem rworth_v (hN : 110 ≤ N) (h : Fine W s L F R) {l : List Int} (hl : l.length ≤ L.length) (hm : l.all (inm F.length) = true) : rworth_S N W s L F R l = some (valJ (agF W L F) 0 l) := by
  have e := rworth_l1_p hN h hl hm N 0 0 (by have := h.l6; omega) (by omega) (by omega)
  rw [show ((0 : Nat) : Int) = 0 from rfl, List.drop_zero, Int.zero_add] at e
  unfold rworth_S
  rw [e]; rfl
/-- What joins without an error are. -/
theorem errJ_fine {e : Int} {n m : Nat} {can : Nat → Nat → Bool} {l : List Int} (h : errJ e n m can l = 0) : e = 0 ∧ l.length = n ∧ l.all (inm m) = true ∧ alI (dupI l) l.length = true ∧ alI (cnI can l) l.length = true := by
  unfold errJ at h
  split at h
  · rename_i c; exact absurd h c
  rename_i c
  split at h
  · cases h
  rename_i c1
  split at h
  · cases h
  rename_i c2
  split at h
  · cases h
  rename_i c3
  split at h
  · cases h
  rename_i c4
  exact ⟨by omega, by omega, by simpa using c2, by simpa using c3, by simpa using c4⟩
/-! ### What may be joined -/
def mayE (can : Nat → Nat → Bool) (m i : Nat) : List (Int × Unit) := (mayL can m i).map fun (j : Nat) => ((j : Int), ())
theorem mayR_T (hF : F.length ≤ 6) {i : Nat} (hi : i < 6) : mayR (dkT W s L F R A B) (dkT W s L F R A B) i = some (mayE (canT A B s) F.length i) := by
  unfold mayR mayE mayL mayF
  rw [if_pos ⟨⟨by omega, by omega⟩, hF, tabA_len _, tabA_len _⟩]
  congr 2
  simp only [Int.toNat_natCast, Nat.sub_zero]
  rw [← List.range_eq_range']
  refine List.filter_congr fun k hk => ?_
  have hk : k < F.length := by simpa [dkT] using hk
  unfold canD canT
  rw [agD_T hi (by omega), slD_T hi (by omega)]; rfl
end
end Go.Proofs.Ythncjilcflilcaa

namespace Go.Proofs.Ythncjilcflilcaa
set_option linter.all false
open Go

section
variable {W : List Int} {s : Int} {L F : List (List Int)} {R : List Int} {A B : Nat → Nat → Int} {N : Nat}
/-! ### Copies -/
theorem copyr_l1_p {l : List (List Int)} (hl : l.length ≤ 1000000) (hr : ∀ x ∈ l, x.length ≤ 1000000) : ∀ n k : Nat, l.length < n + k → k ≤ l.length → copyr_l1 N n l l.length k (l.take k ++ List.replicate (l.length - k) []) = some l
  | 0, k, h, _ => by omega
  | n + 1, k, h, hk => by
    unfold copyr_l1
    by_cases c : k < l.length
    · have ih := copyr_l1_p hl hr n (k + 1) (by omega) (by omega)
      rw [nat_succ, take_succ' c []] at ih
      rw [br_dec (by omega), idx_eq (by omega) (gets c []), copyi_v (hr _ (getD_mem c))]
      simp only [Option.bind_some, Int.toNat_natCast]
      have hlen : (l.take k ++ List.replicate (l.length - k) ([] : List Int)).length = l.length := by simp; omega
      rw [rng_eq (by rw [hlen]; omega), get_get [] (by rw [hlen]; exact c), chk_eq (by omega), ← ih]
      congr 1
      rw [List.set_append_right _ _ (by simp; omega), show k - (l.take k).length = 0 by simp; omega, show l.length - k = (l.length - (k + 1)) + 1 by omega, List.replicate_succ]
      simp
    · rw [br_ndec (by omega), List.take_of_length_le (by omega), show l.length - k = 0 by omega]; simp
theorem copyr_v {l : List (List Int)} (hl : l.length ≤ 1000000) (hN : l.length < N) (hr : ∀ x ∈ l, x.length ≤ 1000000) : copyr_S N l = some l := by
  unfold copyr_S
  have e := copyr_l1_p (N := N) hl hr N 0 (by omega) (by omega)
  simp only [List.take_zero, List.nil_append, Nat.sub_zero, Int.natCast_zero] at e
  rw [grd_eq (lmI_iff.2 (by omega)), Int.toNat_natCast, e]; rfl
theorem copyd_v (hN : 110 ≤ N) (h : Sm W L F R) : copyd_S N W s L F R = some (W, s, L, F, R) := by
  obtain ⟨hw, hl, hf, hr, hlr, hfr⟩ := h
  unfold copyd_S
  rw [copyi_v (by omega), copyr_v (by omega) (by omega) (fun x hx => by have := hlr x hx; omega), copyr_v (by omega) (by omega) (fun x hx => by have := hfr x hx; omega), copyi_v (by omega)]; rfl
theorem equali_v {l : List Int} (h : l.length ≤ 1000) (hN : l.length < N) : equali_S N l l = some true := by
  have := likei_v h hN
  unfold likei_S at this
  cases e : equali_S N l l with
  | none => rw [e] at this; cases this
  | some b => rw [e] at this; exact this
theorem liker_v {l : List (List Int)} (hl : l.length ≤ 1000) (hN : l.length < N) (hr : ∀ x ∈ l, x.length ≤ 1000 ∧ x.length < N) : liker_S N l l = some true := by
  have e : ∀ (n k : Nat), l.length < n + k → k ≤ l.length → equalf_l1 N n l l l.length k = some (.inr ()) := by
    intro n
    induction n with
    | zero => intro k h _; omega
    | succ n ih =>
      intro k h2 hk
      unfold equalf_l1
      by_cases c : k < l.length
      · have := ih (k + 1) (by omega) (by omega)
        rw [nat_succ] at this
        have hx := hr _ (getD_mem (d := []) c)
        rw [br_dec (by omega), idx_eq (by omega) (gets c []), idx_eq (by omega) (gets c []), equali_v hx.1 hx.2]
        simp only [Option.bind_some]
        rw [Bool.not_true, br_false, chk_eq (by omega), this]
      · rw [br_ndec (by omega)]
  have e0 := e N 0 (by omega) (by omega)
  simp only [Int.natCast_zero] at e0
  unfold liker_S equalf_S
  rw [br_nd rfl, e0]; rfl
theorem same_v (hN : 110 ≤ N) (h : Sm W L F R) : same_S N W s L F R W s L F R = some true := by
  obtain ⟨hw, hl, hf, hr, hlr, hfr⟩ := h
  unfold same_S
  rw [likei_v (by omega) (by omega), likei_v (by omega) (by omega), liker_v (by omega) (by omega) (fun x hx => ⟨by have := hlr x hx; omega, by have := hlr x hx; omega⟩), liker_v (by omega) (by omega) (fun x hx => ⟨by have := hfr x hx; omega, by have := hfr x hx; omega⟩)]
  simp [br]
theorem great_l2_p {u u2 : Int} {g : List (List (List Int))} {l : List (List Int)} (hl : l.length ≤ 1000000) : ∀ n k : Nat, l.length < n + k → k ≤ l.length → great_l2 N n u u2 l l.length k g = alls (fun r => decide ((r.length : Int) ≤ 12)) l k (u, u2, g)
  | 0, k, h, _ => by omega
  | n + 1, k, h, hk => by
    unfold great_l2
    by_cases c : k < l.length
    · have ih := great_l2_p (u := u) (u2 := u2) (g := g) hl n (k + 1) (by omega) (by omega)
      rw [nat_succ] at ih
      rw [br_dec (by omega), idx_eq (by omega) (gets c [])]
      by_cases d : 12 < ((l.getD k []).length : Int)
      · rw [br_dec d, alls_no [] c (by rw [decide_eq_false (by omega)])]
      · rw [br_ndec d, chk_eq (by omega), ih, alls_yes [] c (by rw [decide_eq_true (by omega)])]
    · rw [br_ndec (by omega), alls_end (by omega)]
theorem great_v (hN : 110 ≤ N) : great_S N W s L F R = some true ∨ great_S N W s L F R = some false ∧ Sm W L F R := by
  unfold great_S
  by_cases c1 : 10 < (W.length : Int)
  · rw [br_dec c1]; exact .inl rfl
  rw [br_ndec c1]
  by_cases c2 : 10 < (L.length : Int)
  · rw [br_dec c2]; exact .inl rfl
  rw [br_ndec c2]
  by_cases c3 : 10 < (F.length : Int)
  · rw [br_dec c3]; exact .inl rfl
  rw [br_ndec c3]
  by_cases c4 : 12 < (R.length : Int)
  · rw [br_dec c4]; exact .inl rfl
  rw [br_ndec c4]
  obtain ⟨n, rfl⟩ : ∃ n, N = n + 3 := ⟨N - 3, by omega⟩
  have e1 := great_l2_p (N := n + 3) (u := 2) (u2 := 0) (g := [L, F]) (l := L) (by omega) (n + 3) 0 (by omega) (by omega)
  have e2 := great_l2_p (N := n + 3) (u := 2) (u2 := 1) (g := [L, F]) (l := F) (by omega) (n + 3) 0 (by omega) (by omega)
  unfold alls at e1 e2
  simp only [List.drop_zero, Int.natCast_zero] at e1 e2
  have hl : (([L, F] : List (List (List Int))).length : Int) = 2 := rfl
  rw [hl]
  rw [great_l1, br_dec (by omega), rng_eq (by simp)]
  rw [show get [L, F] (0 : Int).toNat = fun f => f L from rfl]
  dsimp only
  rw [e1]
  by_cases d1 : L.all (fun r => decide ((r.length : Int) ≤ 12)) = true
  rotate_left
  · rw [if_neg d1]; exact .inl rfl
  rw [if_pos d1]
  simp only [Option.bind_some]
  rw [chk_eq (by omega), great_l1, br_dec (by omega), rng_eq (by simp)]
  rw [show get [L, F] ((0 : Int) + 1).toNat = fun f => f F from rfl]
  dsimp only
  rw [show ((0 : Int) + 1) = 1 from rfl, e2]
  by_cases d2 : F.all (fun r => decide ((r.length : Int) ≤ 12)) = true
  rotate_left
  · rw [if_neg d2]; exact .inl rfl
  rw [if_pos d2]
  simp only [Option.bind_some]
  rw [chk_eq (by omega), great_l1, br_ndec (by omega)]
  simp only [List.all_eq_true, decide_eq_true_eq] at d1 d2
  exact .inr ⟨rfl, by omega, by omega, by omega, by omega, fun x hx => by have := d1 x hx; omega, fun x hx => by have := d2 x hx; omega⟩
end
end Go.Proofs.Ythncjilcflilcaa

namespace Go.Proofs.Ythncjilcflilcaa
set_option linter.all false
open Go

abbrev MK := List ((Int × Int) × (Int × (Int × Int)))
def lkM (g : MK) (i u : Int) : Option (Int × (Int × Int)) := (g.find? fun (y : (Int × Int) × (Int × (Int × Int))) => Ty.beq (.pair (.int .i64) (.int .i64)) y.1 (i, u)).map (·.2)
theorem lkM_cons (a b : Int) (v : Int × (Int × Int)) (g : MK) (i u : Int) : lkM (((a, b), v) :: g) i u = if a = i ∧ b = u then some v else lkM g i u := by
  have e : Ty.beq (.pair (.int .i64) (.int .i64)) (a, b) (i, u) = decide (a = i ∧ b = u) := by
    show (decide (a = i) && decide (b = u)) = _
    by_cases h1 : a = i <;> by_cases h2 : b = u <;> simp [h1, h2]
  unfold lkM
  rw [List.find?_cons]
  by_cases h : a = i ∧ b = u
  · rw [if_pos h, show (Ty.beq (.pair (.int .i64) (.int .i64)) (((a, b), v) : (Int × Int) × (Int × (Int × Int))).1 (i, u)) = true by rw [e, decide_eq_true h]]; rfl
  · rw [if_neg h, show (Ty.beq (.pair (.int .i64) (.int .i64)) (((a, b), v) : (Int × Int) × (Int × (Int × Int))).1 (i, u)) = false by rw [e, decide_eq_false h]]
theorem lkM_some (g : MK) (i u : Int) : (g.find? fun (y : (Int × Int) × (Int × (Int × Int))) => Ty.beq (.pair (.int .i64) (.int .i64)) y.1 (i, u)).isSome = (lkM g i u).isSome := by
  unfold lkM; rw [Option.isSome_map]
def hasM (g : MK) (i u : Nat) : Prop := (lkM g i u).isSome = true
def subM (g g' : MK) : Prop := ∀ i u : Nat, hasM g i u → hasM g' i u
theorem subM.refl (g : MK) : subM g g := fun _ _ h => h
theorem subM.trans {a b c : MK} (h : subM a b) (k : subM b c) : subM a c := fun i u x => k i u (h i u x)
/-- What is remembered is right, and so is what follows from it. -/
structure MOK (can : Nat → Nat → Bool) (t : Nat → Nat → Int) (m n : Nat) (g : MK) : Prop where
  val : ∀ (i u : Nat) v, lkM g i u = some v → v = rsR can t m (n - i) i u
  clo : ∀ i u : Nat, hasM g i u → i + 1 < n → hasM g (i + 1) u ∧ ∀ k ∈ mayL can m i, u.testBit k = false → hasM g (i + 1) (u ||| 2 ^ k)
theorem MOK.nil {can : Nat → Nat → Bool} {t : Nat → Nat → Int} {m n : Nat} : MOK can t m n [] := ⟨fun i u v h => by simp [lkM] at h, fun i u h => by simp [hasM, lkM] at h⟩
theorem MOK.cons {can : Nat → Nat → Bool} {t : Nat → Nat → Int} {m n : Nat} {g : MK} (h : MOK can t m n g) {i u : Nat} (h1 : i + 1 < n → hasM g (i + 1) u ∧ ∀ k ∈ mayL can m i, u.testBit k = false → hasM g (i + 1) (u ||| 2 ^ k)) :
    MOK can t m n ((((i : Int), (u : Int)), rsR can t m (n - i) i u) :: g) ∧ subM g ((((i : Int), (u : Int)), rsR can t m (n - i) i u) :: g) ∧ hasM ((((i : Int), (u : Int)), rsR can t m (n - i) i u) :: g) i u := by
  have hsub : subM g ((((i : Int), (u : Int)), rsR can t m (n - i) i u) :: g) := fun i' u' hh => by
    unfold hasM at *
    rw [lkM_cons]
    split
    · rfl
    · exact hh
  refine ⟨⟨fun i' u' v hv => ?_, fun i' u' hh hi => ?_⟩, hsub, ?_⟩
  · rw [lkM_cons] at hv
    split at hv
    · rename_i e
      obtain rfl : i = i' := by omega
      obtain rfl : u = u' := by omega
      simp only [Option.some.injEq] at hv
      exact hv.symm
    · exact h.val i' u' v hv
  · unfold hasM at hh
    rw [lkM_cons] at hh
    split at hh
    · rename_i e
      obtain rfl : i = i' := by omega
      obtain rfl : u = u' := by omega
      exact ⟨hsub _ _ (h1 hi).1, fun k hk hb => hsub _ _ ((h1 hi).2 k hk hb)⟩
    · obtain ⟨x, y⟩ := h.clo i' u' hh hi
      exact ⟨hsub _ _ x, fun k hk hb => hsub _ _ (y k hk hb)⟩
  · unfold hasM
    rw [lkM_cons, if_pos ⟨rfl, rfl⟩]; rfl
theorem MOK.get {can : Nat → Nat → Bool} {t : Nat → Nat → Int} {m n : Nat} {g : MK} (h : MOK can t m n g) {i u : Nat} (hh : hasM g i u) : lkM g i u = some (rsR can t m (n - i) i u) := by
  unfold hasM at hh
  cases e : lkM g i u with
  | none => rw [e] at hh; cases hh
  | some v => rw [h.val i u v e]
/-! ### Bounds -/
theorem flatMap_len {α β : Type} {f : α → List β} {B : Nat} : ∀ {l : List α}, (∀ x ∈ l, (f x).length ≤ B) → (l.flatMap f).length ≤ l.length * B
  | [], _ => by simp
  | x :: l, h => by
    have h1 := h x (by simp)
    have h2 := flatMap_len (l := l) (fun y hy => h y (by simp [hy]))
    rw [List.flatMap_cons, List.length_append, List.length_cons, Nat.add_mul]; omega
theorem mayL_len (can : Nat → Nat → Bool) (m i : Nat) : (mayL can m i).length ≤ m := by
  have := List.length_filter_le (can i) (List.range m)
  simpa [mayL] using this
theorem joinsL_len {can : Nat → Nat → Bool} {m : Nat} (hm : m ≤ 6) : ∀ d i u : Nat, (joinsL can m d i u).length ≤ 7 ^ d
  | 0, _, _ => by simp [joinsL]
  | d + 1, i, u => by
    have h1 := joinsL_len (can := can) hm d (i + 1) u
    have h2 : ((mayL can m i).flatMap fun k => if u.testBit k then [] else (joinsL can m d (i + 1) (u ||| 2 ^ k)).map ((k : Int) :: ·)).length ≤ (mayL can m i).length * 7 ^ d := flatMap_len fun k _ => by
      split
      · simp
      · rw [List.length_map]; exact joinsL_len hm d (i + 1) _
    have h3 := mayL_len can m i
    have h4 : (mayL can m i).length * 7 ^ d ≤ 6 * 7 ^ d := Nat.mul_le_mul_right _ (by omega)
    rw [joinsL, List.length_append, List.length_map, Nat.pow_succ]
    omega
theorem rs_bound {can : Nat → Nat → Bool} {t : Nat → Nat → Int} {m : Nat} (hm : m ≤ 6) {T : Int} (ht : ∀ i k, 0 ≤ t i k ∧ t i k ≤ T) (hT : 0 ≤ T) (d i u : Nat) :
    (0 ≤ (rsR can t m d i u).2.1 ∧ (rsR can t m d i u).2.1 ≤ T * d) ∧ 0 ≤ (rsR can t m d i u).2.2 ∧ (rsR can t m d i u).2.2 ≤ ((7 ^ d : Nat) : Int) := by
  obtain ⟨q1, q2, q3⟩ := bl_best (can := can) (t := t) (m := m) d i u
  have hb := rs_bst (can := can) (t := t) (m := m) d i u
  have h1 := valJ_bound ht hT (blR can t m d i u) i
  rw [q2, q3] at h1
  have h2 := List.countP_le_length (p := fun l => decide (valJ t i l = (rsR can t m d i u).2.1)) (l := joinsL can m d i u)
  have h3 := joinsL_len (can := can) hm d i u
  have h4 := hb.ways
  exact ⟨h1, by omega, by omega⟩
theorem bit_of {u k : Nat} : ((((Int.fdiv (u : Int) (2 ^ ((k : Nat) : Int).toNat)).toNat &&& 1 : Nat) : Int) = 1) ↔ u.testBit k = true := by
  have e : (Int.fdiv (u : Int) (2 ^ ((k : Nat) : Int).toNat)).toNat = u / 2 ^ k := by
    rw [Int.toNat_natCast, Int.fdiv_eq_ediv_of_nonneg _ (by exact Int.le_of_lt (Int.pow_pos (by omega)))]
    rw [show ((2 : Int) ^ k) = ((2 ^ k : Nat) : Int) by simp, ← Int.natCast_ediv, Int.toNat_natCast]
  rw [e, Nat.and_one_is_mod, Nat.testBit_eq_decide_div_mod_eq, decide_eq_true_eq]
  omega
theorem fdiv_nn {u k : Nat} : 0 ≤ Int.fdiv (u : Int) (2 ^ ((k : Nat) : Int).toNat) := Int.fdiv_nonneg (by omega) (Int.le_of_lt (Int.pow_pos (by omega)))
theorem pow_small {k : Nat} (hk : k < 6) : ∃ q : Nat, 2 ^ k = q ∧ ((1 : Int) * 2 ^ ((k : Nat) : Int).toNat) = (q : Int) ∧ q < 64 := by
  refine ⟨_, rfl, by simp, ?_⟩
  have : 2 ^ k < 2 ^ 6 := Nat.pow_lt_pow_right (by omega) hk
  simpa using this
theorem or_small {u k : Nat} (hu : u < 64) (hk : k < 6) : u ||| 2 ^ k < 64 := Nat.or_lt_two_pow (n := 6) hu (by obtain ⟨q, h1, _, h2⟩ := pow_small hk; omega)
section
variable {W : List Int} {s : Int} {L F : List (List Int)} {R : List Int} {A B : Nat → Nat → Int} {N : Nat}
theorem tastep_v {i k : Nat} (hi : i < 6) (hk : k < 6) : tastep_S N i k (dkT W s L F R A B) = some (A i k) := by
  unfold tastep_S
  rw [rng_eq (by omega), rng_eq (by omega)]
  simp only [Int.toNat_natCast]
  rw [get_T hi hk]
theorem restp_l1_p {t : Nat → Nat → Int} (hF : F.length ≤ 6) (hL : L.length ≤ 6) (ht : ∀ i k, 0 ≤ t i k ∧ t i k ≤ 30000) (htv : ∀ i k : Nat, i < L.length → k < F.length → tastep_S N i k (dkT W s L F R A B) = some (t i k)) {self : Int → Int → Dk → Dk → Dk → Dk → MK → Option (Int × Int × Int × Dk × Dk × MK)} {i d u : Nat} (hi : i + 1 + d = L.length) (hu : u < 64)
    (hself : ∀ (u : Nat) g, u < 64 → MOK (canT A B s) t F.length L.length g → ∃ g', self ((i : Int) + 1) u (dkT W s L F R A B) (dkT W s L F R A B) (dkT W s L F R A B) (dkT W s L F R A B) g = some ((rsR (canT A B s) t F.length d (i + 1) u).1, (rsR (canT A B s) t F.length d (i + 1) u).2.1, (rsR (canT A B s) t F.length d (i + 1) u).2.2, dkT W s L F R A B, dkT W s L F R A B, g') ∧ MOK (canT A B s) t F.length L.length g' ∧ subM g g' ∧ (i + 1 < L.length → hasM g' (i + 1) u))
    {x4 : Int} {P : Nat} (hP : 7 ^ d = P) : ∀ (ks : List Nat) (g : MK) (b : Int × Int × Int) (Wb : Nat), (∀ k ∈ ks, k < F.length) → MOK (canT A B s) t F.length L.length g → (0 ≤ b.2.1 ∧ b.2.1 ≤ 30000 * (d + 1)) → 0 ≤ b.2.2 → b.2.2 ≤ Wb → Wb + ks.length * P ≤ 10000000 →
      ∃ g', restp_l1 N self (ks.map fun (j : Nat) => ((j : Int), ())) (dkT W s L F R A B) (dkT W s L F R A B) (dkT W s L F R A B) x4 (dkT W s L F R A B) (dkT W s L F R A B) g i u 0 0 0 b.1 b.2.1 b.2.2 =
        some (dkT W s L F R A B, dkT W s L F R A B, g', (i : Int), (u : Int), 0, 0, 0, (ks.foldl (rsS t (rsR (canT A B s) t F.length d (i + 1)) i u) b).1, (ks.foldl (rsS t (rsR (canT A B s) t F.length d (i + 1)) i u) b).2.1, (ks.foldl (rsS t (rsR (canT A B s) t F.length d (i + 1)) i u) b).2.2) ∧
        MOK (canT A B s) t F.length L.length g' ∧ subM g g' ∧ ∀ k ∈ ks, u.testBit k = false → i + 1 < L.length → hasM g' (i + 1) (u ||| 2 ^ k)
  | [], g, b, Wb, _, hg, _, _, _, _ => ⟨g, rfl, hg, subM.refl g, fun k hk => by cases hk⟩
  | k :: ks, g, b, Wb, hk, hg, hb1, hb2, hb3, hWb => by
    have hk0 := hk k (by simp)
    have hks : ∀ x ∈ ks, x < F.length := fun x hx => hk x (by simp [hx])
    rw [List.length_cons, Nat.add_mul, Nat.one_mul] at hWb
    rw [List.map_cons, List.foldl_cons, restp_l1, restp_l1_b]
    dsimp only
    rw [grd_eq (by rw [decide_eq_true_eq]; omega), grd_eq (by rw [decide_eq_true_eq]; exact ⟨fdiv_nn, by omega⟩)]
    by_cases hbit : u.testBit k = true
    · rw [br_dec (bit_of.2 hbit)]
      obtain ⟨g', e1, e2, e3, e4⟩ := restp_l1_p hF hL ht htv hi hu hself (x4 := x4) hP ks g b Wb hks hg hb1 hb2 hb3 (by omega)
      have es : rsS t (rsR (canT A B s) t F.length d (i + 1)) i u b k = b := by unfold rsS; rw [if_pos hbit]
      rw [es]
      refine ⟨g', e1, e2, e3, fun x hx hxb hi => ?_⟩
      rcases List.mem_cons.1 hx with rfl | hx
      · rw [hbit] at hxb; cases hxb
      · exact e4 x hx hxb hi
    · rw [br_ndec (fun h => hbit (bit_of.1 h))]
      obtain ⟨q, hq, p1, p2⟩ := pow_small (k := k) (by omega)
      rw [chk_eq (by omega), grd_eq (by rw [decide_eq_true_eq]; omega), p1, chk_eq (by omega), grd_eq (by rw [decide_eq_true_eq]; omega)]
      simp only [Int.toNat_natCast]
      subst hq
      have hu' := or_small hu (show k < 6 by omega)
      obtain ⟨g1, e1, e2, e3, e4⟩ := hself (u ||| 2 ^ k) g hu' hg
      rw [e1]
      simp only [Option.bind_some]
      rw [htv i k (by omega) hk0]
      simp only [Option.bind_some]
      obtain ⟨⟨r1, r2⟩, r3, r4⟩ := rs_bound (can := canT A B s) (t := t) hF ht (by omega) d (i + 1) (u ||| 2 ^ k)
      have ht0 := ht i k
      have hd : (d : Int) ≤ 5 := by omega
      rw [hP] at r4
      have hbit' : u.testBit k = false := by simpa using hbit
      have fin : ∀ b', rsS t (rsR (canT A B s) t F.length d (i + 1)) i u b k = b' → (0 ≤ b'.2.1 ∧ b'.2.1 ≤ 30000 * (d + 1)) → 0 ≤ b'.2.2 → b'.2.2 ≤ ((Wb + P : Nat) : Int) → ∃ g', restp_l1 N self (ks.map fun (j : Nat) => ((j : Int), ())) (dkT W s L F R A B) (dkT W s L F R A B) (dkT W s L F R A B) x4 (dkT W s L F R A B) (dkT W s L F R A B) g1 i u 0 0 0 b'.1 b'.2.1 b'.2.2 =
        some (dkT W s L F R A B, dkT W s L F R A B, g', (i : Int), (u : Int), 0, 0, 0, (ks.foldl (rsS t (rsR (canT A B s) t F.length d (i + 1)) i u) (rsS t (rsR (canT A B s) t F.length d (i + 1)) i u b k)).1, (ks.foldl (rsS t (rsR (canT A B s) t F.length d (i + 1)) i u) (rsS t (rsR (canT A B s) t F.length d (i + 1)) i u b k)).2.1, (ks.foldl (rsS t (rsR (canT A B s) t F.length d (i + 1)) i u) (rsS t (rsR (canT A B s) t F.length d (i + 1)) i u b k)).2.2) ∧
        MOK (canT A B s) t F.length L.length g' ∧ subM g g' ∧ ∀ x ∈ k :: ks, u.testBit x = false → i + 1 < L.length → hasM g' (i + 1) (u ||| 2 ^ x) := fun b' hb' q1 q2 q3 => by
        obtain ⟨g', f1, f2, f3, f4⟩ := restp_l1_p hF hL ht htv hi hu hself (x4 := x4) hP ks g1 b' (Wb + P) hks e2 q1 q2 q3 (by omega)
        rw [hb']
        refine ⟨g', f1, f2, e3.trans f3, fun x hx hxb hi => ?_⟩
        rcases List.mem_cons.1 hx with rfl | hx
        · exact f3 _ _ (e4 hi)
        · exact f4 x hx hxb hi
      have es : rsS t (rsR (canT A B s) t F.length d (i + 1)) i u b k = if b.2.1 < (rsR (canT A B s) t F.length d (i + 1) (u ||| 2 ^ k)).2.1 + t i k then ((k : Int), (rsR (canT A B s) t F.length d (i + 1) (u ||| 2 ^ k)).2.1 + t i k, (rsR (canT A B s) t F.length d (i + 1) (u ||| 2 ^ k)).2.2)
          else if (rsR (canT A B s) t F.length d (i + 1) (u ||| 2 ^ k)).2.1 + t i k = b.2.1 then (b.1, b.2.1, b.2.2 + (rsR (canT A B s) t F.length d (i + 1) (u ||| 2 ^ k)).2.2) else b := by
        unfold rsS; rw [if_neg hbit]
      have hmul : 30000 * ((d : Int) + 1) = 30000 * d + 30000 := by omega
      rw [chk_eq (by omega)]
      by_cases c1 : b.2.1 < (rsR (canT A B s) t F.length d (i + 1) (u ||| 2 ^ k)).2.1 + t i k
      · rw [if_pos c1] at es
        rw [br_dec c1]
        exact fin _ es ⟨by dsimp only; omega, by dsimp only; omega⟩ (by dsimp only; omega) (by dsimp only; omega)
      · rw [if_neg c1] at es
        rw [br_ndec c1]
        by_cases c2 : (rsR (canT A B s) t F.length d (i + 1) (u ||| 2 ^ k)).2.1 + t i k = b.2.1
        · rw [if_pos c2] at es
          rw [br_dec c2, chk_eq (by omega)]
          exact fin _ es hb1 (by dsimp only; omega) (by dsimp only; omega)
        · rw [if_neg c2] at es
          rw [br_ndec c2]
          exact fin _ es hb1 hb2 (by omega)
theorem restp_R_p {t : Nat → Nat → Int} (hF : F.length ≤ 6) (hL : L.length ≤ 6) (ht : ∀ i k, 0 ≤ t i k ∧ t i k ≤ 30000) (htv : ∀ i k : Nat, i < L.length → k < F.length → tastep_S N i k (dkT W s L F R A B) = some (t i k)) :
    ∀ (fu d i u : Nat) (g : MK), d < fu → i + d = L.length → u < 64 → MOK (canT A B s) t F.length L.length g →
      ∃ g', restp_R N fu i u (dkT W s L F R A B) (dkT W s L F R A B) (dkT W s L F R A B) (dkT W s L F R A B) g = some ((rsR (canT A B s) t F.length d i u).1, (rsR (canT A B s) t F.length d i u).2.1, (rsR (canT A B s) t F.length d i u).2.2, dkT W s L F R A B, dkT W s L F R A B, g') ∧ MOK (canT A B s) t F.length L.length g' ∧ subM g g' ∧ (i < L.length → hasM g' i u)
  | 0, d, i, u, g, h, _, _, _ => by omega
  | fu + 1, d, i, u, g, h, hid, hu, hg => by
    show ∃ g', restp_S N (restp_R N fu) i u (dkT W s L F R A B) (dkT W s L F R A B) (dkT W s L F R A B) (dkT W s L F R A B) g = _ ∧ _
    unfold restp_S
    have hdl : (dkT W s L F R A B).2.2.1.length = L.length := rfl
    rw [hdl]
    cases d with
    | zero =>
      rw [br_dec (by omega)]
      exact ⟨g, rfl, hg, subM.refl g, fun h => by omega⟩
    | succ d =>
      rw [br_ndec (by omega), lkM_some]
      by_cases c : hasM g i u
      · have e := hg.get c
        rw [show L.length - i = d + 1 by omega] at e
        unfold hasM at c
        rw [c, br_true]
        unfold lkM at e
        rw [e]
        exact ⟨g, rfl, hg, subM.refl g, fun _ => c⟩
      · rw [Bool.eq_false_iff.2 c, br_false, chk_eq (by omega)]
        have hself : ∀ (u : Nat) g, u < 64 → MOK (canT A B s) t F.length L.length g → ∃ g', restp_R N fu ((i : Int) + 1) u (dkT W s L F R A B) (dkT W s L F R A B) (dkT W s L F R A B) (dkT W s L F R A B) g = some ((rsR (canT A B s) t F.length d (i + 1) u).1, (rsR (canT A B s) t F.length d (i + 1) u).2.1, (rsR (canT A B s) t F.length d (i + 1) u).2.2, dkT W s L F R A B, dkT W s L F R A B, g') ∧ MOK (canT A B s) t F.length L.length g' ∧ subM g g' ∧ (i + 1 < L.length → hasM g' (i + 1) u) := fun u g hu hg => by
          have := restp_R_p hF hL ht htv fu d (i + 1) u g (by omega) (by omega) hu hg
          rwa [nat_succ] at this
        obtain ⟨g1, e1, e2, e3, e4⟩ := hself u g hu hg
        rw [e1]
        simp only [Option.bind_some]
        have em : may_S N (dkT W s L F R A B) (i : Int) = some (dkT W s L F R A B, dkT W s L F R A B, (i : Int)) := rfl
        rw [em]
        simp only [Option.bind_some]
        rw [mayR_T hF (by omega)]
        simp only [Option.bind_some]
        obtain ⟨⟨r1, r2⟩, r3, r4⟩ := rs_bound (can := canT A B s) (t := t) hF ht (by omega) d (i + 1) u
        have h7 : (7 : Nat) ^ d ≤ 7 ^ 5 := Nat.pow_le_pow_right (by omega) (by omega)
        have h7' : (mayL (canT A B s) F.length i).length * 7 ^ d ≤ 6 * 7 ^ 5 := Nat.mul_le_mul (by have := mayL_len (canT A B s) F.length i; omega) h7
        obtain ⟨g2, f1, f2, f3, f4⟩ := restp_l1_p hF hL ht htv (i := i) (d := d) (u := u) (by omega) hu hself (x4 := (i : Int)) rfl (mayL (canT A B s) F.length i) g1 (-1, (rsR (canT A B s) t F.length d (i + 1) u).2.1, (rsR (canT A B s) t F.length d (i + 1) u).2.2) (7 ^ d)
          (fun k hk => (mem_mayL.1 hk).1) e2 ⟨r1, by dsimp only; omega⟩ r3 r4 (by omega)
        unfold mayE
        rw [f1]
        simp only [Option.bind_some]
        have er : rsR (canT A B s) t F.length (d + 1) i u = (mayL (canT A B s) F.length i).foldl (rsS t (rsR (canT A B s) t F.length d (i + 1)) i u) (-1, (rsR (canT A B s) t F.length d (i + 1) u).2.1, (rsR (canT A B s) t F.length d (i + 1) u).2.2) := rfl
        rw [← er]
        obtain ⟨k1, k2, k3⟩ := f2.cons (i := i) (u := u) (fun hi => ⟨f3 _ _ (e4 hi), fun k hk hb => f4 k hk hb hi⟩)
        rw [show L.length - i = d + 1 by omega] at k1 k2 k3
        exact ⟨_, rfl, k1, e3.trans (f3.trans k2), fun _ => k3⟩
theorem restsp_v {t : Nat → Nat → Int} (hN : 110 ≤ N) (hF : F.length ≤ 6) (hL : L.length ≤ 6) (ht : ∀ i k, 0 ≤ t i k ∧ t i k ≤ 30000) (htv : ∀ i k : Nat, i < L.length → k < F.length → tastep_S N i k (dkT W s L F R A B) = some (t i k)) {u : Nat} (hu : u < 64) :
    ∃ g, restsp_S N (dkT W s L F R A B) (dkT W s L F R A B) u = some g ∧ (0 < L.length → MOK (canT A B s) t F.length L.length g ∧ hasM g 0 u) ∧ lkM g 0 u = some (rsR (canT A B s) t F.length L.length 0 u) := by
  obtain ⟨g, e1, e2, e3, e4⟩ := restp_R_p hF hL ht htv N L.length 0 u [] (by omega) (by omega) hu MOK.nil
  unfold restsp_S restsp_j1
  rw [show ((0 : Nat) : Int) = 0 from rfl] at e1
  rw [e1]
  simp only [Option.bind_some]
  refine ⟨_, rfl, fun h0 => ?_, by rw [lkM_cons, if_pos ⟨rfl, rfl⟩]⟩
  have hg : hasM g 0 u := e4 h0
  obtain ⟨k1, k2, k3⟩ := e2.cons (i := 0) (u := u) (fun hi => e2.clo 0 u hg hi)
  rw [Nat.sub_zero] at k1 k3
  exact ⟨k1, k3⟩
theorem first_v (hN : 110 ≤ N) (hF : F.length ≤ 6) (hL : L.length ≤ 6) (hA : ∀ i k, 0 ≤ A i k ∧ A i k ≤ 50) {u : Nat} (hu : u < 64) : first_S N (dkT W s L F R A B) u = some (rsR (canT A B s) A F.length L.length 0 u) := by
  obtain ⟨g, e1, _, e3⟩ := restsp_v (N := N) (W := W) (s := s) (R := R) (B := B) (A := A) (t := A) hN hF hL (fun i k => by have := hA i k; omega) (fun i k hi hk => tastep_v (by omega) (by omega)) hu
  unfold first_S
  rw [show plain_S N (dkT W s L F R A B) = some (dkT W s L F R A B) from rfl]
  simp only [Option.bind_some]
  rw [e1]
  simp only [Option.bind_some]
  unfold lkM at e3
  rw [e3]; rfl
end
end Go.Proofs.Ythncjilcflilcaa

namespace Go.Proofs.Ythncjilcflilcaa
set_option linter.all false
open Go

/-- All lists of numbers from -1 up to below m. -/
def rowX (m : Nat) (r : List Int) : List (List Int) := (List.range (m + 1)).map fun (k : Nat) => r ++ [(k : Int) - 1]
def listsR (m : Nat) : Nat → List (List Int)
  | 0 => [[]]
  | n + 1 => (listsR m n).flatMap (rowX m)
theorem listsR_len (m : Nat) : ∀ n : Nat, (listsR m n).length = (m + 1) ^ n
  | 0 => rfl
  | n + 1 => by
    have h : ∀ l : List (List Int), (l.flatMap (rowX m)).length = l.length * (m + 1) := by
      intro l
      induction l with
      | nil => simp
      | cons a l ih => rw [List.flatMap_cons, List.length_append, ih, List.length_cons, Nat.add_mul, rowX]; simp; omega
    rw [listsR, h, listsR_len m n, Nat.pow_succ]
theorem mem_listsR {m : Nat} : ∀ {n : Nat} {l : List Int}, l ∈ listsR m n ↔ l.length = n ∧ ∀ x ∈ l, -1 ≤ x ∧ x ≤ (m : Int) - 1
  | 0, l => by
    simp only [listsR, List.mem_singleton]
    constructor
    · rintro rfl; exact ⟨rfl, fun x hx => by cases hx⟩
    · rintro ⟨h, _⟩; exact List.eq_nil_of_length_eq_zero h
  | n + 1, l => by
    simp only [listsR, rowX, List.mem_flatMap, List.mem_map, List.mem_range]
    constructor
    · rintro ⟨r, hr, k, hk, rfl⟩
      obtain ⟨h1, h2⟩ := mem_listsR.1 hr
      refine ⟨by simp [h1], fun x hx => ?_⟩
      rcases List.mem_append.1 hx with hx | hx
      · exact h2 x hx
      · simp only [List.mem_singleton] at hx; omega
    · rintro ⟨h1, h2⟩
      have hne : l ≠ [] := fun e => by subst e; simp at h1
      have hlast := h2 _ (List.getLast_mem hne)
      refine ⟨l.dropLast, mem_listsR.2 ⟨by simp [h1], fun x hx => h2 x ((List.dropLast_sublist l).subset hx)⟩, (l.getLast hne + 1).toNat, by omega, ?_⟩
      rw [show (((l.getLast hne + 1).toNat : Nat) : Int) - 1 = l.getLast hne by omega]
      exact List.dropLast_concat_getLast hne
theorem nodup_listsR (m : Nat) : ∀ n : Nat, (listsR m n).Nodup
  | 0 => by simp [listsR]
  | n + 1 => by
    unfold listsR
    have key : ∀ l : List (List Int), l.Nodup → (l.flatMap (rowX m)).Nodup := by
      intro l hl
      induction l with
      | nil => simp
      | cons a l ih =>
        rw [List.nodup_cons] at hl
        rw [List.flatMap_cons, List.nodup_append]
        refine ⟨?_, ih hl.2, ?_⟩
        · unfold rowX List.Nodup
          rw [List.pairwise_map]
          refine List.Pairwise.imp ?_ List.nodup_range
          intro x y hxy e
          have := List.append_cancel_left e
          simp only [List.cons.injEq, and_true] at this
          omega
        · intro x hx y hy e
          subst e
          simp only [rowX, List.mem_map, List.mem_flatMap] at hx hy
          obtain ⟨k, _, rfl⟩ := hx
          obtain ⟨b, hb, j, _, e⟩ := hy
          have := (List.append_inj' e rfl).1
          subst this
          exact hl.1 hb
    exact key _ (nodup_listsR m n)
section
variable {N : Nat}
theorem lists_l2_p {self : Int → Int → Option (List (List Int))} {m i : Nat} {rest : List (List Int)} (hm : m ≤ 100) (hi : i < rest.length) (hr : (rest.getD i []).length ≤ 100) : ∀ (n j : Nat) (out : List (List Int)), m + 1 < n + j → j ≤ m + 1 → out.length + (m + 1 - j) ≤ 100000 →
    lists_l2 N self n m i ((j : Int) - 1) out rest = some ((m : Int), (i : Int), out ++ (List.range' j (m + 1 - j)).map (fun (k : Nat) => rest.getD i [] ++ [(k : Int) - 1]), rest)
  | 0, j, out, h, _, _ => by omega
  | n + 1, j, out, h, hj, ho => by
    unfold lists_l2
    by_cases c : j < m + 1
    · have ih := lists_l2_p (self := self) hm hi hr n (j + 1) (out ++ [rest.getD i [] ++ [(j : Int) - 1]]) (by omega) (by omega) (by simp; omega)
      rw [show ((j + 1 : Nat) : Int) - 1 = (j : Int) - 1 + 1 by omega] at ih
      rw [br_dec (by omega), rng_eq (by omega)]
      simp only [Int.toNat_natCast]
      rw [get_get [] hi, List.nil_append, lim_eq (by simp only [List.length_nil]; omega), lim_eq (by simp only [List.length_singleton]; omega), lim_eq (by simp only [List.length_singleton]; omega), chk_eq (by omega), ih]
      rw [show m + 1 - j = (m + 1 - (j + 1)) + 1 by omega, List.range'_succ, List.map_cons, List.append_assoc]; rfl
    · rw [br_ndec (by omega), show m + 1 - j = 0 by omega]
      simp
theorem lists_l1_p {self : Int → Int → Option (List (List Int))} {m : Nat} {rest : List (List Int)} (hm : m ≤ 100) (hN : m + 1 < N) (hr : ∀ r ∈ rest, r.length ≤ 100) (hlen : rest.length * (m + 1) ≤ 100000) : ∀ (n i : Nat) (out : List (List Int)), rest.length < n + i → i ≤ rest.length → out.length ≤ i * (m + 1) →
    lists_l1 N self n m i out rest = some (out ++ (rest.drop i).flatMap (rowX m))
  | 0, i, out, h, _, _ => by omega
  | n + 1, i, out, h, hi, ho => by
    unfold lists_l1
    have hlt : rest.length ≤ rest.length * (m + 1) := Nat.le_mul_of_pos_right _ (by omega)
    by_cases c : i < rest.length
    · have e1 : (i + 1) * (m + 1) = i * (m + 1) + (m + 1) := by rw [Nat.add_mul]; omega
      have e2 : (i + 1) * (m + 1) ≤ rest.length * (m + 1) := Nat.mul_le_mul_right _ (by omega)
      have e := lists_l2_p (N := N) (self := self) hm c (hr _ (getD_mem c)) N 0 out (by omega) (by omega) (by omega)
      rw [show ((0 : Nat) : Int) - 1 = -1 from rfl, Nat.sub_zero, ← List.range_eq_range'] at e
      have ih := lists_l1_p (self := self) hm hN hr hlen n (i + 1) (out ++ rowX m (rest.getD i [])) (by omega) (by omega) (by unfold rowX; simp; omega)
      rw [nat_succ] at ih
      rw [br_dec (by omega), e]
      simp only [Option.bind_some]
      rw [chk_eq (by omega)]
      refine ih.trans ?_
      rw [drop_cons c [], List.flatMap_cons, List.append_assoc]
    · rw [br_ndec (by omega), List.drop_of_length_le (by omega)]
      simp
theorem lists_R_p {m : Nat} (hm : m ≤ 100) (hN : m + 1 < N) {T : Nat} (hT : (m + 1) ^ T ≤ 100000) (hTN : (m + 1) ^ T < N) (hT1 : T ≤ 100) : ∀ (fu n : Nat), n < fu → n ≤ T → lists_R N fu n m = some (listsR m n)
  | 0, n, h, _ => by omega
  | fu + 1, n, h, hn => by
    show lists_S N (lists_R N fu) n m = _
    unfold lists_S
    cases n with
    | zero => rw [br_dec (by omega)]; rfl
    | succ n =>
      have ih := lists_R_p hm hN hT hTN hT1 fu n (by omega) (by omega)
      have hp : (m + 1) ^ (n + 1) ≤ (m + 1) ^ T := Nat.pow_le_pow_right (by omega) hn
      have hp2 : (m + 1) ^ n ≤ (m + 1) ^ (n + 1) := Nat.pow_le_pow_right (by omega) (by omega)
      have e := lists_l1_p (N := N) (self := lists_R N fu) (rest := listsR m n) hm hN (fun r hr => by have := (mem_listsR.1 hr).1; omega) (by rw [listsR_len]; exact Nat.le_trans hp hT) N 0 [] (by rw [listsR_len]; omega) (by omega) (by simp)
      rw [show ((0 : Nat) : Int) = 0 from rfl, List.drop_zero, List.nil_append] at e
      rw [br_ndec (by omega), chk_eq (by omega), show ((n + 1 : Nat) : Int) - 1 = (n : Int) by omega, ih]
      simp only [Option.bind_some]
      rw [e]; rfl
end
/-! ### Joins without an error -/
theorem getD_01 {l : List Int} {i : Nat} (h : i < l.length) : l.getD i 0 = fnJ l i := by simp [fnJ, List.getD, h]
theorem errJ_mt {n m : Nat} {can : Nat → Nat → Bool} {l : List Int} : errJ 0 n m can l = 0 ↔ l ∈ joinsL can m n 0 0 := by
  rw [mem_joinsL, okJ_mt]
  constructor
  · intro h
    obtain ⟨_, h1, h2, h3, h4⟩ := errJ_fine h
    rw [alI_iff] at h3 h4
    refine ⟨h1, ⟨fun i hi => ?_, fun i j hi hj hij he => ?_⟩, fun k hk => by simp at hk⟩
    · have hx := List.all_eq_true.1 h2 _ (getD_mem (d := 0) hi)
      unfold inm at hx
      rw [decide_eq_true_eq, getD_01 hi] at hx
      have hc := h4 i hi
      unfold cnI at hc
      rw [Bool.or_eq_true, decide_eq_true_eq, getD_01 hi] at hc
      rcases hc with hc | hc
      · exact .inl hc
      · by_cases e : fnJ l i = -1
        · exact .inl e
        · exact .inr ⟨(fnJ l i).toNat, by omega, by omega, hc⟩
    · have key : ∀ i j, i < j → j < l.length → fnJ l i = fnJ l j → fnJ l j = -1 := fun i j hij hj he => by
        have hd := h3 j hj
        unfold dupI at hd
        rw [Bool.or_eq_true, decide_eq_true_eq, getD_01 hj, Bool.not_eq_true', ← Bool.not_eq_true, hasB_iff] at hd
        rcases hd with hd | hd
        · exact hd
        · refine absurd ?_ hd
          rw [← he, ← getD_01 (show i < l.length by omega)]
          exact List.mem_iff_getElem.2 ⟨i, by simp; omega, by simp [List.getD, show i < l.length by omega]⟩
      rcases Nat.lt_or_gt_of_ne hij with h | h
      · rw [he]; exact key i j h hj he
      · exact key j i h hi he.symm
  · rintro ⟨hl, h1, _⟩
    have hb : l.all (inm m) = true := by
      rw [List.all_eq_true]
      intro x hx
      obtain ⟨i, hi, rfl⟩ := List.getElem_of_mem hx
      have e : l[i] = fnJ l i := by simp [fnJ, List.getD, hi]
      unfold inm
      rw [decide_eq_true_eq, e]
      rcases h1.ok i hi with h | ⟨k, h, hk, _⟩ <;> omega
    have hd : alI (dupI l) l.length = true := by
      rw [alI_iff]
      intro j hj
      unfold dupI
      rw [Bool.or_eq_true, decide_eq_true_eq, getD_01 hj, Bool.not_eq_true', ← Bool.not_eq_true, hasB_iff]
      by_cases e : fnJ l j = -1
      · exact .inl e
      · refine .inr fun hm => ?_
        obtain ⟨i, hi, he⟩ := List.getElem_of_mem hm
        simp only [List.length_take] at hi
        have hij : i < j := by omega
        refine e (h1.inj j i hj (by omega) (by omega) ?_)
        rw [← he, ← getD_01 (show i < l.length by omega)]
        simp [List.getD, show i < l.length by omega]
    have hc : alI (cnI can l) l.length = true := by
      rw [alI_iff]
      intro i hi
      unfold cnI
      rw [Bool.or_eq_true, decide_eq_true_eq, getD_01 hi]
      rcases h1.ok i hi with h | ⟨k, h, _, hc⟩
      · exact .inl h
      · right; rw [h, Int.toNat_natCast]; exact hc
    unfold errJ
    rw [if_neg (by simp), if_neg (by omega), hb, hd, hc]
    simp
/-- A greatest value among some. -/
theorem foldl_max {α : Type} {f : α → Int} {V : Int} : ∀ (l : List α) (a : Int), (∀ x ∈ l, f x ≤ V) → a ≤ V → (a = V ∨ ∃ x ∈ l, f x = V) → l.foldl (fun a x => max a (f x)) a = V
  | [], a, _, _, h => by
    rcases h with h | ⟨x, hx, _⟩
    · exact h
    · cases hx
  | x :: l, a, h1, h2, h3 => by
    have hx := h1 x (by simp)
    rw [List.foldl_cons]
    refine foldl_max l (max a (f x)) (fun y hy => h1 y (by simp [hy])) (by omega) ?_
    rcases h3 with h | ⟨y, hy, e⟩
    · left; omega
    · rcases List.mem_cons.1 hy with rfl | hy
      · left; omega
      · exact .inr ⟨y, hy, e⟩
section
variable {W : List Int} {s : Int} {L F : List (List Int)} {R : List Int} {A B : Nat → Nat → Int} {N : Nat}
/-- All joins. -/
def allR (W : List Int) (s : Int) (L F : List (List Int)) : List (List Int) := (listsR F.length L.length).filter fun l => decide (errJ 0 L.length F.length (canF W s L F) l = 0)
theorem mem_allR {l : List Int} : l ∈ allR W s L F ↔ l ∈ joinsL (canF W s L F) F.length L.length 0 0 := by
  unfold allR
  rw [List.mem_filter, decide_eq_true_eq]
  constructor
  · exact fun h => errJ_mt.1 h.2
  · intro h
    have he := errJ_mt.2 h
    refine ⟨mem_listsR.2 ?_, he⟩
    obtain ⟨_, h1, h2, _⟩ := errJ_fine he
    refine ⟨h1, fun x hx => ?_⟩
    have := List.all_eq_true.1 h2 x hx
    unfold inm at this
    rwa [decide_eq_true_eq] at this
theorem nodup_allR : (allR W s L F).Nodup := List.Pairwise.filter _ (nodup_listsR _ _)
theorem filter_succ {α : Type} {p : α → Bool} {l : List α} {k : Nat} (c : k < l.length) (d : α) : (l.take (k + 1)).filter p = (l.take k).filter p ++ (if p (l.getD k d) = true then [l.getD k d] else []) := by
  rw [take_succ' c d, List.filter_append]
  congr 1
  rw [List.filter_cons]
  split <;> rfl
theorem all_l1_p (hN : 110 ≤ N) (h : Fine W s L F R) {l : List (List Int)} (hl : l.length ≤ 100000) (hr : ∀ r ∈ l, r.length ≤ 100) : ∀ (n k : Nat), l.length < n + k → k ≤ l.length →
    all_l1 N n k W s L F R ((l.take k).filter fun l => decide (errJ 0 L.length F.length (canF W s L F) l = 0)) l = some (l.filter fun l => decide (errJ 0 L.length F.length (canF W s L F) l = 0))
  | 0, k, h, _ => by omega
  | n + 1, k, hn, hk => by
    unfold all_l1
    by_cases c : k < l.length
    · have ih := all_l1_p hN h hl hr n (k + 1) (by omega) (by omega)
      rw [nat_succ, filter_succ c []] at ih
      have hj : ∀ out, all_j1 N (all_l1 N n) k W s L F R out l = all_l1 N n ((k : Int) + 1) W s L F R out l := fun out => by
        unfold all_j1
        rw [chk_eq (by omega)]
      have hlen := List.length_filter_le (fun l => decide (errJ 0 L.length F.length (canF W s L F) l = 0)) (l.take k)
      rw [List.length_take] at hlen
      rw [br_dec (by omega), rng_eq (by omega)]
      simp only [Int.toNat_natCast]
      rw [get_get [] c, rjoins_v hN h.sm (hr _ (getD_mem c)), errD_iff.2 h]
      simp only [Option.bind_some, hj]
      by_cases e : errJ 0 L.length F.length (canF W s L F) (l.getD k []) = 0
      · rw [if_pos (decide_eq_true e)] at ih
        rw [br_dec e, rng_eq (by omega), get_get [] c, lim_eq (by simp; omega), ih]
      · rw [if_neg (by rw [decide_eq_true_eq]; exact e), List.append_nil] at ih
        rw [br_ndec e, ih]
    · rw [br_ndec (by omega), List.take_of_length_le (by omega)]
theorem all_v (hN : 110 ≤ N) (h : Fine W s L F R) (hp : (F.length + 1) ^ L.length < N) (hp2 : (F.length + 1) ^ L.length ≤ 100000) : all_S N W s L F R = some (allR W s L F) := by
  have hl6 := h.l6; have hf6 := h.f6
  have e := all_l1_p hN h (l := listsR F.length L.length) (by rw [listsR_len]; exact hp2) (fun r hr => by have := (mem_listsR.1 hr).1; omega) N 0 (by rw [listsR_len]; omega) (by omega)
  rw [show ((0 : Nat) : Int) = 0 from rfl, List.take_zero, List.filter_nil] at e
  unfold all_S
  rw [lists_R_p (T := L.length) (by omega) (by omega) hp2 hp (by omega) N L.length (by omega) (by omega)]
  simp only [Option.bind_some]
  rw [e]; rfl
theorem joins_facts {l : List Int} (h : l ∈ joinsL (canF W s L F) F.length L.length 0 0) : l.length = L.length ∧ l.all (inm F.length) = true := by
  obtain ⟨_, h1, h2, _⟩ := errJ_fine (errJ_mt.2 h)
  exact ⟨h1, h2⟩
theorem rworth_j (hN : 110 ≤ N) (h : Fine W s L F R) {l : List Int} (hl : l ∈ joinsL (canF W s L F) F.length L.length 0 0) : rworth_S N W s L F R l = some (valJ (agF W L F) 0 l) := by
  obtain ⟨h1, h2⟩ := joins_facts hl
  exact rworth_v hN h (by omega) h2
theorem rbest_l1_p (hN : 110 ≤ N) (h : Fine W s L F R) {l : List (List Int)} (hl : l.length ≤ 100000) (hr : ∀ r ∈ l, r ∈ joinsL (canF W s L F) F.length L.length 0 0) : ∀ (n k : Nat) (x : Int), l.length < n + k → k ≤ l.length →
    rbest_l1 N n l x k W s L F R = some (l, (l.drop k).foldl (fun a l => max a (valJ (agF W L F) 0 l)) x, W, s, L, F, R)
  | 0, k, x, h, _ => by omega
  | n + 1, k, x, hn, hk => by
    unfold rbest_l1
    by_cases c : k < l.length
    · have ih := rbest_l1_p hN h hl hr n (k + 1) (max x (valJ (agF W L F) 0 (l.getD k []))) (by omega) (by omega)
      rw [nat_succ] at ih
      rw [br_dec (by omega), idx_eq (by omega) (gets c []), rworth_j hN h (hr _ (getD_mem c))]
      simp only [Option.bind_some]
      rw [chk_eq (by omega), ih, drop_cons c [], List.foldl_cons]
    · rw [br_ndec (by omega), List.drop_of_length_le (by omega)]; rfl
theorem rbest_l2_p (hN : 110 ≤ N) (h : Fine W s L F R) {l : List (List Int)} (hl : l.length ≤ 100000) (hr : ∀ r ∈ l, r ∈ joinsL (canF W s L F) F.length L.length 0 0) {V : Int} : ∀ (n k : Nat), l.length < n + k → k ≤ l.length →
    rbest_l2 N n l V k W s L F R ((l.take k).filter fun l => decide (valJ (agF W L F) 0 l = V)) = some (V, l.filter fun l => decide (valJ (agF W L F) 0 l = V))
  | 0, k, h, _ => by omega
  | n + 1, k, hn, hk => by
    unfold rbest_l2
    by_cases c : k < l.length
    · have ih := rbest_l2_p hN h hl hr (V := V) n (k + 1) (by omega) (by omega)
      rw [nat_succ, filter_succ c []] at ih
      have hj : ∀ out, rbest_j1 N (rbest_l2 N n) l V k W s L F R out = rbest_l2 N n l V ((k : Int) + 1) W s L F R out := fun out => by
        unfold rbest_j1
        rw [chk_eq (by omega)]
      have hlen := List.length_filter_le (fun l => decide (valJ (agF W L F) 0 l = V)) (l.take k)
      rw [List.length_take] at hlen
      rw [br_dec (by omega), idx_eq (by omega) (gets c []), rworth_j hN h (hr _ (getD_mem c))]
      simp only [Option.bind_some, hj]
      by_cases e : valJ (agF W L F) 0 (l.getD k []) = V
      · rw [if_pos (decide_eq_true e)] at ih
        rw [br_dec e, idx_eq (by omega) (gets c []), lim_eq (by simp; omega), ih]
      · rw [if_neg (by rw [decide_eq_true_eq]; exact e), List.append_nil] at ih
        rw [br_ndec e, ih]
    · rw [br_ndec (by omega), List.take_of_length_le (by omega)]
/-- The greatest worth, and in how many ways. -/
def bestV (W : List Int) (s : Int) (L F : List (List Int)) : Int := (rsR (canF W s L F) (agF W L F) F.length L.length 0 0).2.1
def bestN (W : List Int) (s : Int) (L F : List (List Int)) : Int := (rsR (canF W s L F) (agF W L F) F.length L.length 0 0).2.2
/-- All best joins. -/
def bestR (W : List Int) (s : Int) (L F : List (List Int)) : List (List Int) := (allR W s L F).filter fun l => decide (valJ (agF W L F) 0 l = bestV W s L F)
theorem best_le {l : List Int} (h : l ∈ joinsL (canF W s L F) F.length L.length 0 0) : valJ (agF W L F) 0 l ≤ bestV W s L F := (rs_bst (can := canF W s L F) (t := agF W L F) (m := F.length) L.length 0 0).le l h
theorem bl_mem {t : Nat → Nat → Int} : blR (canF W s L F) t F.length L.length 0 0 ∈ joinsL (canF W s L F) F.length L.length 0 0 := by
  obtain ⟨q1, q2, _⟩ := bl_best (can := canF W s L F) (t := t) (m := F.length) L.length 0 0
  exact mem_joinsL.2 ⟨q2, q1⟩
theorem bl_val : valJ (agF W L F) 0 (blR (canF W s L F) (agF W L F) F.length L.length 0 0) = bestV W s L F := (bl_best (can := canF W s L F) (t := agF W L F) (m := F.length) L.length 0 0).2.2
theorem bestV_bound (h : Fine W s L F R) : 0 ≤ bestV W s L F ∧ bestV W s L F ≤ 300 := by
  have := (rs_bound (can := canF W s L F) (t := agF W L F) h.f6 (agF_bound h) (by omega) L.length 0 0).1
  have := h.l6
  unfold bestV; omega
theorem bestR_len : ((bestR W s L F).length : Int) = bestN W s L F := by
  have h := (rs_bst (can := canF W s L F) (t := agF W L F) (m := F.length) L.length 0 0).ways
  unfold bestN
  rw [← h]
  unfold bestR
  rw [← List.countP_eq_length_filter]
  congr 1
  exact countP_same nodup_allR (nodup_joinsL _ _ _) (fun x => mem_allR) (fun x _ => rfl)
theorem mem_bestR {l : List Int} : l ∈ bestR W s L F ↔ l ∈ joinsL (canF W s L F) F.length L.length 0 0 ∧ valJ (agF W L F) 0 l = bestV W s L F := by
  unfold bestR
  rw [List.mem_filter, mem_allR, decide_eq_true_eq]
theorem rbest_v (hN : 110 ≤ N) (h : Fine W s L F R) (hp : (F.length + 1) ^ L.length < N) (hp2 : (F.length + 1) ^ L.length ≤ 100000) : rbest_S N W s L F R = some (bestR W s L F, bestV W s L F) := by
  have hlen : (allR W s L F).length ≤ (F.length + 1) ^ L.length := by
    rw [← listsR_len]; exact List.length_filter_le _ _
  have e1 := rbest_l1_p hN h (l := allR W s L F) (by omega) (fun r hr => mem_allR.1 hr) N 0 0 (by omega) (by omega)
  have e2 := rbest_l2_p hN h (l := allR W s L F) (by omega) (fun r hr => mem_allR.1 hr) (V := bestV W s L F) N 0 (by omega) (by omega)
  rw [show ((0 : Nat) : Int) = 0 from rfl] at e1 e2
  rw [List.drop_zero, foldl_max (V := bestV W s L F) _ _ (fun x hx => best_le (mem_allR.1 hx)) (bestV_bound h).1 (.inr ⟨_, mem_allR.2 bl_mem, bl_val⟩)] at e1
  rw [List.take_zero, List.filter_nil] at e2
  unfold rbest_S
  rw [all_v hN h hp hp2]
  simp only [Option.bind_some]
  rw [e1]
  simp only [Option.bind_some]
  rw [e2]; rfl
end
end Go.Proofs.Ythncjilcflilcaa

namespace Go.Proofs.Ythncjilcflilcaa
set_option linter.all false
open Go

section
variable {W : List Int} {s : Int} {L F : List (List Int)} {R : List Int} {A B : Nat → Nat → Int} {N : Nat}
/-! ### Rewards -/
/-! ### Prices -/
theorem wide_v (t : Int) : wide_S N W s L F R t = some true ∨ (wide_S N W s L F R t = some false ∧ ((L.length : Int) ≤ t ∨ 6 < (L.length : Int)) ∧ ((F.length : Int) ≤ t ∨ 6 < (F.length : Int))) := by
  unfold wide_S
  by_cases c1 : t < (L.length : Int)
  · rw [br_dec c1]
    by_cases c2 : (L.length : Int) ≤ 6
    · rw [br_dec c2]; exact .inl rfl
    · rw [br_ndec c2]
      by_cases c3 : t < (F.length : Int)
      · rw [br_dec c3]
        by_cases c4 : (F.length : Int) ≤ 6
        · rw [decide_eq_true c4]; exact .inl rfl
        · rw [decide_eq_false c4]; exact .inr ⟨rfl, by omega, by omega⟩
      · rw [br_ndec c3]; exact .inr ⟨rfl, by omega, by omega⟩
  · rw [br_ndec c1]
    by_cases c3 : t < (F.length : Int)
    · rw [br_dec c3]
      by_cases c4 : (F.length : Int) ≤ 6
      · rw [decide_eq_true c4]; exact .inl rfl
      · rw [decide_eq_false c4]; exact .inr ⟨rfl, by omega, by omega⟩
    · rw [br_ndec c3]; exact .inr ⟨rfl, by omega, by omega⟩
theorem pow_bound {a b : Nat} (ha : a ≤ 4) (hb : b ≤ 4) : (a + 1) ^ b ≤ 625 := by
  have h1 : (a + 1) ^ b ≤ 5 ^ b := Nat.pow_le_pow_left (by omega) b
  have h2 : 5 ^ b ≤ 5 ^ 4 := Nat.pow_le_pow_right (by omega) hb
  omega
end
end Go.Proofs.Ythncjilcflilcaa

namespace Go.Proofs.Ythncjilcflilcaa
set_option linter.all false
open Go

section
variable {N : Nat}
end
section
variable {W : List Int} {s : Int} {L F : List (List Int)} {R : List Int} {A B : Nat → Nat → Int} {N : Nat}
end
end Go.Proofs.Ythncjilcflilcaa

namespace Go.Proofs.Ythncjilcflilcaa
set_option linter.all false
open Go

section
variable {W : List Int} {s : Int} {L F : List (List Int)} {R : List Int} {A B : Nat → Nat → Int} {N : Nat}
/-! ### The reference -/
end
end Go.Proofs.Ythncjilcflilcaa

namespace Go.Proofs.Ythncjilcflilcaa
set_option linter.all false
open Go

section
variable {W : List Int} {s : Int} {L F : List (List Int)} {R : List Int} {A B : Nat → Nat → Int} {N : Nat}
theorem bestR_pos : 0 < (bestR W s L F).length := List.length_pos_of_mem (mem_bestR.2 ⟨bl_mem, bl_val⟩)
/-! ### What is spare -/
end
end Go.Proofs.Ythncjilcflilcaa

namespace Go.Proofs.Ythncjilcflilcaa
set_option linter.all false
open Go

section
variable {W : List Int} {s : Int} {L F : List (List Int)} {R : List Int} {N : Nat}
/-- The found things with a value more. -/
def setF (F : List (List Int)) (k t : Nat) (v : Int) : List (List Int) := F.set k ((F.getD k []).set t v)
theorem setF_len (k t : Nat) (v : Int) : (setF F k t v).length = F.length := by simp [setF]
theorem setF_mem {k t : Nat} {v : Int} : ∀ r ∈ setF F k t v, r ∈ F ∨ r = (F.getD k []).set t v := fun r hr => List.mem_or_eq_of_mem_set hr
theorem Fine.setF (h : Fine W s L F R) {k t : Nat} {v : Int} (hk : k < F.length) (hv : 0 ≤ v ∧ v ≤ 5) : Fine W s L (Proofs.Ythncjilcflilcaa.setF F k t v) R := by
  have hm := getD_mem (d := []) hk
  have hl := setF_len (F := F) k t v
  have hf := h.f6
  refine ⟨h.w1, h.w5, h.l6, by omega, h.lw, fun x hx => ?_, h.rl, h.w, h.s, h.r, h.lv, fun r hr x hx => ?_⟩
  · rcases setF_mem x hx with hx | rfl
    · exact h.fw x hx
    · rw [List.length_set]; exact h.fw _ hm
  · rcases setF_mem r hr with hr | rfl
    · exact h.fv r hr x hx
    · rcases List.mem_or_eq_of_mem_set hx with hx | rfl
      · exact h.fv _ hm x hx
      · omega
theorem clone_v {l : List Int} (hl : l.length ≤ 1000000) : clone_S N l = some l := by
  unfold clone_S
  rw [lim_eq hl]
theorem copied {α : Type} (l : List α) (d : α) : l.take (min l.length (List.replicate (l.length : Int).toNat d).length) ++ (List.replicate (l.length : Int).toNat d).drop (min l.length (List.replicate (l.length : Int).toNat d).length) = l := by simp
theorem known_v (h : Fine W s L F R) {k t : Nat} (hk : k < F.length) (ht : t < W.length) (v : Int) : known_S N W s L F R k t v = some (W, s, L, setF F k t v, R) := by
  have h1 := h.w1; have h2 := h.w5; have h3 := h.l6; have h4 := h.f6; have h5 := h.rl
  have hr := h.fw _ (getD_mem (d := []) hk)
  have hne : ∀ r : List Int, r.length = W.length → r ≠ [] ∧ r.length ≤ 1000000 := fun r e => ⟨fun e2 => by subst e2; simp at e; omega, by omega⟩
  unfold known_S
  rw [clone_v (by omega)]
  simp only [Option.bind_some]
  rw [grd_eq (lmI_iff.2 (by omega)), grd_eq (lmI_iff.2 (by omega)), clone_v (by omega)]
  simp only [Option.bind_some]
  rw [copied, copied]
  unfold known_j1 known_j2
  rw [if_pos ⟨⟨by omega, by omega, by simp only [Int.toNat_natCast]; omega⟩, fun r hr => hne r (h.lw r hr), fun r hr => hne r (h.fw r hr)⟩]
  simp only [Int.toNat_natCast]
  rfl
/-- The greatest of some numbers. -/
def maxN (f : Nat → Int) : Nat → Int
  | 0 => 0
  | n + 1 => max (maxN f n) (f n)
theorem maxN_le {f : Nat → Int} : ∀ {n i : Nat}, i < n → f i ≤ maxN f n
  | 0, i, h => by omega
  | n + 1, i, h => by
    unfold maxN
    by_cases e : i = n
    · subst e; omega
    · have := maxN_le (f := f) (n := n) (i := i) (by omega); omega
/-- How many ways there are to join best, with a value more; at most, whatever it is. -/
def wK (W : List Int) (s : Int) (L F : List (List Int)) (k t : Nat) (v : Nat) : Int := bestN W s L (setF F k t v)
def mK (W : List Int) (s : Int) (L F : List (List Int)) (k t : Nat) : Int := maxN (wK W s L F k t) 6
theorem bestN_pos : 0 < bestN W s L F := by rw [← bestR_len]; have := bestR_pos (W := W) (s := s) (L := L) (F := F); omega
theorem mK_pos {k t : Nat} : 0 < mK W s L F k t := by
  have := maxN_le (f := wK W s L F k t) (n := 6) (i := 0) (by omega)
  have h2 : 0 < wK W s L F k t 0 := bestN_pos
  unfold mK; omega
theorem ask_l3_p (hN : 110 ≤ N) (h : Fine W s L F R) {k t : Nat} (hk : k < F.length) (ht : t < W.length) {fo tr mo u2 u3 u5 u6 : Int} {u : List (List Int)} {u4 : List Int} : ∀ (n v : Nat), 6 < n + v → v ≤ 6 →
    ask_l3 N n fo tr mo k t (maxN (wK W s L F k t) v) u u2 u3 u4 u5 u6 v W s L F R = some (fo, tr, mo, (k : Int), (t : Int), mK W s L F k t, u, u2, u3, u4, u5, u6, W, s, L, F, R)
  | 0, v, hn, hv => by omega
  | n + 1, v, hn, hv => by
    unfold ask_l3
    by_cases c : v < 6
    · have ih := ask_l3_p hN h hk ht (fo := fo) (tr := tr) (mo := mo) (u := u) (u2 := u2) (u3 := u3) (u4 := u4) (u5 := u5) (u6 := u6) n (v + 1) (by omega) (by omega)
      rw [nat_succ] at ih
      have hF : Fine W s L (setF F k t v) R := h.setF hk (by omega)
      rw [br_dec (by omega), known_v h hk ht]
      simp only [Option.bind_some]
      rw [opened_f hN hF]
      simp only [Option.bind_some]
      unfold dkO
      have e0 := first_v (N := N) (W := W) (s := s) (R := R) (B := slF W L (setF F k t v)) hN hF.f6 hF.l6 (agF_bound hF) (u := 0) (by omega)
      rw [show ((0 : Nat) : Int) = 0 from rfl] at e0
      rw [e0]
      simp only [Option.bind_some]
      rw [chk_eq (by omega)]
      exact ih
    · obtain rfl : v = 6 := by omega
      rw [br_ndec (by omega)]
      rfl
/-- A trait that isn't known. -/
def opn (F : List (List Int)) (k t : Nat) : Prop := k < F.length ∧ t < (F.getD k []).length ∧ (F.getD k []).getD t 0 = -1
def lexL (k t k2 t2 : Nat) : Prop := k < k2 ∨ (k = k2 ∧ t < t2)
/-- What is told of the traits ahead of one. -/
def AskI (W : List Int) (s : Int) (L F : List (List Int)) (k0 t0 : Nat) (fo tr mo : Int) : Prop :=
  (fo = 0 ∧ tr = 0 ∧ mo = 0 ∧ ∀ k t, opn F k t → ¬ lexL k t k0 t0) ∨
  (∃ f r : Nat, fo = f ∧ tr = r ∧ opn F f r ∧ lexL f r k0 t0 ∧ mo = mK W s L F f r ∧ ∀ k t, opn F k t → lexL k t k0 t0 → mo ≤ mK W s L F k t ∧ (mK W s L F k t = mo → ¬ lexL k t f r))
theorem AskI.closed {k t : Nat} {fo tr mo : Int} (h : AskI W s L F k t fo tr mo) (ho : ¬ opn F k t) : AskI W s L F k (t + 1) fo tr mo := by
  have key : ∀ a b, opn F a b → lexL a b k (t + 1) → lexL a b k t := fun a b h1 h2 => by
    rcases h2 with h2 | ⟨rfl, h2⟩
    · exact .inl h2
    · by_cases e : b = t
      · subst e; exact absurd h1 ho
      · exact .inr ⟨rfl, by omega⟩
  rcases h with ⟨h1, h2, h3, h4⟩ | ⟨f, r, h1, h2, h3, h4, h5, h6⟩
  · exact .inl ⟨h1, h2, h3, fun a b ha hb => h4 a b ha (key a b ha hb)⟩
  · exact .inr ⟨f, r, h1, h2, h3, by rcases h4 with h | h; exact .inl h; exact .inr ⟨h.1, by omega⟩, h5, fun a b ha hb => h6 a b ha (key a b ha hb)⟩
theorem AskI.row {k t : Nat} {fo tr mo : Int} (h : AskI W s L F k t fo tr mo) (ht : (F.getD k []).length ≤ t) : AskI W s L F (k + 1) 0 fo tr mo := by
  have key : ∀ a b, opn F a b → lexL a b (k + 1) 0 → lexL a b k t := fun a b h1 h2 => by
    rcases h2 with h2 | ⟨rfl, h2⟩
    · by_cases e : a = k
      · subst e; exact .inr ⟨rfl, by have := h1.2.1; omega⟩
      · exact .inl (by omega)
    · omega
  rcases h with ⟨h1, h2, h3, h4⟩ | ⟨f, r, h1, h2, h3, h4, h5, h6⟩
  · exact .inl ⟨h1, h2, h3, fun a b ha hb => h4 a b ha (key a b ha hb)⟩
  · exact .inr ⟨f, r, h1, h2, h3, .inl (by rcases h4 with h | h <;> omega), h5, fun a b ha hb => h6 a b ha (key a b ha hb)⟩
theorem AskI.take {k t : Nat} {fo tr mo : Int} (h : AskI W s L F k t fo tr mo) (ho : opn F k t) (hm : mo = 0 ∨ mK W s L F k t < mo) : AskI W s L F k (t + 1) k t (mK W s L F k t) := by
  refine .inr ⟨k, t, rfl, rfl, ho, .inr ⟨rfl, by omega⟩, rfl, fun a b ha hb => ?_⟩
  have hq := mK_pos (W := W) (s := s) (L := L) (F := F) (k := k) (t := t)
  by_cases e : lexL a b k t
  · rcases h with ⟨h1, h2, h3, h4⟩ | ⟨f, r, h1, h2, h3, h4, h5, h6⟩
    · exact absurd e (h4 a b ha)
    · have h7 := h6 a b ha e
      have h8 := mK_pos (W := W) (s := s) (L := L) (F := F) (k := f) (t := r)
      exact ⟨by omega, fun e2 => by omega⟩
  · have : a = k ∧ b = t := by
      rcases hb with hb | ⟨rfl, hb⟩
      · exact absurd (.inl hb) e
      · refine ⟨rfl, ?_⟩
        by_cases e2 : b = t
        · exact e2
        · exact absurd (.inr ⟨rfl, by omega⟩) e
    obtain ⟨rfl, rfl⟩ := this
    exact ⟨Int.le_refl _, fun _ => e⟩
theorem AskI.pass {k t : Nat} {fo tr mo : Int} (h : AskI W s L F k t fo tr mo) (hm : ¬ mo = 0) (hm2 : ¬ mK W s L F k t < mo) : AskI W s L F k (t + 1) fo tr mo := by
  rcases h with ⟨h1, h2, h3, h4⟩ | ⟨f, r, h1, h2, h3, h4, h5, h6⟩
  · exact absurd h3 hm
  · refine .inr ⟨f, r, h1, h2, h3, by rcases h4 with h | h; exact .inl h; exact .inr ⟨h.1, by omega⟩, h5, fun a b ha hb => ?_⟩
    by_cases e : lexL a b k t
    · exact h6 a b ha e
    · have : a = k ∧ b = t := by
        rcases hb with hb | ⟨rfl, hb⟩
        · exact absurd (.inl hb) e
        · refine ⟨rfl, ?_⟩
          by_cases e2 : b = t
          · exact e2
          · exact absurd (.inr ⟨rfl, by omega⟩) e
      obtain ⟨rfl, rfl⟩ := this
      refine ⟨by omega, fun _ hx => ?_⟩
      rcases h4 with h | h <;> rcases hx with hx | hx <;> omega
theorem ask_l2_p (hN : 110 ≤ N) (h : Fine W s L F R) {k : Nat} (hk : k < F.length) {u2 u3 : Int} {u : List (List Int)} : ∀ (n t : Nat) (fo tr mo : Int), W.length < n + t → t ≤ W.length → AskI W s L F k t fo tr mo →
    ∃ fo' tr' mo', AskI W s L F (k + 1) 0 fo' tr' mo' ∧ ask_l2 N n fo tr mo k u u2 u3 (F.getD k []) ((F.getD k []).length : Int) t W s L F R = some (fo', tr', mo', u, u2, u3, W, s, L, F, R)
  | 0, t, fo, tr, mo, hn, ht, _ => by omega
  | n + 1, t, fo, tr, mo, hn, ht, hI => by
    unfold ask_l2
    have hr := h.fw _ (getD_mem (d := []) hk)
    have hw5 := h.w5
    by_cases c : t < W.length
    · have hj : ∀ fo tr mo, AskI W s L F k (t + 1) fo tr mo → ∃ fo' tr' mo', AskI W s L F (k + 1) 0 fo' tr' mo' ∧ ask_j1 N (ask_l2 N n) fo tr mo k u u2 u3 (F.getD k []) ((F.getD k []).length : Int) t W s L F R = some (fo', tr', mo', u, u2, u3, W, s, L, F, R) := fun fo tr mo hI => by
        obtain ⟨a, b, d, h1, h2⟩ := ask_l2_p hN h hk (u := u) (u2 := u2) (u3 := u3) n (t + 1) fo tr mo (by omega) (by omega) hI
        rw [nat_succ] at h2
        refine ⟨a, b, d, h1, ?_⟩
        unfold ask_j1
        rw [chk_eq (by omega), h2]
      rw [br_dec (by omega), idx_eq (by omega) (gets (by omega) 0)]
      by_cases c1 : (F.getD k []).getD t 0 = -1
      rotate_left
      · rw [br_nnd c1]
        exact hj _ _ _ (hI.closed fun ho => c1 ho.2.2)
      have e := ask_l3_p hN h hk c (fo := fo) (tr := tr) (mo := mo) (u := u) (u2 := u2) (u3 := u3) (u4 := F.getD k []) (u5 := ((F.getD k []).length : Int)) (u6 := (t : Int)) N 0 (by omega) (by omega)
      rw [show ((0 : Nat) : Int) = 0 from rfl, show maxN (wK W s L F k t) 0 = 0 from rfl] at e
      rw [br_nd c1, e]
      simp only [Option.bind_some]
      have ho : opn F k t := ⟨hk, by omega, c1⟩
      by_cases c2 : mo = 0
      · rw [br_dec c2]
        exact hj _ _ _ (hI.take ho (.inl c2))
      rw [br_ndec c2]
      by_cases c3 : mK W s L F k t < mo
      · rw [br_dec c3]
        exact hj _ _ _ (hI.take ho (.inr c3))
      · rw [br_ndec c3]
        exact hj _ _ _ (hI.pass c2 c3)
    · rw [br_ndec (by omega)]
      exact ⟨fo, tr, mo, hI.row (by omega), rfl⟩
theorem ask_l1_p (hN : 110 ≤ N) (h : Fine W s L F R) : ∀ (n k : Nat) (fo tr mo : Int), F.length < n + k → k ≤ F.length → AskI W s L F k 0 fo tr mo →
    ∃ r, AskI W s L F F.length 0 r.1 r.2.1 r.2.2 ∧ ask_l1 N n fo tr mo F F.length k W s L F R = some r
  | 0, k, fo, tr, mo, hn, hk, _ => by omega
  | n + 1, k, fo, tr, mo, hn, hk, hI => by
    unfold ask_l1
    have hf6 := h.f6; have hw5 := h.w5
    by_cases c : k < F.length
    · obtain ⟨a, b, d, h1, h2⟩ := ask_l2_p hN h c (u := F) (u2 := (F.length : Int)) (u3 := (k : Int)) N 0 fo tr mo (by omega) (by omega) hI
      rw [show ((0 : Nat) : Int) = 0 from rfl] at h2
      obtain ⟨r, h3, h4⟩ := ask_l1_p hN h n (k + 1) a b d (by omega) (by omega) h1
      rw [nat_succ] at h4
      rw [br_dec (by omega), idx_eq (by omega) (gets c []), h2]
      simp only [Option.bind_some]
      rw [chk_eq (by omega)]
      exact ⟨r, h3, h4⟩
    · obtain rfl : k = F.length := by omega
      rw [br_ndec (by omega)]
      exact ⟨_, hI, rfl⟩
/-- What should be asked for. -/
def AskR (W : List Int) (s : Int) (L F : List (List Int)) (r : Int × Int × Int × Int) : Prop :=
  (r = (0, 0, 0, 6) ∧ ∀ k t, ¬ opn F k t) ∨
  (∃ f t : Nat, r = (↑f, ↑t, mK W s L F f t, 0) ∧ opn F f t ∧ ∀ k x, opn F k x → mK W s L F f t ≤ mK W s L F k x ∧ (mK W s L F k x = mK W s L F f t → ¬ lexL k x f t))
theorem AskR.eq {r q : Int × Int × Int × Int} (h : AskR W s L F r) (h2 : AskR W s L F q) : r = q := by
  rcases h with ⟨rfl, h⟩ | ⟨f, t, rfl, ho, hm⟩
  · rcases h2 with ⟨rfl, _⟩ | ⟨f2, t2, rfl, ho2, _⟩
    · rfl
    · exact absurd ho2 (h _ _)
  · rcases h2 with ⟨rfl, h2⟩ | ⟨f2, t2, rfl, ho2, hm2⟩
    · exact absurd ho (h2 _ _)
    · have a := hm _ _ ho2
      have b := hm2 _ _ ho
      have e : mK W s L F f t = mK W s L F f2 t2 := by omega
      have a2 := a.2 e.symm
      have b2 := b.2 e
      have : f = f2 ∧ t = t2 := by unfold lexL at a2 b2; omega
      obtain ⟨rfl, rfl⟩ := this
      rfl
theorem ask_v (hN : 110 ≤ N) (h : Sm W L F R) : ∃ r, ask_S N W s L F R = some r ∧ (if errD W s L F R = 0 then AskR W s L F r else r = (0, 0, 0, errD W s L F R)) := by
  unfold ask_S
  rw [check_v hN h]
  simp only [Option.bind_some]
  by_cases c : errD W s L F R = 0
  rotate_left
  · rw [br_nnd c]
    exact ⟨_, rfl, by rw [if_neg c]⟩
  have hF := errD_iff.1 c
  have hf6 := hF.f6
  rw [br_nd c]
  obtain ⟨r, h1, h2⟩ := ask_l1_p hN hF N 0 0 0 0 (by omega) (by omega) (.inl ⟨rfl, rfl, rfl, fun k t _ hl => by unfold lexL at hl; omega⟩)
  rw [show ((0 : Nat) : Int) = 0 from rfl] at h2
  rw [h2]
  simp only [Option.bind_some, if_pos c]
  rcases h1 with ⟨e1, e2, e3, e4⟩ | ⟨f, t, e1, e2, e3, e4, e5, e6⟩
  · rw [br_dec e3]
    exact ⟨_, rfl, .inl ⟨rfl, fun k t ho => e4 k t ho (.inl ho.1)⟩⟩
  · have hp := mK_pos (W := W) (s := s) (L := L) (F := F) (k := f) (t := t)
    rw [br_ndec (show ¬ r.2.2 = 0 by rw [e5]; omega)]
    refine ⟨_, rfl, .inr ⟨f, t, by rw [e1, e2, e5], e3, fun k x ho => ?_⟩⟩
    have := e6 k x ho (.inl ho.1)
    rw [e5] at this
    exact this
end
end Go.Proofs.Ythncjilcflilcaa

namespace Go.Proofs.Ythncjilcflilcaa
set_option linter.all false
open Go
theorem awake_v : awake_S 1100 = some true := by kernel_rfl
end Go.Proofs.Ythncjilcflilcaa

namespace Go.Proofs.Ythncjilcflilcaa
set_option linter.all false
open Go

section
variable {W : List Int} {s : Int} {L F : List (List Int)} {R : List Int} {N : Nat}
theorem rwith_v (hN : 110 ≤ N) (h : Sm W L F R) (a t v : Int) : rwith_S N W s L F R a t v = some (if errD W s L F R = 0 then if ¬ (0 ≤ a ∧ a ≤ (F.length : Int) - 1) then ([], 0, [], [], [], 1) else if ¬ (0 ≤ t ∧ t ≤ (W.length : Int) - 1) then ([], 0, [], [], [], 1) else
    if ¬ (F.getD a.toNat []).getD t.toNat 0 = -1 then ([], 0, [], [], [], 5) else if ¬ (0 ≤ v ∧ v ≤ 5) then ([], 0, [], [], [], 3) else (W, s, L, setF F a.toNat t.toNat v, R, 0) else ([], 0, [], [], [], errD W s L F R)) := by
  unfold rwith_S
  rw [rcheck_v hN h]
  simp only [Option.bind_some]
  by_cases c : errD W s L F R = 0
  rotate_left
  · rw [if_neg c, br_nnd c]
  have hF := errD_iff.1 c
  have h1 := hF.w1; have h2 := hF.w5; have h4 := hF.f6
  rw [if_pos c, br_nd c, chk_eq (by omega), off_v]
  simp only [Option.bind_some]
  by_cases c1 : 0 ≤ a ∧ a ≤ (F.length : Int) - 1
  rotate_left
  · rw [br_nnd c1, if_pos c1]
  rw [br_nd c1, if_neg (not_not_intro c1), chk_eq (by omega), off_v]
  simp only [Option.bind_some]
  by_cases c2 : 0 ≤ t ∧ t ≤ (W.length : Int) - 1
  rotate_left
  · rw [br_nnd c2, if_pos c2]
  rw [br_nd c2, if_neg (not_not_intro c2)]
  obtain ⟨k, rfl⟩ : ∃ k : Nat, a = k := ⟨a.toNat, (Int.toNat_of_nonneg c1.1).symm⟩
  obtain ⟨t, rfl⟩ : ∃ k : Nat, t = k := ⟨t.toNat, (Int.toNat_of_nonneg c2.1).symm⟩
  have hk : k < F.length := by omega
  have ht : t < W.length := by omega
  have hm := getD_mem (d := []) hk
  have hr := hF.fw _ hm
  have hv := hF.fv _ hm _ (getD_mem (d := 0) (show t < (F.getD k []).length by omega))
  simp only [Int.toNat_natCast]
  rw [idx_eq (by omega) (gets hk []), idx_eq (by omega) (gets (by omega) 0)]
  by_cases c3 : (F.getD k []).getD t 0 = -1
  rotate_left
  · rw [br_dec (by omega), if_pos c3]
  rw [br_ndec (by omega), if_neg (not_not_intro c3), off_v]
  simp only [Option.bind_some]
  by_cases c4 : 0 ≤ v ∧ v ≤ 5
  rotate_left
  · rw [br_nnd c4, if_pos c4]
  have hne : ∀ r : List Int, r.length = W.length → r ≠ [] ∧ r.length ≤ 1000000 := fun r e => ⟨fun e2 => by subst e2; simp at e; omega, by omega⟩
  rw [br_nd c4, if_neg (not_not_intro c4)]
  unfold rwith_j1 rwith_j2
  rw [if_pos ⟨⟨by omega, by omega, by simp only [Int.toNat_natCast]; omega⟩, by omega, fun r hr => hne r (hF.fw r hr)⟩]
  simp only [Int.toNat_natCast]
  rfl
/-- Few enough things for the reference to try all joins. -/
def Few (N : Nat) (L F : List (List Int)) : Prop := (F.length + 1) ^ L.length < N ∧ (F.length + 1) ^ L.length ≤ 100000
theorem rask_l3_p (hN : 110 ≤ N) (h : Fine W s L F R) (hp : Few N L F) {k t : Nat} (hk : k < F.length) (ht : t < W.length) (c : (F.getD k []).getD t 0 = -1) {fo tr mo : Int} : ∀ (n v : Nat), 6 < n + v → v ≤ 6 →
    rask_l3 N n fo tr mo k t (maxN (wK W s L F k t) v) v W s L F R = some (fo, tr, mo, (k : Int), (t : Int), mK W s L F k t, W, s, L, F, R)
  | 0, v, hn, hv => by omega
  | n + 1, v, hn, hv => by
    unfold rask_l3
    have hw5 := h.w5; have hf6 := h.f6
    by_cases d : v < 6
    · have ih := rask_l3_p hN h hp hk ht c (fo := fo) (tr := tr) (mo := mo) n (v + 1) (by omega) (by omega)
      rw [nat_succ] at ih
      have hF : Fine W s L (setF F k t v) R := h.setF hk (by omega)
      have hfl := setF_len (F := F) k t (v : Int)
      rw [br_dec (by omega), rwith_v hN h.sm, if_pos (errD_iff.2 h), if_neg (by omega), if_neg (by omega)]
      simp only [Int.toNat_natCast]
      rw [if_neg (not_not_intro c), if_neg (by omega)]
      simp only [Option.bind_some]
      rw [br_dec (by first | trivial | rfl), rbest_v hN hF (by rw [hfl]; exact hp.1) (by rw [hfl]; exact hp.2)]
      simp only [Option.bind_some]
      unfold rask_j1
      rw [chk_eq (by omega), bestR_len]
      exact ih
    · obtain rfl : v = 6 := by omega
      rw [br_ndec (by omega)]
      rfl
theorem rask_l3_n (hN : 110 ≤ N) (h : Fine W s L F R) {k t : Nat} (hk : k < F.length) (ht : t < W.length) (c : ¬ (F.getD k []).getD t 0 = -1) {fo tr mo : Int} : ∀ (n v : Nat), 6 < n + v → v ≤ 6 →
    rask_l3 N n fo tr mo k t 0 v W s L F R = some (fo, tr, mo, (k : Int), (t : Int), 0, W, s, L, F, R)
  | 0, v, hn, hv => by omega
  | n + 1, v, hn, hv => by
    unfold rask_l3
    have hw5 := h.w5; have hf6 := h.f6
    by_cases d : v < 6
    · have ih := rask_l3_n hN h hk ht c (fo := fo) (tr := tr) (mo := mo) n (v + 1) (by omega) (by omega)
      rw [nat_succ] at ih
      rw [br_dec (by omega), rwith_v hN h.sm, if_pos (errD_iff.2 h), if_neg (by omega), if_neg (by omega)]
      simp only [Int.toNat_natCast]
      rw [if_pos c]
      simp only [Option.bind_some]
      rw [br_ndec (by decide)]
      unfold rask_j1
      rw [chk_eq (by omega)]
      exact ih
    · obtain rfl : v = 6 := by omega
      rw [br_ndec (by omega)]
theorem rask_l2_p (hN : 110 ≤ N) (h : Fine W s L F R) (hp : Few N L F) {k : Nat} (hk : k < F.length) : ∀ (n t : Nat) (fo tr mo : Int), W.length < n + t → t ≤ W.length → AskI W s L F k t fo tr mo →
    ∃ fo' tr' mo', AskI W s L F (k + 1) 0 fo' tr' mo' ∧ rask_l2 N n fo tr mo k t W s L F R = some (fo', tr', mo', (k : Int), W, s, L, F, R)
  | 0, t, fo, tr, mo, hn, ht, _ => by omega
  | n + 1, t, fo, tr, mo, hn, ht, hI => by
    unfold rask_l2
    have hr := h.fw _ (getD_mem (d := []) hk)
    have hw5 := h.w5
    by_cases c : t < W.length
    · have hj : ∀ fo tr mo, AskI W s L F k (t + 1) fo tr mo → ∃ fo' tr' mo', AskI W s L F (k + 1) 0 fo' tr' mo' ∧ rask_j2 N (rask_l2 N n) fo tr mo k t W s L F R = some (fo', tr', mo', (k : Int), W, s, L, F, R) := fun fo tr mo hI => by
        obtain ⟨a, b, d, h1, h2⟩ := rask_l2_p hN h hp hk n (t + 1) fo tr mo (by omega) (by omega) hI
        rw [nat_succ] at h2
        refine ⟨a, b, d, h1, ?_⟩
        unfold rask_j2
        rw [chk_eq (by omega), h2]
      rw [br_dec (by omega)]
      by_cases c1 : (F.getD k []).getD t 0 = -1
      rotate_left
      · have e := rask_l3_n hN h hk c c1 (fo := fo) (tr := tr) (mo := mo) N 0 (by omega) (by omega)
        rw [show ((0 : Nat) : Int) = 0 from rfl] at e
        rw [e]
        simp only [Option.bind_some]
        rw [br_ndec (by omega)]
        exact hj _ _ _ (hI.closed fun ho => c1 ho.2.2)
      have e := rask_l3_p hN h hp hk c c1 (fo := fo) (tr := tr) (mo := mo) N 0 (by omega) (by omega)
      rw [show ((0 : Nat) : Int) = 0 from rfl, show maxN (wK W s L F k t) 0 = 0 from rfl] at e
      rw [e]
      simp only [Option.bind_some]
      have ho : opn F k t := ⟨hk, by omega, c1⟩
      have hp := mK_pos (W := W) (s := s) (L := L) (F := F) (k := k) (t := t)
      rw [br_dec hp]
      by_cases c2 : mo = 0
      · rw [br_dec c2]
        exact hj _ _ _ (hI.take ho (.inl c2))
      rw [br_ndec c2]
      by_cases c3 : mK W s L F k t < mo
      · rw [br_dec c3]
        exact hj _ _ _ (hI.take ho (.inr c3))
      · rw [br_ndec c3]
        exact hj _ _ _ (hI.pass c2 c3)
    · rw [br_ndec (by omega)]
      exact ⟨fo, tr, mo, hI.row (by omega), rfl⟩
theorem rask_l1_p (hN : 110 ≤ N) (h : Fine W s L F R) (hp : Few N L F) : ∀ (n k : Nat) (fo tr mo : Int), F.length < n + k → k ≤ F.length → AskI W s L F k 0 fo tr mo →
    ∃ r, AskI W s L F F.length 0 r.1 r.2.1 r.2.2 ∧ rask_l1 N n fo tr mo k W s L F R = some r
  | 0, k, fo, tr, mo, hn, hk, _ => by omega
  | n + 1, k, fo, tr, mo, hn, hk, hI => by
    unfold rask_l1
    have hf6 := h.f6; have hw5 := h.w5
    by_cases c : k < F.length
    · obtain ⟨a, b, d, h1, h2⟩ := rask_l2_p hN h hp c N 0 fo tr mo (by omega) (by omega) hI
      rw [show ((0 : Nat) : Int) = 0 from rfl] at h2
      obtain ⟨r, h3, h4⟩ := rask_l1_p hN h hp n (k + 1) a b d (by omega) (by omega) h1
      rw [nat_succ] at h4
      rw [br_dec (by omega), h2]
      simp only [Option.bind_some]
      rw [chk_eq (by omega)]
      exact ⟨r, h3, h4⟩
    · obtain rfl : k = F.length := by omega
      rw [br_ndec (by omega)]
      exact ⟨_, hI, rfl⟩
theorem rask_v (hN : 110 ≤ N) (h : Sm W L F R) (hp : errD W s L F R = 0 → Few N L F) : ∃ r, rask_S N W s L F R = some r ∧ (if errD W s L F R = 0 then AskR W s L F r else r = (0, 0, 0, errD W s L F R)) := by
  unfold rask_S
  rw [rcheck_v hN h]
  simp only [Option.bind_some]
  by_cases c : errD W s L F R = 0
  rotate_left
  · rw [br_nnd c]
    exact ⟨_, rfl, by rw [if_neg c]⟩
  have hF := errD_iff.1 c
  have hf6 := hF.f6
  rw [br_nd c]
  obtain ⟨r, h1, h2⟩ := rask_l1_p hN hF (hp c) N 0 0 0 0 (by omega) (by omega) (.inl ⟨rfl, rfl, rfl, fun k t _ hl => by unfold lexL at hl; omega⟩)
  rw [show ((0 : Nat) : Int) = 0 from rfl] at h2
  rw [h2]
  simp only [Option.bind_some, if_pos c]
  rcases h1 with ⟨e1, e2, e3, e4⟩ | ⟨f, t, e1, e2, e3, e4, e5, e6⟩
  · rw [br_dec e3]
    exact ⟨_, rfl, .inl ⟨rfl, fun k t ho => e4 k t ho (.inl ho.1)⟩⟩
  · have hp := mK_pos (W := W) (s := s) (L := L) (F := F) (k := f) (t := t)
    rw [br_ndec (show ¬ r.2.2 = 0 by rw [e5]; omega)]
    refine ⟨_, rfl, .inr ⟨f, t, by rw [e1, e2, e5], e3, fun k x ho => ?_⟩⟩
    have := e6 k x ho (.inl ho.1)
    rw [e5] at this
    exact this
end
theorem fasks_true {W : List Int} {s : Int} {L F : List (List Int)} {R : List Int} (_ : Ty.inB (.pair (.sl (.int .i64)) (.pair (.int .i64) (.pair (.sl (.sl (.int .i64))) (.pair (.sl (.sl (.int .i64))) (.sl (.int .i64)))))) (W, s, L, F, R)) : fasks_S 1100 W s L F R = some true := by
  have aw : ((awake_S 1100).bind fun x => some x) = some true := by rw [awake_v]; rfl
  unfold fasks_S
  rcases great_v (N := 1100) (W := W) (s := s) (L := L) (F := F) (R := R) (by omega) with e | ⟨e, hs⟩
  · rw [e]
    simp only [Option.bind_some]
    rw [br_true]; exact aw
  rw [e]
  simp only [Option.bind_some]
  rw [br_false]
  rcases wide_v (N := 1100) (W := W) (s := s) (L := L) (F := F) (R := R) 3 with h2 | ⟨h2, w1, w2⟩
  · rw [h2]
    simp only [Option.bind_some]
    rw [br_true]; exact aw
  rw [h2]
  simp only [Option.bind_some]
  rw [br_false, copyd_v (by omega) hs]
  simp only [Option.bind_some]
  have hp : errD W s L F R = 0 → Few 1100 L F := fun c => by
    have hF := errD_iff.1 c
    have h1 := hF.l6; have h2 := hF.f6
    have := pow_bound (a := F.length) (b := L.length) (by omega) (by omega)
    exact ⟨by omega, by omega⟩
  obtain ⟨r, e1, r1⟩ := ask_v (N := 1100) (by omega) hs
  obtain ⟨q, e2, r2⟩ := rask_v (N := 1100) (by omega) hs hp
  have : r = q := by
    by_cases c : errD W s L F R = 0
    · rw [if_pos c] at r1 r2
      exact r1.eq r2
    · rw [if_neg c] at r1 r2
      rw [r1, r2]
  subst this
  rw [e1]
  simp only [Option.bind_some]
  rw [e2]
  simp only [Option.bind_some]
  rw [br_dec (by first | trivial | rfl), br_dec (by first | trivial | rfl), br_dec (by first | trivial | rfl), br_dec (by first | trivial | rfl), same_v (by omega) hs]
  simp only [Option.bind_some]
  rw [br_true]; exact aw
end Go.Proofs.Ythncjilcflilcaa

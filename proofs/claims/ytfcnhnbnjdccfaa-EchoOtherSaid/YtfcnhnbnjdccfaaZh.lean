/-
  Parts of a proof, put together: Pl11, E4, Pl12.
  Conditions: none.
-/
import Derived.Test.YtfcnhnbnjdccfaaZg
namespace Go.Proofs.Ytfcnhnbnjdccfaa
set_option linter.all false
open Go

/-- Words of two texts are told in what was heard, between noise. -/
inductive Rd : List Int → List Int → List Int → Prop
  | nil : Rd [] [] []
  | noise (w : Int) {H a b : List Int} (s : Rd H a b) : Rd (w :: H) a b
  | ta (w : Int) {H a b : List Int} (s : Rd H a b) : Rd (w :: H) (w :: a) b
  | tb (w : Int) {H a b : List Int} (s : Rd H a b) : Rd (w :: H) a (w :: b)
theorem Rd.none : ∀ H : List Int, Rd H [] []
  | [] => .nil
  | w :: H => .noise w (Rd.none H)
theorem Rd.sub {H a b : List Int} (s : Rd H a b) : ∀ a' b' : List Int, a'.Sublist a → b'.Sublist b → Rd H a' b' := by
  induction s with
  | nil => intro a' b' ha hb; rw [List.sublist_nil.1 ha, List.sublist_nil.1 hb]; exact .nil
  | noise w s ih => intro a' b' ha hb; exact .noise w (ih a' b' ha hb)
  | ta w s ih =>
    intro a' b' ha hb
    cases ha with
    | cons _ h => exact .noise w (ih a' b' h hb)
    | cons_cons _ h => exact .ta w (ih _ b' h hb)
  | tb w s ih =>
    intro a' b' ha hb
    cases hb with
    | cons _ h => exact .noise w (ih a' b' ha h)
    | cons_cons _ h => exact .tb w (ih a' _ ha h)
theorem sub_at {A a : List Int} {w : Int} : ∀ (n i : Nat), A.length = i + n → (w :: a).Sublist (A.drop i) → ∃ j, i ≤ j ∧ j < A.length ∧ A.getD j 0 = w ∧ a.Sublist (A.drop (j + 1))
  | 0, i, h, hs => by rw [List.drop_of_length_le (by omega)] at hs; cases hs
  | n + 1, i, h, hs => by
    rw [drop_cons (by omega)] at hs
    cases hs with
    | cons _ h' =>
      obtain ⟨j, h1, h2, h3, h4⟩ := sub_at n (i + 1) (by omega) h'
      exact ⟨j, by omega, h2, h3, h4⟩
    | cons_cons _ h' => exact ⟨i, Nat.le_refl _, by omega, rfl, h'⟩
theorem tvx_ge (H A B : List Int) : ∀ (n h i k : Nat) (a b : List Int), H.length = h + n → Rd (H.drop h) a b → a.Sublist (A.drop i) → b.Sublist (B.drop k) → ((a.length : Int) + b.length) ≤ (tvx mayA H A B n (h, i, k)).1
  | 0, h, i, k, a, b, hn, s, _, _ => by
    rw [List.drop_of_length_le (by omega)] at s
    cases s; simp [tvx]
  | n + 1, h, i, k, a, b, hn, s, ha, hb => by
    rw [drop_cons (by omega)] at s
    have g := (fold_ge (h := h) (t := tvx mayA H A B n) (movesL A B (H.getD h 0) (h, i, k)) (-1, 0)).2
    rw [tvx]
    dsimp only
    cases s with
    | noise _ s =>
      have := tvx_ge H A B n (h + 1) i k a b (by omega) s ha hb
      have g1 := g ((3, 0), (h + 1, i, k)) (by simp [movesL])
      have e : ∀ w : Int, wT 3 w = w := fun w => by simp [wT]
      dsimp only at g1
      rw [e] at g1
      omega
    | ta _ s =>
      obtain ⟨j, h1, h2, h3, h4⟩ := sub_at (A.length - i) i (by have := ha.length_le; simp at this; omega) ha
      have := tvx_ge H A B n (h + 1) (j + 1) k _ b (by omega) s h4 hb
      have g1 := g ((1, (j : Int)), (h + 1, j + 1, k)) (by
        simp only [movesL, List.mem_cons, List.mem_append, List.mem_map]
        exact .inr (.inl ⟨j, mem_standsL.2 ⟨h1, h2, h3⟩, rfl⟩))
      dsimp only [wT] at g1
      rw [if_pos ⟨by omega, by decide⟩] at g1
      simp only [List.length_cons]
      omega
    | tb _ s =>
      obtain ⟨j, h1, h2, h3, h4⟩ := sub_at (B.length - k) k (by have := hb.length_le; simp at this; omega) hb
      have := tvx_ge H A B n (h + 1) i (j + 1) a _ (by omega) s ha h4
      have g1 := g ((2, (j : Int)), (h + 1, i, j + 1)) (by
        simp only [movesL, List.mem_cons, List.mem_append, List.mem_map]
        exact .inr (.inr ⟨j, mem_standsL.2 ⟨h1, h2, h3⟩, rfl⟩))
      dsimp only [wT] at g1
      rw [if_pos ⟨by omega, by decide⟩] at g1
      simp only [List.length_cons]
      omega
theorem fold_has {h : Nat} {t : At3 → Int × Int} : ∀ (ms : List Mv) (best : Int × Int), (ms.foldl (stepT mayA h t) best).1 = best.1 ∨ ∃ m ∈ ms, (ms.foldl (stepT mayA h t) best).1 = wT m.1.1 (t m.2).1
  | [], best => .inl rfl
  | m :: ms, best => by
    rw [List.foldl_cons]
    rcases fold_has (h := h) (t := t) ms (stepT mayA h t best m) with h1 | ⟨m', hm, h1⟩
    · rw [stepT_fst] at h1
      rcases Int.le_total best.1 (wT m.1.1 (t m.2).1) with h2 | h2
      · exact .inr ⟨m, by simp, by omega⟩
      · exact .inl (by omega)
    · exact .inr ⟨m', by simp [hm], h1⟩
theorem tvx_nonneg (H A B : List Int) {n h i k : Nat} (hn : H.length = h + n) : 0 ≤ (tvx mayA H A B n (h, i, k)).1 := by
  have := tvx_ge H A B n h i k [] [] hn (Rd.none _) (List.nil_sublist _) (List.nil_sublist _)
  simpa using this
theorem tvx_has (H A B : List Int) : ∀ (n h i k : Nat), H.length = h + n → ∃ a b, Rd (H.drop h) a b ∧ a.Sublist (A.drop i) ∧ b.Sublist (B.drop k) ∧ ((a.length : Int) + b.length) = (tvx mayA H A B n (h, i, k)).1
  | 0, h, i, k, hn => ⟨[], [], by rw [List.drop_of_length_le (by omega)]; exact .nil, List.nil_sublist _, List.nil_sublist _, by simp [tvx]⟩
  | n + 1, h, i, k, hn => by
    have nn := tvx_nonneg H A B (i := i) (k := k) hn
    rw [tvx] at nn ⊢
    dsimp only at nn ⊢
    rw [drop_cons (a := H) (by omega)]
    rcases fold_has (h := h) (t := tvx mayA H A B n) (movesL A B (H.getD h 0) (h, i, k)) (-1, 0) with h1 | ⟨m, hm, h1⟩
    · rw [h1] at nn; exact absurd nn (by decide)
    · rw [h1]
      simp only [movesL, List.mem_cons, List.mem_append, List.mem_map] at hm
      rcases hm with rfl | ⟨j, hj, rfl⟩ | ⟨j, hj, rfl⟩
      · obtain ⟨a, b, s, ha, hb, e⟩ := tvx_has H A B n (h + 1) i k (by omega)
        have e3 : ∀ w : Int, wT 3 w = w := fun w => by simp [wT]
        exact ⟨a, b, .noise _ s, ha, hb, by rw [e3]; exact e⟩
      · obtain ⟨a, b, s, ha, hb, e⟩ := tvx_has H A B n (h + 1) (j + 1) k (by omega)
        obtain ⟨j1, j2, j3⟩ := mem_standsL.1 hj
        have h0 := tvx_nonneg H A B (n := n) (h := h + 1) (i := j + 1) (k := k) (by omega)
        refine ⟨H.getD h 0 :: a, b, .ta _ s, ?_, hb, ?_⟩
        · have s1 : (H.getD h 0 :: a).Sublist (A.drop j) := by rw [drop_cons j2, j3]; exact ha.cons_cons _
          have : A.drop j = (A.drop i).drop (j - i) := by rw [List.drop_drop]; congr 1; omega
          rw [this] at s1
          exact s1.trans (List.drop_sublist _ _)
        · dsimp only [wT]
          rw [if_pos ⟨by omega, by decide⟩]
          simp only [List.length_cons]; omega
      · obtain ⟨a, b, s, ha, hb, e⟩ := tvx_has H A B n (h + 1) i (j + 1) (by omega)
        obtain ⟨j1, j2, j3⟩ := mem_standsL.1 hj
        have h0 := tvx_nonneg H A B (n := n) (h := h + 1) (i := i) (k := j + 1) (by omega)
        refine ⟨a, H.getD h 0 :: b, .tb _ s, ha, ?_, ?_⟩
        · have s1 : (H.getD h 0 :: b).Sublist (B.drop j) := by rw [drop_cons j2, j3]; exact hb.cons_cons _
          have : B.drop j = (B.drop k).drop (j - k) := by rw [List.drop_drop]; congr 1; omega
          rw [this] at s1
          exact s1.trans (List.drop_sublist _ _)
        · dsimp only [wT]
          rw [if_pos ⟨by omega, by decide⟩]
          simp only [List.length_cons]; omega
/-- The most words that are told. -/
theorem leastV_le {H A B a b : List Int} (s : Rd H a b) (ha : a.Sublist A) (hb : b.Sublist B) : leastV H A B ≤ (A.length : Int) + B.length + H.length - 2 * (a.length + b.length) := by
  have := tvx_ge H A B H.length 0 0 0 a b (by omega) s ha hb
  have e : (tvx mayA H A B H.length (0, 0, 0)).1 = (tv mayA H A B (0, 0, 0)).1 := rfl
  unfold leastV
  omega
theorem leastV_has (H A B : List Int) : ∃ a b, Rd H a b ∧ a.Sublist A ∧ b.Sublist B ∧ leastV H A B = (A.length : Int) + B.length + H.length - 2 * (a.length + b.length) := by
  obtain ⟨a, b, s, ha, hb, h⟩ := tvx_has H A B H.length 0 0 0 (by omega)
  have e : (tvx mayA H A B H.length (0, 0, 0)).1 = (tv mayA H A B (0, 0, 0)).1 := rfl
  refine ⟨a, b, s, ha, hb, ?_⟩
  unfold leastV
  omega
/-- With another text the least faults change by the distance at most. -/
theorem leastV_far (H A B O : List Int) : leastV H A B ≤ leastV H A O + distI B O := by
  obtain ⟨a, c, s, ha, hc, h⟩ := leastV_has H A O
  obtain ⟨d, d1, d2, d3⟩ := lc_has B O
  obtain ⟨e, e1, e2, e3⟩ := sub_meet O c d hc d2
  have := leastV_le (s.sub a e (List.Sublist.refl _) e1) ha (e2.trans d1)
  rw [distI_eq]
  omega
/-- A word more. -/
theorem Rd.more (w : Int) {H a b : List Int} (s : Rd H a b) : ∀ p : Nat, Rd (H.take p ++ w :: H.drop p) a b := by
  induction s with
  | nil => intro p; cases p <;> simpa using Rd.noise w .nil
  | noise v s ih =>
    intro p; cases p with
    | zero => exact .noise w (.noise v s)
    | succ p => exact .noise v (ih p)
  | ta v s ih =>
    intro p; cases p with
    | zero => exact .noise w (.ta v s)
    | succ p => exact .ta v (ih p)
  | tb v s ih =>
    intro p; cases p with
    | zero => exact .noise w (.tb v s)
    | succ p => exact .tb v (ih p)
theorem Rd.less (w : Int) : ∀ (p : Nat) (H a b : List Int), Rd (H.take p ++ w :: H.drop p) a b → ∃ a' b', Rd H a' b' ∧ a'.Sublist a ∧ b'.Sublist b ∧ a.length + b.length ≤ a'.length + b'.length + 1
  | 0, H, a, b, s => by
    rw [List.take_zero, List.drop_zero, List.nil_append] at s
    cases s with
    | noise _ s => exact ⟨a, b, s, List.Sublist.refl _, List.Sublist.refl _, by omega⟩
    | ta _ s => exact ⟨_, b, s, List.sublist_cons_self _ _, List.Sublist.refl _, by simp only [List.length_cons]; omega⟩
    | tb _ s => exact ⟨a, _, s, List.Sublist.refl _, List.sublist_cons_self _ _, by simp only [List.length_cons]; omega⟩
  | p + 1, [], a, b, s => by
    rw [List.take_nil, List.drop_nil, List.nil_append] at s
    exact Rd.less w 0 [] a b (by simpa using s)
  | p + 1, v :: H, a, b, s => by
    rw [List.take_succ_cons, List.drop_succ_cons, List.cons_append] at s
    cases s with
    | noise _ s =>
      obtain ⟨a', b', s', h1, h2, h3⟩ := Rd.less w p H a b s
      exact ⟨a', b', .noise v s', h1, h2, h3⟩
    | ta _ s =>
      obtain ⟨a', b', s', h1, h2, h3⟩ := Rd.less w p H _ b s
      exact ⟨v :: a', b', .ta v s', h1.cons_cons _, h2, by simp only [List.length_cons]; omega⟩
    | tb _ s =>
      obtain ⟨a', b', s', h1, h2, h3⟩ := Rd.less w p H a _ s
      exact ⟨a', v :: b', .tb v s', h1, h2.cons_cons _, by simp only [List.length_cons]; omega⟩
theorem leastV_word (H A B : List Int) (w : Int) (p : Nat) : leastV (H.take p ++ w :: H.drop p) A B = leastV H A B + 1 ∨ leastV (H.take p ++ w :: H.drop p) A B = leastV H A B - 1 := by
  obtain ⟨a, b, s, ha, hb, h⟩ := leastV_has H A B
  obtain ⟨c, d, s2, hc, hd, h2⟩ := leastV_has (H.take p ++ w :: H.drop p) A B
  have l1 := leastV_le (s.more w p) ha hb
  obtain ⟨c', d', s3, hc', hd', h3⟩ := s2.less
  have l2 := leastV_le s3 (hc'.trans hc) (hd'.trans hd)
  have e : (H.take p ++ w :: H.drop p).length = H.length + 1 := by simp; omega
  omega
end Go.Proofs.Ytfcnhnbnjdccfaa

namespace Go.Proofs.Ytfcnhnbnjdccfaa
set_option linter.all false
open Go

def musts1_S (N : Nat) (p : Int) (p2 : Int) (u : Int) : Option Bool :=
  br (decide (p = u))
    (some true)
    (some (decide (p2 = u)))
noncomputable def musts1_sp (N : Nat) : List Spec := []
theorem musts1_all (N : Nat) : AllP (SpecOK Try.prog) (musts1_sp N) := trivial
noncomputable def musts1_c : Code := (Try.f102.body).getD .skip
noncomputable abbrev musts1_B : Body := { c := musts1_c, n := 14, res := [.tmp 3], outs := [⟨[.b], []⟩], m0 := 0 }
abbrev musts1_rt : altD musts1_B.outs → Option Bool := fun r => some r.1.1
abbrev musts1_st : Sta := ⟨[0, 1], ⟨[.agg [.i .i64, .i .i64], .fe (.int .i64)], []⟩⟩
theorem musts1_eq (N : Nat) (p : Int) (p2 : Int) (u : Int) : ev (Z := Bool) Try.prog (musts1_sp N) musts1_B [] [] (some musts1_rt) 400 false [.c [0], .c [1]] (stL musts1_st (((p, p2, ()), u, ()), ())) (stH musts1_st (((p, p2, ()), u, ()), ())) = musts1_S N p p2 u := by kernel_rfl
noncomputable def sp_musts1 (N : Nat) : Spec := { f := 102, ins := ⟨[.agg [.i .i64, .i .i64], .fe (.int .i64)], []⟩, outs := [⟨[.b], []⟩], run := fun p k => (musts1_S N p.1.1.1 p.1.1.2.1 p.1.2.1).bind fun r => k ((r, ()), ()) }
theorem sp_musts1_ok (N : Nat) : SpecOK Try.prog (sp_musts1 N) := fn_sound (B := musts1_B) (loops := []) (leaves := []) (fun p => musts1_S N p.1.1.1 p.1.1.2.1 p.1.2.1) (fun r => ((r, ()), ())) musts1_rt (fun _ _ _ => rfl) (fun r z h => by cases h; rfl) Try.func102 (by kernel_rfl) (by kernel_rfl) (by kernel_rfl) rfl rfl (by kernel_rfl) (fun args w => Sem.pv_run _ _ _ (by kernel_rfl) w) (musts1_all N) mixed trivial (fun z E Xc hE hX hret => trivial) (fun p => musts1_eq N p.1.1.1 p.1.1.2.1 p.1.2.1)

def every1m_S (N : Nat) (x : Int) (x2 : Int) (g : Int) : Option (Bool × Int) :=
  (musts1_S N x x2 g).bind fun x_1 =>
  some ((!x_1), g)
noncomputable def every1m_sp (N : Nat) : List Spec := [sp_musts1 N]
theorem every1m_all (N : Nat) : AllP (SpecOK Try.prog) (every1m_sp N) := ⟨sp_musts1_ok N, trivial⟩
noncomputable def every1m_c : Code := (Try.f128.body).getD .skip
noncomputable abbrev every1m_B : Body := { c := every1m_c, n := 8, res := [.tmp 3], outs := [⟨[.b], [.segs [.fn 102 [] [.fe (.int .i64)]]]⟩], m0 := 1 }
abbrev every1m_rt : altD every1m_B.outs → Option (Bool × Int) := fun r => some (r.1.1, r.2.1.1.2.1)
abbrev every1m_st : Sta := ⟨[0, 1], ⟨[.agg [.i .i64, .i .i64], .own 0 0], [.segs [.fn 102 [] [.fe (.int .i64)]]]⟩⟩
theorem every1m_eq (N : Nat) (x : Int) (x2 : Int) (g : Int) : ev (Z := Bool × Int) Try.prog (every1m_sp N) every1m_B [] [] (some every1m_rt) 400 false [.c [0], .c [1]] (stL every1m_st (((x, x2, ()), (), ()), ((((), (g, ())), ()), ()))) (stH every1m_st (((x, x2, ()), (), ()), ((((), (g, ())), ()), ()))) = every1m_S N x x2 g := by kernel_rfl
noncomputable def sp_every1m (N : Nat) : Spec := { f := 128, ins := ⟨[.agg [.i .i64, .i .i64], .own 0 0], [.segs [.fn 102 [] [.fe (.int .i64)]]]⟩, outs := [⟨[.b], [.segs [.fn 102 [] [.fe (.int .i64)]]]⟩], run := fun p k => (every1m_S N p.1.1.1 p.1.1.2.1 p.2.1.1.2.1).bind fun r => k ((r.1, ()), ((((), (r.2, ())), ()), ())) }
theorem sp_every1m_ok (N : Nat) : SpecOK Try.prog (sp_every1m N) := fn_sound (B := every1m_B) (loops := []) (leaves := []) (fun p => every1m_S N p.1.1.1 p.1.1.2.1 p.2.1.1.2.1) (fun r => ((r.1, ()), ((((), (r.2, ())), ()), ()))) every1m_rt (fun _ _ _ => rfl) (fun r z h => by cases h; rfl) Try.func128 (by kernel_rfl) (by kernel_rfl) (by kernel_rfl) rfl rfl (by kernel_rfl) (fun args w => Sem.pv_run _ _ _ (by kernel_rfl) w) (every1m_all N) mixed trivial (fun z E Xc hE hX hret => trivial) (fun p => every1m_eq N p.1.1.1 p.1.1.2.1 p.2.1.1.2.1)

def ixfm_l1 (N : Nat) : Nat → (List (Int × Int)) → Int → Int → Int → Option ((Int × Int) ⊕ (Int))
  | 0, _, _, _, _ => none
  | n_ + 1, s, u, u2, f =>
    br (decide (u2 < u))
      (idx s u2 fun x_1 =>
      (every1m_S N x_1.1 x_1.2 f).bind fun (x_2, y_3) =>
      br x_2
        (some (.inl (u2, y_3)))
        (chk (u2 + 1) <|
        ixfm_l1 N n_ s u (u2 + 1) y_3))
      (some (.inr f))
def ixfm_S (N : Nat) (s : List (Int × Int)) (f : Int) : Option (Int × Int) :=
  (ixfm_l1 N N s (s.length : Int) 0 f).bind fun e => match e with
  | .inl (i_4, g_5) =>
    some (i_4, g_5)
  | .inr g_6 =>
    some (-1, g_6)
noncomputable def ixfm_sp (N : Nat) : List Spec := [sp_every1m N]
theorem ixfm_all (N : Nat) : AllP (SpecOK Try.prog) (ixfm_sp N) := ⟨sp_every1m_ok N, trivial⟩
noncomputable def ixfm_c : Code := (Try.f77.body).getD .skip
noncomputable abbrev ixfm_B : Body := { c := ixfm_c, n := 19, res := [.tmp 4], outs := [⟨[.i .i64], [.segs [.fn 102 [] [.fe (.int .i64)]]]⟩], m0 := 1 }
abbrev ixfm_rt : altD ixfm_B.outs → Option (Int × Int) := fun r => some (r.1.1, r.2.1.1.2.1)
abbrev ixfm_l1_at : List PI := [.c [1, 0, 1, 0, 0, 0], .c [1, 0, 1, 0, 0, 1], .l [1, 0, 1, 0, 0], .b 0, .c [1, 1]]
abbrev ixfm_l1_st : Sta := ⟨[0, 1, 7, 8], ⟨[.sl (.pair (.int .i64) (.int .i64)), .fn 128 [] [.own 0 0], .i .i64, .i .i64], [.segs [.fn 102 [] [.fe (.int .i64)]]]⟩⟩
abbrev ixfm_l1_h (rec : (List (Int × Int)) → Int → Int → Int → Option ((Int × Int) ⊕ (Int))) : Leaf ((Int × Int) ⊕ (Int)) := ⟨ixfm_l1_at, ixfm_l1_st, fun p => rec p.1.1 p.1.2.2.1 p.1.2.2.2.1 p.2.1.1.2.1⟩
abbrev ixfm_l1_e0 : Leaf ((Int × Int) ⊕ (Int)) := ⟨[.c [1, 0, 1, 0, 0, 1, 1, 0, 0, 1, 1, 0, 0], .c [1, 0, 1, 0, 0, 1, 1, 0, 0, 1, 1, 0, 1], .b 1, .c [1, 0, 1, 0, 0, 1, 1, 1], .l [1, 0, 1, 0, 0], .b 0, .c [1, 1]], ⟨[5], ⟨[.i .i64], [.segs [.fn 102 [] [.fe (.int .i64)]]]⟩⟩, fun p => some (.inl (p.1.1, p.2.1.1.2.1))⟩
abbrev ixfm_l1_e1 : Leaf ((Int × Int) ⊕ (Int)) := ⟨[.c [1, 1, 0], .c [1, 1, 1]], ⟨[], ⟨[], [.segs [.fn 102 [] [.fe (.int .i64)]]]⟩⟩, fun p => some (.inr p.2.1.1.2.1)⟩
noncomputable def ixfm_l1_L (N : Nat) : LoopS := { at_ := ixfm_l1_at, sta := ixfm_l1_st, exits := [([.c [1, 0, 1, 0, 0, 1, 1, 0, 0, 1, 1, 0, 0], .c [1, 0, 1, 0, 0, 1, 1, 0, 0, 1, 1, 0, 1], .b 1, .c [1, 0, 1, 0, 0, 1, 1, 1], .l [1, 0, 1, 0, 0], .b 0, .c [1, 1]], ⟨[5], ⟨[.i .i64], [.segs [.fn 102 [] [.fe (.int .i64)]]]⟩⟩), ([.c [1, 1, 0], .c [1, 1, 1]], ⟨[], ⟨[], [.segs [.fn 102 [] [.fe (.int .i64)]]]⟩⟩)], run := fun p k => (ixfm_l1 N N p.1.1 p.1.2.2.1 p.1.2.2.2.1 p.2.1.1.2.1).bind fun e => match e with | .inl x => k (.inl ((x.1, ()), ((((), (x.2, ())), ()), ()))) | .inr x => k (.inr (.inl ((), ((((), (x, ())), ()), ())))) }
theorem ixfm_l1_eq (N n_ : Nat) (s : List (Int × Int)) (u : Int) (u2 : Int) (f : Int) : ev (Z := (Int × Int) ⊕ (Int)) Try.prog (ixfm_sp N) ixfm_B [] [ixfm_l1_h (ixfm_l1 N n_), ixfm_l1_e0, ixfm_l1_e1] none 400 true ixfm_l1_at (stL ixfm_l1_st ((s, ((), ((), ())), u, u2, ()), ((((), (f, ())), ()), ()))) (stH ixfm_l1_st ((s, ((), ((), ())), u, u2, ()), ((((), (f, ())), ()), ()))) = ixfm_l1 N (n_ + 1) s u u2 f := by kernel_rfl
theorem ixfm_l1_ok (N : Nat) {top : Bool} : LoopOK Try.prog ixfm_B.c ixfm_B.n ixfm_B.m0 top (ixfm_l1_L N) := loop_of_ev (Z := (Int × Int) ⊕ (Int)) (N := N) (fun m p => ixfm_l1 N m p.1.1 p.1.2.2.1 p.1.2.2.2.1 p.2.1.1.2.1) (fun e => match e with | .inl x => .inl ((x.1, ()), ((((), (x.2, ())), ()), ())) | .inr x => .inr (.inl ((), ((((), (x, ())), ()), ())))) (fun _ p k => bind_congr_ (ixfm_l1 N N p.1.1 p.1.2.2.1 p.1.2.2.2.1 p.2.1.1.2.1) _ _ (fun e => by rcases e with x | x <;> rfl)) (fun _ => rfl) (fun m z E Xc hE hX hrec hx => leaf_of_ev (B := ixfm_B) (loops := []) (leaves := [ixfm_l1_h (ixfm_l1 N m), ixfm_l1_e0, ixfm_l1_e1]) (ixfm_all N) mixed trivial hE hX ⟨hrec, (fun p hp => by obtain rfl := Option.some.inj hp; exact hx), (fun p hp => by obtain rfl := Option.some.inj hp; exact hx), trivial⟩ RetOK.no (fun p => ixfm_l1_eq N m p.1.1 p.1.2.2.1 p.1.2.2.2.1 p.2.1.1.2.1))
abbrev ixfm_st : Sta := ⟨[0, 1], ⟨[.sl (.pair (.int .i64) (.int .i64)), .fn 128 [] [.own 0 0]], [.segs [.fn 102 [] [.fe (.int .i64)]]]⟩⟩
theorem ixfm_eq (N : Nat) (s : List (Int × Int)) (f : Int) : ev (Z := Int × Int) Try.prog (ixfm_sp N) ixfm_B [ixfm_l1_L N] [] (some ixfm_rt) 400 false [.c [0], .c [1]] (stL ixfm_st ((s, ((), ((), ())), ()), ((((), (f, ())), ()), ()))) (stH ixfm_st ((s, ((), ((), ())), ()), ((((), (f, ())), ()), ()))) = ixfm_S N s f := by kernel_rfl
noncomputable def sp_ixfm (N : Nat) : Spec := { f := 77, ins := ⟨[.sl (.pair (.int .i64) (.int .i64)), .fn 128 [] [.own 0 0]], [.segs [.fn 102 [] [.fe (.int .i64)]]]⟩, outs := [⟨[.i .i64], [.segs [.fn 102 [] [.fe (.int .i64)]]]⟩], run := fun p k => (ixfm_S N p.1.1 p.2.1.1.2.1).bind fun r => k ((r.1, ()), ((((), (r.2, ())), ()), ())) }
theorem sp_ixfm_ok (N : Nat) : SpecOK Try.prog (sp_ixfm N) := fn_sound (B := ixfm_B) (loops := [ixfm_l1_L N]) (leaves := []) (fun p => ixfm_S N p.1.1 p.2.1.1.2.1) (fun r => ((r.1, ()), ((((), (r.2, ())), ()), ()))) ixfm_rt (fun _ _ _ => rfl) (fun r z h => by cases h; rfl) Try.func77 (by kernel_rfl) (by kernel_rfl) (by kernel_rfl) rfl rfl (by kernel_rfl) (fun args w => Sem.pv_run _ _ _ (by kernel_rfl) w) (ixfm_all N) mixed ⟨ixfm_l1_ok N, trivial⟩ (fun z E Xc hE hX hret => trivial) (fun p => ixfm_eq N p.1.1 p.2.1.1.2.1)

def cofm_S (N : Nat) (s : List (Int × Int)) (f : Int) : Option (Bool × Int) :=
  (ixfm_S N s f).bind fun (x_1, y_2) =>
  some ((decide (0 ≤ x_1)), y_2)
noncomputable def cofm_sp (N : Nat) : List Spec := [sp_ixfm N]
theorem cofm_all (N : Nat) : AllP (SpecOK Try.prog) (cofm_sp N) := ⟨sp_ixfm_ok N, trivial⟩
noncomputable def cofm_c : Code := (Try.f24.body).getD .skip
noncomputable abbrev cofm_B : Body := { c := cofm_c, n := 9, res := [.tmp 4], outs := [⟨[.b], [.segs [.fn 102 [] [.fe (.int .i64)]]]⟩], m0 := 1 }
abbrev cofm_rt : altD cofm_B.outs → Option (Bool × Int) := fun r => some (r.1.1, r.2.1.1.2.1)
abbrev cofm_st : Sta := ⟨[0, 1], ⟨[.sl (.pair (.int .i64) (.int .i64)), .fn 128 [] [.own 0 0]], [.segs [.fn 102 [] [.fe (.int .i64)]]]⟩⟩
theorem cofm_eq (N : Nat) (s : List (Int × Int)) (f : Int) : ev (Z := Bool × Int) Try.prog (cofm_sp N) cofm_B [] [] (some cofm_rt) 400 false [.c [0], .c [1]] (stL cofm_st ((s, ((), ((), ())), ()), ((((), (f, ())), ()), ()))) (stH cofm_st ((s, ((), ((), ())), ()), ((((), (f, ())), ()), ()))) = cofm_S N s f := by kernel_rfl
noncomputable def sp_cofm (N : Nat) : Spec := { f := 24, ins := ⟨[.sl (.pair (.int .i64) (.int .i64)), .fn 128 [] [.own 0 0]], [.segs [.fn 102 [] [.fe (.int .i64)]]]⟩, outs := [⟨[.b], [.segs [.fn 102 [] [.fe (.int .i64)]]]⟩], run := fun p k => (cofm_S N p.1.1 p.2.1.1.2.1).bind fun r => k ((r.1, ()), ((((), (r.2, ())), ()), ())) }
theorem sp_cofm_ok (N : Nat) : SpecOK Try.prog (sp_cofm N) := fn_sound (B := cofm_B) (loops := []) (leaves := []) (fun p => cofm_S N p.1.1 p.2.1.1.2.1) (fun r => ((r.1, ()), ((((), (r.2, ())), ()), ()))) cofm_rt (fun _ _ _ => rfl) (fun r z h => by cases h; rfl) Try.func24 (by kernel_rfl) (by kernel_rfl) (by kernel_rfl) rfl rfl (by kernel_rfl) (fun args w => Sem.pv_run _ _ _ (by kernel_rfl) w) (cofm_all N) mixed trivial (fun z E Xc hE hX hret => trivial) (fun p => cofm_eq N p.1.1 p.2.1.1.2.1)

def everym_S (N : Nat) (l : List (Int × Int)) (holds : Int) : Option Bool :=
  (cofm_S N l holds).bind fun (x_1, y_2) =>
  some (!x_1)
noncomputable def everym_sp (N : Nat) : List Spec := [sp_cofm N]
theorem everym_all (N : Nat) : AllP (SpecOK Try.prog) (everym_sp N) := ⟨sp_cofm_ok N, trivial⟩
noncomputable def everym_c : Code := (Try.f101.body).getD .skip
noncomputable abbrev everym_B : Body := { c := everym_c, n := 9, res := [.tmp 4], outs := [⟨[.b], []⟩], m0 := 0 }
abbrev everym_rt : altD everym_B.outs → Option Bool := fun r => some r.1.1
abbrev everym_st : Sta := ⟨[0, 1], ⟨[.sl (.pair (.int .i64) (.int .i64)), .fn 102 [] [.fe (.int .i64)]], []⟩⟩
theorem everym_eq (N : Nat) (l : List (Int × Int)) (holds : Int) : ev (Z := Bool) Try.prog (everym_sp N) everym_B [] [] (some everym_rt) 400 false [.c [0], .c [1]] (stL everym_st ((l, ((), (holds, ())), ()), ())) (stH everym_st ((l, ((), (holds, ())), ()), ())) = everym_S N l holds := by kernel_rfl
noncomputable def sp_everym (N : Nat) : Spec := { f := 101, ins := ⟨[.sl (.pair (.int .i64) (.int .i64)), .fn 102 [] [.fe (.int .i64)]], []⟩, outs := [⟨[.b], []⟩], run := fun p k => (everym_S N p.1.1 p.1.2.1.2.1).bind fun r => k ((r, ()), ()) }
theorem sp_everym_ok (N : Nat) : SpecOK Try.prog (sp_everym N) := fn_sound (B := everym_B) (loops := []) (leaves := []) (fun p => everym_S N p.1.1 p.1.2.1.2.1) (fun r => ((r, ()), ())) everym_rt (fun _ _ _ => rfl) (fun r z h => by cases h; rfl) Try.func101 (by kernel_rfl) (by kernel_rfl) (by kernel_rfl) rfl rfl (by kernel_rfl) (fun args w => Sem.pv_run _ _ _ (by kernel_rfl) w) (everym_all N) mixed trivial (fun z E Xc hE hX hret => trivial) (fun p => everym_eq N p.1.1 p.1.2.1.2.1)

def musts_j1 (N : Nat) (rec : (List (Int × Int)) → Int → Int → (List Int) → Option (List Int)) (l : List (Int × Int)) (u : Int) (u2 : Int) (out : List Int) : Option (List Int) :=
  chk (u2 + 1) <|
  rec l u (u2 + 1) out
def musts_l1 (N : Nat) : Nat → (List (Int × Int)) → Int → Int → (List Int) → Option (List Int)
  | 0, _, _, _, _ => none
  | n_ + 1, l, u, u2, out =>
    br (decide (u2 < u))
      ((everym_S N l u2).bind fun x_3 =>
      br x_3
        (lim (out.length + [u2].length) <|
        musts_j1 N (musts_l1 N n_) l u u2 (out ++ [u2]))
        (musts_j1 N (musts_l1 N n_) l u u2 out))
      (some (out))
def musts_S (N : Nat) (e : List (List Int)) (e2 : List Int) (e3 : Int) : Option (List Int × Int) :=
  (check_S N e e2 e3).bind fun x_1 =>
  br (!decide (x_1 = 0))
    (some ([], x_1))
    ((epairs_S N e e2 e3).bind fun x_2 =>
    br (decide ((x_2.length : Int) = 0))
      (some ([], 6))
      ((musts_l1 N N x_2 (e.length : Int) 0 []).bind fun out_4 =>
      some (out_4, 0)))
noncomputable def musts_sp (N : Nat) : List Spec := [sp_check N, sp_epairs N, sp_everym N]
theorem musts_all (N : Nat) : AllP (SpecOK Try.prog) (musts_sp N) := ⟨sp_check_ok N, sp_epairs_ok N, sp_everym_ok N, trivial⟩
noncomputable def musts_c : Code := (Try.f58.body).getD .skip
noncomputable abbrev musts_B : Body := { c := musts_c, n := 33, res := [.tmp 2, .tmp 3], outs := [⟨[.sl (.int .i64), .i .i64], []⟩], m0 := 0 }
abbrev musts_rt : altD musts_B.outs → Option (List Int × Int) := fun r => some (r.1.1, r.1.2.1)
abbrev musts_l1_at : List PI := [.c [1, 1, 1, 1, 1, 0, 1, 0, 0, 0], .c [1, 1, 1, 1, 1, 0, 1, 0, 0, 1], .l [1, 1, 1, 1, 1, 0, 1, 0, 0], .b 0, .c [1, 1, 1, 1, 1, 1]]
abbrev musts_l1_st : Sta := ⟨[5, 6, 20, 21], ⟨[.sl (.pair (.int .i64) (.int .i64)), .ols 0, .i .i64, .i .i64], [.lst (.int .i64)]⟩⟩
abbrev musts_l1_h (rec : (List (Int × Int)) → Int → Int → (List Int) → Option (List Int)) : Leaf (List Int) := ⟨musts_l1_at, musts_l1_st, fun p => rec p.1.1 p.1.2.2.1 p.1.2.2.2.1 p.2.1⟩
abbrev musts_l1_e0 : Leaf (List Int) := ⟨[.c [1, 1, 1, 1, 1, 1, 0], .c [1, 1, 1, 1, 1, 1, 1]], ⟨[6], ⟨[.ols 0], [.lst (.int .i64)]⟩⟩, fun p => some (p.2.1)⟩
abbrev musts_j1_at : List PI := [.c [1, 1, 1, 1, 1, 0, 1, 0, 0, 1, 1, 1], .l [1, 1, 1, 1, 1, 0, 1, 0, 0], .b 0, .c [1, 1, 1, 1, 1, 1]]
abbrev musts_j1_st : Sta := ⟨[5, 6, 20, 21], ⟨[.sl (.pair (.int .i64) (.int .i64)), .ols 0, .i .i64, .i .i64], [.lst (.int .i64)]⟩⟩
abbrev musts_j1_k (N : Nat) (rec : (List (Int × Int)) → Int → Int → (List Int) → Option (List Int)) : Leaf (List Int) := ⟨musts_j1_at, musts_j1_st, fun p => musts_j1 N rec p.1.1 p.1.2.2.1 p.1.2.2.2.1 p.2.1⟩
theorem musts_j1_eq (N : Nat) (rec : (List (Int × Int)) → Int → Int → (List Int) → Option (List Int)) (l : List (Int × Int)) (u : Int) (u2 : Int) (out : List Int) : ev (Z := List Int) Try.prog (musts_sp N) musts_B [] [musts_l1_h rec, musts_l1_e0] none 400 true musts_j1_at (stL musts_j1_st ((l, (), u, u2, ()), (out, ()))) (stH musts_j1_st ((l, (), u, u2, ()), (out, ()))) = musts_j1 N rec l u u2 out := by kernel_rfl
theorem musts_j1_lf (N : Nat) (rec : (List (Int × Int)) → Int → Int → (List Int) → Option (List Int)) {z : List Int} {top : Bool} {E : EE} {Xc : Ctx} (hE : EOK musts_B.m0 E) (hX : CxOK top Xc) (hrec : LeafOK Try.prog musts_B.c musts_B.n musts_B.m0 E Xc z (musts_l1_h rec)) (h0 : LeafOK Try.prog musts_B.c musts_B.n musts_B.m0 E Xc z musts_l1_e0) : LeafOK Try.prog musts_B.c musts_B.n musts_B.m0 E Xc z (musts_j1_k N rec) := leaf_of_ev (B := musts_B) (loops := []) (leaves := [musts_l1_h rec, musts_l1_e0]) (musts_all N) mixed trivial hE hX ⟨hrec, h0, trivial⟩ RetOK.no (fun p => musts_j1_eq N rec p.1.1 p.1.2.2.1 p.1.2.2.2.1 p.2.1)
noncomputable def musts_l1_L (N : Nat) : LoopS := { at_ := musts_l1_at, sta := musts_l1_st, exits := [([.c [1, 1, 1, 1, 1, 1, 0], .c [1, 1, 1, 1, 1, 1, 1]], ⟨[6], ⟨[.ols 0], [.lst (.int .i64)]⟩⟩)], run := fun p k => (musts_l1 N N p.1.1 p.1.2.2.1 p.1.2.2.2.1 p.2.1).bind fun e => k (.inl (((), ()), (e, ()))) }
theorem musts_l1_eq (N n_ : Nat) (l : List (Int × Int)) (u : Int) (u2 : Int) (out : List Int) : ev (Z := List Int) Try.prog (musts_sp N) musts_B [] [musts_l1_h (musts_l1 N n_), musts_l1_e0, musts_j1_k N (musts_l1 N n_)] none 400 true musts_l1_at (stL musts_l1_st ((l, (), u, u2, ()), (out, ()))) (stH musts_l1_st ((l, (), u, u2, ()), (out, ()))) = musts_l1 N (n_ + 1) l u u2 out := by kernel_rfl
theorem musts_l1_ok (N : Nat) {top : Bool} : LoopOK Try.prog musts_B.c musts_B.n musts_B.m0 top (musts_l1_L N) := loop_of_ev (Z := List Int) (N := N) (fun m p => musts_l1 N m p.1.1 p.1.2.2.1 p.1.2.2.2.1 p.2.1) (fun e => .inl (((), ()), (e, ()))) (fun _ _ _ => rfl) (fun _ => rfl) (fun m z E Xc hE hX hrec hx => leaf_of_ev (B := musts_B) (loops := []) (leaves := [musts_l1_h (musts_l1 N m), musts_l1_e0, musts_j1_k N (musts_l1 N m)]) (musts_all N) mixed trivial hE hX ⟨hrec, (fun p hp => by obtain rfl := Option.some.inj hp; exact hx), musts_j1_lf N _ hE hX hrec (fun p hp => by obtain rfl := Option.some.inj hp; exact hx), trivial⟩ RetOK.no (fun p => musts_l1_eq N m p.1.1 p.1.2.2.1 p.1.2.2.2.1 p.2.1))
abbrev musts_st : Sta := ⟨[0], ⟨[.agg [.sl (.sl (.int .i64)), .sl (.int .i64), .i .i64]], []⟩⟩
theorem musts_eq (N : Nat) (e : List (List Int)) (e2 : List Int) (e3 : Int) : ev (Z := List Int × Int) Try.prog (musts_sp N) musts_B [musts_l1_L N] [] (some musts_rt) 400 false [.c [0], .c [1]] (stL musts_st (((e, e2, e3, ()), ()), ())) (stH musts_st (((e, e2, e3, ()), ()), ())) = musts_S N e e2 e3 := by kernel_rfl
noncomputable def sp_musts (N : Nat) : Spec := { f := 58, ins := ⟨[.agg [.sl (.sl (.int .i64)), .sl (.int .i64), .i .i64]], []⟩, outs := [⟨[.sl (.int .i64), .i .i64], []⟩], run := fun p k => (musts_S N p.1.1.1 p.1.1.2.1 p.1.1.2.2.1).bind fun r => k ((r.1, r.2, ()), ()) }
theorem sp_musts_ok (N : Nat) : SpecOK Try.prog (sp_musts N) := fn_sound (B := musts_B) (loops := [musts_l1_L N]) (leaves := []) (fun p => musts_S N p.1.1.1 p.1.1.2.1 p.1.1.2.2.1) (fun r => ((r.1, r.2, ()), ())) musts_rt (fun _ _ _ => rfl) (fun r z h => by cases h; rfl) Try.func58 (by kernel_rfl) (by kernel_rfl) (by kernel_rfl) rfl rfl (by kernel_rfl) (fun args w => Sem.pv_run _ _ _ (by kernel_rfl) w) (musts_all N) mixed ⟨musts_l1_ok N, trivial⟩ (fun z E Xc hE hX hret => trivial) (fun p => musts_eq N p.1.1.1 p.1.1.2.1 p.1.1.2.2.1)

def eother_l2 (N : Nat) : Nat → Int → (List (Int × Int)) → (List Int) → Bool → Int → (List (Int × Int)) → Int → Int → Int → Int → (List (List Int)) → (List Int) → Int → Int → Int → Int → Int → Option ((Unit) ⊕ (Int × (List (Int × Int)) × List Int × Bool × (List (Int × Int)) × Int × Int × List (List Int) × List Int × Int × Int × Int))
  | 0, _, _, _, _, _, _, _, _, _, _, _, _, _, _, _, _, _ => none
  | n_ + 1, least, can, musts, met, n, u, u2, u3, u4, u5, x, x2, x3, best, best2, p, p2 =>
    br (decide (u5 < u4))
      ((least_S N x x2 x3 p u5).bind fun (x_22, y_23) =>
      (dist_S N x x2 x3 p2 u5).bind fun (x_24, y_25) =>
      br (!decide (y_23 = 0))
        (some (.inl ()))
        (br (!decide (y_25 = 0))
          (some (.inl ()))
          (chk (n + x_24) <|
          br (decide ((n + x_24) < x_22))
            (some (.inl ()))
            (chk (x_22 + x_24) <|
            br (decide ((x_22 + x_24) < n))
              (some (.inl ()))
              (chk (u5 + 1) <|
              eother_l2 N n_ least can musts met n u u2 u3 u4 (u5 + 1) x x2 x3 best best2 p p2)))))
      (some (.inr (least, can, musts, met, u, u2, u3, x, x2, x3, best, best2)))
def eother_l1 (N : Nat) : Nat → Int → (List (Int × Int)) → (List Int) → Bool → (List (Int × Int)) → Int → Int → (List (List Int)) → (List Int) → Int → Int → Int → Option ((Unit) ⊕ ((Unit) ⊕ ((List (Int × Int)) × List Int × Bool × List (List Int) × List Int × Int)))
  | 0, _, _, _, _, _, _, _, _, _, _, _, _ => none
  | n_ + 1, least, can, musts, met, u, u2, u3, x, x2, x3, best, best2 =>
    br (decide (u3 < u2))
      (idx u u3 fun x_19 =>
      (least_S N x x2 x3 x_19.1 x_19.2).bind fun (x_20, y_21) =>
      br (!decide (y_21 = 0))
        (some (.inl ()))
        (br (decide (x_20 < least))
          (some (.inl ()))
          (br (decide (x_19.1 = best) && decide (x_19.2 = best2))
            (br (!decide (x_20 = least))
              (some (.inl ()))
              (br (decide (x_20 = least))
                (br (!met)
                  (br (!(decide (x_19.1 = best) && decide (x_19.2 = best2)))
                    (some (.inl ()))
                    (br met
                      ((eother_l2 N N least can musts true x_20 u u2 u3 (x.length : Int) 0 x x2 x3 best best2 x_19.1 x_19.2).bind fun e => match e with
                      | .inl _ =>
                        some (.inr (.inl ()))
                      | .inr (least_26, can_27, musts_28, met_29, u_30, u2_31, u3_32, x_33, x2_34, x3_35, best_36, best2_37) =>
                        chk (u3_32 + 1) <|
                        eother_l1 N n_ least_26 can_27 musts_28 met_29 u_30 u2_31 (u3_32 + 1) x_33 x2_34 x3_35 best_36 best2_37)
                      ((eother_l2 N N least can musts (decide (x_19.1 = best) && decide (x_19.2 = best2)) x_20 u u2 u3 (x.length : Int) 0 x x2 x3 best best2 x_19.1 x_19.2).bind fun e => match e with
                      | .inl _ =>
                        some (.inr (.inl ()))
                      | .inr (least_38, can_39, musts_40, met_41, u_42, u2_43, u3_44, x_45, x2_46, x3_47, best_48, best2_49) =>
                        chk (u3_44 + 1) <|
                        eother_l1 N n_ least_38 can_39 musts_40 met_41 u_42 u2_43 (u3_44 + 1) x_45 x2_46 x3_47 best_48 best2_49)))
                  (br met
                    ((eother_l2 N N least can musts true x_20 u u2 u3 (x.length : Int) 0 x x2 x3 best best2 x_19.1 x_19.2).bind fun e => match e with
                    | .inl _ =>
                      some (.inr (.inl ()))
                    | .inr (least_50, can_51, musts_52, met_53, u_54, u2_55, u3_56, x_57, x2_58, x3_59, best_60, best2_61) =>
                      chk (u3_56 + 1) <|
                      eother_l1 N n_ least_50 can_51 musts_52 met_53 u_54 u2_55 (u3_56 + 1) x_57 x2_58 x3_59 best_60 best2_61)
                    ((eother_l2 N N least can musts (decide (x_19.1 = best) && decide (x_19.2 = best2)) x_20 u u2 u3 (x.length : Int) 0 x x2 x3 best best2 x_19.1 x_19.2).bind fun e => match e with
                    | .inl _ =>
                      some (.inr (.inl ()))
                    | .inr (least_62, can_63, musts_64, met_65, u_66, u2_67, u3_68, x_69, x2_70, x3_71, best_72, best2_73) =>
                      chk (u3_68 + 1) <|
                      eother_l1 N n_ least_62 can_63 musts_64 met_65 u_66 u2_67 (u3_68 + 1) x_69 x2_70 x3_71 best_72 best2_73)))
                (br met
                  ((eother_l2 N N least can musts true x_20 u u2 u3 (x.length : Int) 0 x x2 x3 best best2 x_19.1 x_19.2).bind fun e => match e with
                  | .inl _ =>
                    some (.inr (.inl ()))
                  | .inr (least_74, can_75, musts_76, met_77, u_78, u2_79, u3_80, x_81, x2_82, x3_83, best_84, best2_85) =>
                    chk (u3_80 + 1) <|
                    eother_l1 N n_ least_74 can_75 musts_76 met_77 u_78 u2_79 (u3_80 + 1) x_81 x2_82 x3_83 best_84 best2_85)
                  ((eother_l2 N N least can musts (decide (x_19.1 = best) && decide (x_19.2 = best2)) x_20 u u2 u3 (x.length : Int) 0 x x2 x3 best best2 x_19.1 x_19.2).bind fun e => match e with
                  | .inl _ =>
                    some (.inr (.inl ()))
                  | .inr (least_86, can_87, musts_88, met_89, u_90, u2_91, u3_92, x_93, x2_94, x3_95, best_96, best2_97) =>
                    chk (u3_92 + 1) <|
                    eother_l1 N n_ least_86 can_87 musts_88 met_89 u_90 u2_91 (u3_92 + 1) x_93 x2_94 x3_95 best_96 best2_97))))
            (br (decide (x_20 = least))
              (br (!met)
                (br (!(decide (x_19.1 = best) && decide (x_19.2 = best2)))
                  (some (.inl ()))
                  (br met
                    ((eother_l2 N N least can musts true x_20 u u2 u3 (x.length : Int) 0 x x2 x3 best best2 x_19.1 x_19.2).bind fun e => match e with
                    | .inl _ =>
                      some (.inr (.inl ()))
                    | .inr (least_98, can_99, musts_100, met_101, u_102, u2_103, u3_104, x_105, x2_106, x3_107, best_108, best2_109) =>
                      chk (u3_104 + 1) <|
                      eother_l1 N n_ least_98 can_99 musts_100 met_101 u_102 u2_103 (u3_104 + 1) x_105 x2_106 x3_107 best_108 best2_109)
                    ((eother_l2 N N least can musts (decide (x_19.1 = best) && decide (x_19.2 = best2)) x_20 u u2 u3 (x.length : Int) 0 x x2 x3 best best2 x_19.1 x_19.2).bind fun e => match e with
                    | .inl _ =>
                      some (.inr (.inl ()))
                    | .inr (least_110, can_111, musts_112, met_113, u_114, u2_115, u3_116, x_117, x2_118, x3_119, best_120, best2_121) =>
                      chk (u3_116 + 1) <|
                      eother_l1 N n_ least_110 can_111 musts_112 met_113 u_114 u2_115 (u3_116 + 1) x_117 x2_118 x3_119 best_120 best2_121)))
                (br met
                  ((eother_l2 N N least can musts true x_20 u u2 u3 (x.length : Int) 0 x x2 x3 best best2 x_19.1 x_19.2).bind fun e => match e with
                  | .inl _ =>
                    some (.inr (.inl ()))
                  | .inr (least_122, can_123, musts_124, met_125, u_126, u2_127, u3_128, x_129, x2_130, x3_131, best_132, best2_133) =>
                    chk (u3_128 + 1) <|
                    eother_l1 N n_ least_122 can_123 musts_124 met_125 u_126 u2_127 (u3_128 + 1) x_129 x2_130 x3_131 best_132 best2_133)
                  ((eother_l2 N N least can musts (decide (x_19.1 = best) && decide (x_19.2 = best2)) x_20 u u2 u3 (x.length : Int) 0 x x2 x3 best best2 x_19.1 x_19.2).bind fun e => match e with
                  | .inl _ =>
                    some (.inr (.inl ()))
                  | .inr (least_134, can_135, musts_136, met_137, u_138, u2_139, u3_140, x_141, x2_142, x3_143, best_144, best2_145) =>
                    chk (u3_140 + 1) <|
                    eother_l1 N n_ least_134 can_135 musts_136 met_137 u_138 u2_139 (u3_140 + 1) x_141 x2_142 x3_143 best_144 best2_145)))
              (br met
                ((eother_l2 N N least can musts true x_20 u u2 u3 (x.length : Int) 0 x x2 x3 best best2 x_19.1 x_19.2).bind fun e => match e with
                | .inl _ =>
                  some (.inr (.inl ()))
                | .inr (least_146, can_147, musts_148, met_149, u_150, u2_151, u3_152, x_153, x2_154, x3_155, best_156, best2_157) =>
                  chk (u3_152 + 1) <|
                  eother_l1 N n_ least_146 can_147 musts_148 met_149 u_150 u2_151 (u3_152 + 1) x_153 x2_154 x3_155 best_156 best2_157)
                ((eother_l2 N N least can musts (decide (x_19.1 = best) && decide (x_19.2 = best2)) x_20 u u2 u3 (x.length : Int) 0 x x2 x3 best best2 x_19.1 x_19.2).bind fun e => match e with
                | .inl _ =>
                  some (.inr (.inl ()))
                | .inr (least_158, can_159, musts_160, met_161, u_162, u2_163, u3_164, x_165, x2_166, x3_167, best_168, best2_169) =>
                  chk (u3_164 + 1) <|
                  eother_l1 N n_ least_158 can_159 musts_160 met_161 u_162 u2_163 (u3_164 + 1) x_165 x2_166 x3_167 best_168 best2_169))))))
      (some (.inr (.inr (can, musts, met, x, x2, x3))))
def eother_l4 (N : Nat) : Nat → (List (Int × Int)) → (List Int) → Bool → Int → Bool → Int → Int → (List (Int × Int)) → Int → Int → (List (List Int)) → (List Int) → Int → Option ((List (Int × Int)) × List Int × Bool × Int × Bool × Int × Int × List (List Int) × List Int × Int)
  | 0, _, _, _, _, _, _, _, _, _, _, _, _, _ => none
  | n_ + 1, can, musts, met, t, all, u, u2, u3, u4, u5, x, x2, x3 =>
    br (decide (u5 < u4))
      (idx u3 u5 fun x_176 =>
      br all
        (br (decide (x_176.1 = t))
          (chk (u5 + 1) <|
          eother_l4 N n_ can musts met t true u u2 u3 u4 (u5 + 1) x x2 x3)
          (chk (u5 + 1) <|
          eother_l4 N n_ can musts met t (decide (x_176.2 = t)) u u2 u3 u4 (u5 + 1) x x2 x3))
        (chk (u5 + 1) <|
        eother_l4 N n_ can musts met t false u u2 u3 u4 (u5 + 1) x x2 x3))
      (some ((can, musts, met, t, all, u, u2, x, x2, x3)))
def eother_l5 (N : Nat) : Nat → (List (Int × Int)) → (List Int) → Bool → Int → (List Int) → Int → Int → Int → Int → (List (List Int)) → (List Int) → Int → Option ((Unit) ⊕ ((List (Int × Int)) × List Int × Bool × Int × Int × List (List Int) × List Int × Int))
  | 0, _, _, _, _, _, _, _, _, _, _, _, _ => none
  | n_ + 1, can, musts, met, t, l, u, u2, u3, u4, x, x2, x3 =>
    br (decide (u4 < u3))
      ((containsi_S N l u4).bind fun x_190 =>
      (containsp_S N can (min t u4) (max t u4)).bind fun x_191 =>
      br (!(x_190 == x_191))
        (some (.inl ()))
        (chk (u4 + 1) <|
        eother_l5 N n_ can musts met t l u u2 u3 (u4 + 1) x x2 x3))
      (some (.inr (can, musts, met, u, u2, x, x2, x3)))
def eother_l3 (N : Nat) : Nat → (List (Int × Int)) → (List Int) → Bool → Int → Int → (List (List Int)) → (List Int) → Int → Option ((Unit) ⊕ ((Unit) ⊕ (Bool)))
  | 0, _, _, _, _, _, _, _, _ => none
  | n_ + 1, can, musts, met, u, u2, x, x2, x3 =>
    br (decide (u2 < u))
      ((eother_l4 N N can musts met u2 (decide (0 < (can.length : Int))) u u2 can (can.length : Int) 0 x x2 x3).bind fun (can_177, musts_178, met_179, t_180, all_181, u_182, u2_183, x_184, x2_185, x3_186) =>
      (with__S N x_184 x2_185 x3_186 t_180).bind fun (x_187, y_188) =>
      br (!decide (y_188 = 0))
        (some (.inl ()))
        ((containsi_S N musts_178 t_180).bind fun x_189 =>
        br (!(all_181 == x_189))
          (some (.inl ()))
          ((eother_l5 N N can_177 musts_178 met_179 t_180 x_187 u_182 u2_183 (x_184.length : Int) 0 x_184 x2_185 x3_186).bind fun e => match e with
          | .inl _ =>
            some (.inr (.inl ()))
          | .inr (can_192, musts_193, met_194, u_195, u2_196, x_197, x2_198, x3_199) =>
            chk (u2_196 + 1) <|
            eother_l3 N n_ can_192 musts_193 met_194 u_195 (u2_196 + 1) x_197 x2_198 x3_199)))
      (some (.inr (.inr met)))
def eother_S (N : Nat) (numbers : List Int) : Option Bool :=
  (hang_S N numbers).bind fun (x_1, y_2, y_3) =>
  (made_S N 4 5 8 x_1 y_2 y_3).bind fun (x_4, y_5, y_6, y_7, y_8, y_9) =>
  (closest_S N x_4 y_5 y_6).bind fun (x_10, y_11, y_12, y_13) =>
  (pairs_S N x_4 y_5 y_6).bind fun (x_14, y_15) =>
  (musts_S N x_4 y_5 y_6).bind fun (x_16, y_17) =>
  br (!decide (y_13 = 0))
    (some false)
    (br (!decide (y_15 = 0))
      (some false)
      (br (!((decide (y_17 = 6)) == (decide ((x_14.length : Int) = 0))))
        (some false)
        (br (!decide (y_17 = 0))
          (br (!decide (y_17 = 6))
            (some false)
            ((lpairs_S N x_4 y_5 y_6).bind fun x_18 =>
            (eother_l1 N N y_12 x_14 x_16 false x_18 (x_18.length : Int) 0 x_4 y_5 y_6 x_10 y_11).bind fun e => match e with
            | .inl _ =>
              some false
            | .inr (.inl _) =>
              some false
            | .inr (.inr (can_170, musts_171, met_172, x_173, x2_174, x3_175)) =>
              (eother_l3 N N can_170 musts_171 met_172 (x_173.length : Int) 0 x_173 x2_174 x3_175).bind fun e => match e with
              | .inl _ =>
                some false
              | .inr (.inl _) =>
                some false
              | .inr (.inr met_200) =>
                br met_200
                  ((awake_S N).bind fun x_201 =>
                  some x_201)
                  (some false)))
          ((lpairs_S N x_4 y_5 y_6).bind fun x_202 =>
          (eother_l1 N N y_12 x_14 x_16 false x_202 (x_202.length : Int) 0 x_4 y_5 y_6 x_10 y_11).bind fun e => match e with
          | .inl _ =>
            some false
          | .inr (.inl _) =>
            some false
          | .inr (.inr (can_203, musts_204, met_205, x_206, x2_207, x3_208)) =>
            (eother_l3 N N can_203 musts_204 met_205 (x_206.length : Int) 0 x_206 x2_207 x3_208).bind fun e => match e with
            | .inl _ =>
              some false
            | .inr (.inl _) =>
              some false
            | .inr (.inr met_209) =>
              br met_209
                ((awake_S N).bind fun x_210 =>
                some x_210)
                (some false)))))
noncomputable def eother_sp (N : Nat) : List Spec := [sp_hang N, sp_dist N, sp_least N, sp_pairs N, sp_with_ N, sp_closest N, sp_containsp N, sp_containsi N, sp_awake N, sp_made N, sp_lpairs N, sp_musts N]
theorem eother_all (N : Nat) : AllP (SpecOK Try.prog) (eother_sp N) := ⟨sp_hang_ok N, sp_dist_ok N, sp_least_ok N, sp_pairs_ok N, sp_with__ok N, sp_closest_ok N, sp_containsp_ok N, sp_containsi_ok N, sp_awake_ok N, sp_made_ok N, sp_lpairs_ok N, sp_musts_ok N, trivial⟩
noncomputable def eother_c : Code := (Try.f10.body).getD .skip
noncomputable abbrev eother_B : Body := { c := eother_c, n := 233, res := [.tmp 2], outs := [⟨[.b], []⟩], m0 := 0 }
abbrev eother_rt : altD eother_B.outs → Option Bool := fun r => some r.1.1
abbrev eother_l2_at : List PI := [.c [1, 1, 1, 1, 1, 1, 1, 0, 1, 0, 0, 1, 1, 0, 0, 1, 1, 1, 1, 1, 0, 0, 0], .c [1, 1, 1, 1, 1, 1, 1, 0, 1, 0, 0, 1, 1, 0, 0, 1, 1, 1, 1, 1, 0, 0, 1], .l [1, 1, 1, 1, 1, 1, 1, 0, 1, 0, 0, 1, 1, 0, 0, 1, 1, 1, 1, 1, 0, 0], .b 2, .b 1, .c [1, 1, 1, 1, 1, 1, 1, 0, 1, 0, 0, 1, 1, 1], .l [1, 1, 1, 1, 1, 1, 1, 0, 1, 0, 0], .b 0, .c [1, 1, 1, 1, 1, 1, 1, 1]]
abbrev eother_l2_st : Sta := ⟨[3, 4, 5, 7, 9, 11, 13, 14, 70, 71, 72, 121, 122], ⟨[.own 0 0, .own 1 0, .i .i64, .sl (.pair (.int .i64) (.int .i64)), .sl (.int .i64), .b, .own 2 0, .i .i64, .sl (.pair (.int .i64) (.int .i64)), .i .i64, .i .i64, .i .i64, .i .i64], [.segs [.sl (.sl (.int .i64)), .sl (.int .i64), .i .i64], .segs [.i .i64, .i .i64], .segs [.i .i64, .i .i64]]⟩⟩
abbrev eother_l2_h (rec : Int → (List (Int × Int)) → (List Int) → Bool → Int → (List (Int × Int)) → Int → Int → Int → Int → (List (List Int)) → (List Int) → Int → Int → Int → Int → Int → Option ((Unit) ⊕ (Int × (List (Int × Int)) × List Int × Bool × (List (Int × Int)) × Int × Int × List (List Int) × List Int × Int × Int × Int))) : Leaf ((Unit) ⊕ (Int × (List (Int × Int)) × List Int × Bool × (List (Int × Int)) × Int × Int × List (List Int) × List Int × Int × Int × Int)) := ⟨eother_l2_at, eother_l2_st, fun p => rec p.1.2.2.1 p.1.2.2.2.1 p.1.2.2.2.2.1 p.1.2.2.2.2.2.1 p.1.2.2.2.2.2.2.2.1 p.1.2.2.2.2.2.2.2.2.1 p.1.2.2.2.2.2.2.2.2.2.1 p.1.2.2.2.2.2.2.2.2.2.2.1 p.1.2.2.2.2.2.2.2.2.2.2.2.1 p.1.2.2.2.2.2.2.2.2.2.2.2.2.1 p.2.1.1 p.2.1.2.1 p.2.1.2.2.1 p.2.2.1.1 p.2.2.1.2.1 p.2.2.2.1.1 p.2.2.2.1.2.1⟩
abbrev eother_l2_e0 : Leaf ((Unit) ⊕ (Int × (List (Int × Int)) × List Int × Bool × (List (Int × Int)) × Int × Int × List (List Int) × List Int × Int × Int × Int)) := ⟨[.c [1, 1, 1, 1, 1, 1, 1, 0, 1, 0, 0, 1, 1, 0, 0, 1, 1, 1, 1, 1, 0, 0, 1, 1, 0, 0, 1, 1, 1, 1, 0, 0], .c [1, 1, 1, 1, 1, 1, 1, 0, 1, 0, 0, 1, 1, 0, 0, 1, 1, 1, 1, 1, 0, 0, 1, 1, 0, 0, 1, 1, 1, 1, 0, 1], .b 3, .c [1, 1, 1, 1, 1, 1, 1, 0, 1, 0, 0, 1, 1, 0, 0, 1, 1, 1, 1, 1, 0, 0, 1, 1, 1], .l [1, 1, 1, 1, 1, 1, 1, 0, 1, 0, 0, 1, 1, 0, 0, 1, 1, 1, 1, 1, 0, 0], .b 2, .b 1, .c [1, 1, 1, 1, 1, 1, 1, 0, 1, 0, 0, 1, 1, 1], .l [1, 1, 1, 1, 1, 1, 1, 0, 1, 0, 0], .b 0, .c [1, 1, 1, 1, 1, 1, 1, 1]], ⟨[], ⟨[], []⟩⟩, fun p => some (.inl ())⟩
abbrev eother_l2_e1 : Leaf ((Unit) ⊕ (Int × (List (Int × Int)) × List Int × Bool × (List (Int × Int)) × Int × Int × List (List Int) × List Int × Int × Int × Int)) := ⟨[.c [1, 1, 1, 1, 1, 1, 1, 0, 1, 0, 0, 1, 1, 1], .l [1, 1, 1, 1, 1, 1, 1, 0, 1, 0, 0], .b 0, .c [1, 1, 1, 1, 1, 1, 1, 1]], ⟨[3, 4, 5, 7, 9, 11, 70, 71, 72], ⟨[.own 0 0, .own 1 0, .i .i64, .sl (.pair (.int .i64) (.int .i64)), .sl (.int .i64), .b, .sl (.pair (.int .i64) (.int .i64)), .i .i64, .i .i64], [.segs [.sl (.sl (.int .i64)), .sl (.int .i64), .i .i64], .segs [.i .i64, .i .i64]]⟩⟩, fun p => some (.inr (p.1.2.2.1, p.1.2.2.2.1, p.1.2.2.2.2.1, p.1.2.2.2.2.2.1, p.1.2.2.2.2.2.2.1, p.1.2.2.2.2.2.2.2.1, p.1.2.2.2.2.2.2.2.2.1, p.2.1.1, p.2.1.2.1, p.2.1.2.2.1, p.2.2.1.1, p.2.2.1.2.1))⟩
noncomputable def eother_l2_L (N : Nat) : LoopS := { at_ := eother_l2_at, sta := eother_l2_st, exits := [([.c [1, 1, 1, 1, 1, 1, 1, 0, 1, 0, 0, 1, 1, 0, 0, 1, 1, 1, 1, 1, 0, 0, 1, 1, 0, 0, 1, 1, 1, 1, 0, 0], .c [1, 1, 1, 1, 1, 1, 1, 0, 1, 0, 0, 1, 1, 0, 0, 1, 1, 1, 1, 1, 0, 0, 1, 1, 0, 0, 1, 1, 1, 1, 0, 1], .b 3, .c [1, 1, 1, 1, 1, 1, 1, 0, 1, 0, 0, 1, 1, 0, 0, 1, 1, 1, 1, 1, 0, 0, 1, 1, 1], .l [1, 1, 1, 1, 1, 1, 1, 0, 1, 0, 0, 1, 1, 0, 0, 1, 1, 1, 1, 1, 0, 0], .b 2, .b 1, .c [1, 1, 1, 1, 1, 1, 1, 0, 1, 0, 0, 1, 1, 1], .l [1, 1, 1, 1, 1, 1, 1, 0, 1, 0, 0], .b 0, .c [1, 1, 1, 1, 1, 1, 1, 1]], ⟨[], ⟨[], []⟩⟩), ([.c [1, 1, 1, 1, 1, 1, 1, 0, 1, 0, 0, 1, 1, 1], .l [1, 1, 1, 1, 1, 1, 1, 0, 1, 0, 0], .b 0, .c [1, 1, 1, 1, 1, 1, 1, 1]], ⟨[3, 4, 5, 7, 9, 11, 70, 71, 72], ⟨[.own 0 0, .own 1 0, .i .i64, .sl (.pair (.int .i64) (.int .i64)), .sl (.int .i64), .b, .sl (.pair (.int .i64) (.int .i64)), .i .i64, .i .i64], [.segs [.sl (.sl (.int .i64)), .sl (.int .i64), .i .i64], .segs [.i .i64, .i .i64]]⟩⟩)], run := fun p k => (eother_l2 N N p.1.2.2.1 p.1.2.2.2.1 p.1.2.2.2.2.1 p.1.2.2.2.2.2.1 p.1.2.2.2.2.2.2.2.1 p.1.2.2.2.2.2.2.2.2.1 p.1.2.2.2.2.2.2.2.2.2.1 p.1.2.2.2.2.2.2.2.2.2.2.1 p.1.2.2.2.2.2.2.2.2.2.2.2.1 p.1.2.2.2.2.2.2.2.2.2.2.2.2.1 p.2.1.1 p.2.1.2.1 p.2.1.2.2.1 p.2.2.1.1 p.2.2.1.2.1 p.2.2.2.1.1 p.2.2.2.1.2.1).bind fun e => match e with | .inl x => k (.inl ((), ())) | .inr x => k (.inr (.inl (((), (), x.1, x.2.1, x.2.2.1, x.2.2.2.1, x.2.2.2.2.1, x.2.2.2.2.2.1, x.2.2.2.2.2.2.1, ()), ((x.2.2.2.2.2.2.2.1, x.2.2.2.2.2.2.2.2.1, x.2.2.2.2.2.2.2.2.2.1, ()), (x.2.2.2.2.2.2.2.2.2.2.1, x.2.2.2.2.2.2.2.2.2.2.2, ()), ())))) }
theorem eother_l2_eq (N n_ : Nat) (least : Int) (can : List (Int × Int)) (musts : List Int) (met : Bool) (n : Int) (u : List (Int × Int)) (u2 : Int) (u3 : Int) (u4 : Int) (u5 : Int) (x : List (List Int)) (x2 : List Int) (x3 : Int) (best : Int) (best2 : Int) (p : Int) (p2 : Int) : ev (Z := (Unit) ⊕ (Int × (List (Int × Int)) × List Int × Bool × (List (Int × Int)) × Int × Int × List (List Int) × List Int × Int × Int × Int)) Try.prog (eother_sp N) eother_B [] [eother_l2_h (eother_l2 N n_), eother_l2_e0, eother_l2_e1] none 400 true eother_l2_at (stL eother_l2_st (((), (), least, can, musts, met, (), n, u, u2, u3, u4, u5, ()), ((x, x2, x3, ()), (best, best2, ()), (p, p2, ()), ()))) (stH eother_l2_st (((), (), least, can, musts, met, (), n, u, u2, u3, u4, u5, ()), ((x, x2, x3, ()), (best, best2, ()), (p, p2, ()), ()))) = eother_l2 N (n_ + 1) least can musts met n u u2 u3 u4 u5 x x2 x3 best best2 p p2 := by kernel_rfl
theorem eother_l2_ok (N : Nat) {top : Bool} : LoopOK Try.prog eother_B.c eother_B.n eother_B.m0 top (eother_l2_L N) := loop_of_ev (Z := (Unit) ⊕ (Int × (List (Int × Int)) × List Int × Bool × (List (Int × Int)) × Int × Int × List (List Int) × List Int × Int × Int × Int)) (N := N) (fun m p => eother_l2 N m p.1.2.2.1 p.1.2.2.2.1 p.1.2.2.2.2.1 p.1.2.2.2.2.2.1 p.1.2.2.2.2.2.2.2.1 p.1.2.2.2.2.2.2.2.2.1 p.1.2.2.2.2.2.2.2.2.2.1 p.1.2.2.2.2.2.2.2.2.2.2.1 p.1.2.2.2.2.2.2.2.2.2.2.2.1 p.1.2.2.2.2.2.2.2.2.2.2.2.2.1 p.2.1.1 p.2.1.2.1 p.2.1.2.2.1 p.2.2.1.1 p.2.2.1.2.1 p.2.2.2.1.1 p.2.2.2.1.2.1) (fun e => match e with | .inl x => .inl ((), ()) | .inr x => .inr (.inl (((), (), x.1, x.2.1, x.2.2.1, x.2.2.2.1, x.2.2.2.2.1, x.2.2.2.2.2.1, x.2.2.2.2.2.2.1, ()), ((x.2.2.2.2.2.2.2.1, x.2.2.2.2.2.2.2.2.1, x.2.2.2.2.2.2.2.2.2.1, ()), (x.2.2.2.2.2.2.2.2.2.2.1, x.2.2.2.2.2.2.2.2.2.2.2, ()), ())))) (fun _ p k => bind_congr_ (eother_l2 N N p.1.2.2.1 p.1.2.2.2.1 p.1.2.2.2.2.1 p.1.2.2.2.2.2.1 p.1.2.2.2.2.2.2.2.1 p.1.2.2.2.2.2.2.2.2.1 p.1.2.2.2.2.2.2.2.2.2.1 p.1.2.2.2.2.2.2.2.2.2.2.1 p.1.2.2.2.2.2.2.2.2.2.2.2.1 p.1.2.2.2.2.2.2.2.2.2.2.2.2.1 p.2.1.1 p.2.1.2.1 p.2.1.2.2.1 p.2.2.1.1 p.2.2.1.2.1 p.2.2.2.1.1 p.2.2.2.1.2.1) _ _ (fun e => by rcases e with x | x <;> rfl)) (fun _ => rfl) (fun m z E Xc hE hX hrec hx => leaf_of_ev (B := eother_B) (loops := []) (leaves := [eother_l2_h (eother_l2 N m), eother_l2_e0, eother_l2_e1]) (eother_all N) mixed trivial hE hX ⟨hrec, (fun p hp => by obtain rfl := Option.some.inj hp; exact hx), (fun p hp => by obtain rfl := Option.some.inj hp; exact hx), trivial⟩ RetOK.no (fun p => eother_l2_eq N m p.1.2.2.1 p.1.2.2.2.1 p.1.2.2.2.2.1 p.1.2.2.2.2.2.1 p.1.2.2.2.2.2.2.2.1 p.1.2.2.2.2.2.2.2.2.1 p.1.2.2.2.2.2.2.2.2.2.1 p.1.2.2.2.2.2.2.2.2.2.2.1 p.1.2.2.2.2.2.2.2.2.2.2.2.1 p.1.2.2.2.2.2.2.2.2.2.2.2.2.1 p.2.1.1 p.2.1.2.1 p.2.1.2.2.1 p.2.2.1.1 p.2.2.1.2.1 p.2.2.2.1.1 p.2.2.2.1.2.1))
abbrev eother_l1_at : List PI := [.c [1, 1, 1, 1, 1, 1, 1, 0, 1, 0, 0, 0], .c [1, 1, 1, 1, 1, 1, 1, 0, 1, 0, 0, 1], .l [1, 1, 1, 1, 1, 1, 1, 0, 1, 0, 0], .b 0, .c [1, 1, 1, 1, 1, 1, 1, 1]]
abbrev eother_l1_st : Sta := ⟨[3, 4, 5, 7, 9, 11, 70, 71, 72], ⟨[.own 0 0, .own 1 0, .i .i64, .sl (.pair (.int .i64) (.int .i64)), .sl (.int .i64), .b, .sl (.pair (.int .i64) (.int .i64)), .i .i64, .i .i64], [.segs [.sl (.sl (.int .i64)), .sl (.int .i64), .i .i64], .segs [.i .i64, .i .i64]]⟩⟩
abbrev eother_l1_h (rec : Int → (List (Int × Int)) → (List Int) → Bool → (List (Int × Int)) → Int → Int → (List (List Int)) → (List Int) → Int → Int → Int → Option ((Unit) ⊕ ((Unit) ⊕ ((List (Int × Int)) × List Int × Bool × List (List Int) × List Int × Int)))) : Leaf ((Unit) ⊕ ((Unit) ⊕ ((List (Int × Int)) × List Int × Bool × List (List Int) × List Int × Int))) := ⟨eother_l1_at, eother_l1_st, fun p => rec p.1.2.2.1 p.1.2.2.2.1 p.1.2.2.2.2.1 p.1.2.2.2.2.2.1 p.1.2.2.2.2.2.2.1 p.1.2.2.2.2.2.2.2.1 p.1.2.2.2.2.2.2.2.2.1 p.2.1.1 p.2.1.2.1 p.2.1.2.2.1 p.2.2.1.1 p.2.2.1.2.1⟩
abbrev eother_l1_e0 : Leaf ((Unit) ⊕ ((Unit) ⊕ ((List (Int × Int)) × List Int × Bool × List (List Int) × List Int × Int))) := ⟨[.c [1, 1, 1, 1, 1, 1, 1, 0, 1, 0, 0, 1, 1, 0, 0, 1, 1, 0, 1, 0, 0], .c [1, 1, 1, 1, 1, 1, 1, 0, 1, 0, 0, 1, 1, 0, 0, 1, 1, 0, 1, 0, 1], .c [1, 1, 1, 1, 1, 1, 1, 0, 1, 0, 0, 1, 1, 0, 0, 1, 1, 1], .b 1, .c [1, 1, 1, 1, 1, 1, 1, 0, 1, 0, 0, 1, 1, 1], .l [1, 1, 1, 1, 1, 1, 1, 0, 1, 0, 0], .b 0, .c [1, 1, 1, 1, 1, 1, 1, 1]], ⟨[], ⟨[], []⟩⟩, fun p => some (.inl ())⟩
abbrev eother_l1_e1 : Leaf ((Unit) ⊕ ((Unit) ⊕ ((List (Int × Int)) × List Int × Bool × List (List Int) × List Int × Int))) := ⟨[.c [1, 1, 1, 1, 1, 1, 1, 0, 1, 0, 0, 1, 1, 0, 0, 1, 1, 1, 1, 1, 0, 0, 1, 1, 0, 0, 1, 1, 1, 1, 0, 0], .c [1, 1, 1, 1, 1, 1, 1, 0, 1, 0, 0, 1, 1, 0, 0, 1, 1, 1, 1, 1, 0, 0, 1, 1, 0, 0, 1, 1, 1, 1, 0, 1], .b 3, .c [1, 1, 1, 1, 1, 1, 1, 0, 1, 0, 0, 1, 1, 0, 0, 1, 1, 1, 1, 1, 0, 0, 1, 1, 1], .l [1, 1, 1, 1, 1, 1, 1, 0, 1, 0, 0, 1, 1, 0, 0, 1, 1, 1, 1, 1, 0, 0], .b 2, .b 1, .c [1, 1, 1, 1, 1, 1, 1, 0, 1, 0, 0, 1, 1, 1], .l [1, 1, 1, 1, 1, 1, 1, 0, 1, 0, 0], .b 0, .c [1, 1, 1, 1, 1, 1, 1, 1]], ⟨[], ⟨[], []⟩⟩, fun p => some (.inr (.inl ()))⟩
abbrev eother_l1_e2 : Leaf ((Unit) ⊕ ((Unit) ⊕ ((List (Int × Int)) × List Int × Bool × List (List Int) × List Int × Int))) := ⟨[.c [1, 1, 1, 1, 1, 1, 1, 1, 0, 0], .c [1, 1, 1, 1, 1, 1, 1, 1, 0, 1], .c [1, 1, 1, 1, 1, 1, 1, 1, 1]], ⟨[3, 7, 9, 11], ⟨[.own 0 0, .sl (.pair (.int .i64) (.int .i64)), .sl (.int .i64), .b], [.segs [.sl (.sl (.int .i64)), .sl (.int .i64), .i .i64]]⟩⟩, fun p => some (.inr (.inr (p.1.2.1, p.1.2.2.1, p.1.2.2.2.1, p.2.1.1, p.2.1.2.1, p.2.1.2.2.1)))⟩
noncomputable def eother_l1_L (N : Nat) : LoopS := { at_ := eother_l1_at, sta := eother_l1_st, exits := [([.c [1, 1, 1, 1, 1, 1, 1, 0, 1, 0, 0, 1, 1, 0, 0, 1, 1, 0, 1, 0, 0], .c [1, 1, 1, 1, 1, 1, 1, 0, 1, 0, 0, 1, 1, 0, 0, 1, 1, 0, 1, 0, 1], .c [1, 1, 1, 1, 1, 1, 1, 0, 1, 0, 0, 1, 1, 0, 0, 1, 1, 1], .b 1, .c [1, 1, 1, 1, 1, 1, 1, 0, 1, 0, 0, 1, 1, 1], .l [1, 1, 1, 1, 1, 1, 1, 0, 1, 0, 0], .b 0, .c [1, 1, 1, 1, 1, 1, 1, 1]], ⟨[], ⟨[], []⟩⟩), ([.c [1, 1, 1, 1, 1, 1, 1, 0, 1, 0, 0, 1, 1, 0, 0, 1, 1, 1, 1, 1, 0, 0, 1, 1, 0, 0, 1, 1, 1, 1, 0, 0], .c [1, 1, 1, 1, 1, 1, 1, 0, 1, 0, 0, 1, 1, 0, 0, 1, 1, 1, 1, 1, 0, 0, 1, 1, 0, 0, 1, 1, 1, 1, 0, 1], .b 3, .c [1, 1, 1, 1, 1, 1, 1, 0, 1, 0, 0, 1, 1, 0, 0, 1, 1, 1, 1, 1, 0, 0, 1, 1, 1], .l [1, 1, 1, 1, 1, 1, 1, 0, 1, 0, 0, 1, 1, 0, 0, 1, 1, 1, 1, 1, 0, 0], .b 2, .b 1, .c [1, 1, 1, 1, 1, 1, 1, 0, 1, 0, 0, 1, 1, 1], .l [1, 1, 1, 1, 1, 1, 1, 0, 1, 0, 0], .b 0, .c [1, 1, 1, 1, 1, 1, 1, 1]], ⟨[], ⟨[], []⟩⟩), ([.c [1, 1, 1, 1, 1, 1, 1, 1, 0, 0], .c [1, 1, 1, 1, 1, 1, 1, 1, 0, 1], .c [1, 1, 1, 1, 1, 1, 1, 1, 1]], ⟨[3, 7, 9, 11], ⟨[.own 0 0, .sl (.pair (.int .i64) (.int .i64)), .sl (.int .i64), .b], [.segs [.sl (.sl (.int .i64)), .sl (.int .i64), .i .i64]]⟩⟩)], run := fun p k => (eother_l1 N N p.1.2.2.1 p.1.2.2.2.1 p.1.2.2.2.2.1 p.1.2.2.2.2.2.1 p.1.2.2.2.2.2.2.1 p.1.2.2.2.2.2.2.2.1 p.1.2.2.2.2.2.2.2.2.1 p.2.1.1 p.2.1.2.1 p.2.1.2.2.1 p.2.2.1.1 p.2.2.1.2.1).bind fun e => match e with | .inl x => k (.inl ((), ())) | .inr (.inl x) => k (.inr (.inl ((), ()))) | .inr (.inr x) => k (.inr (.inr (.inl (((), x.1, x.2.1, x.2.2.1, ()), ((x.2.2.2.1, x.2.2.2.2.1, x.2.2.2.2.2, ()), ()))))) }
theorem eother_l1_eq (N n_ : Nat) (least : Int) (can : List (Int × Int)) (musts : List Int) (met : Bool) (u : List (Int × Int)) (u2 : Int) (u3 : Int) (x : List (List Int)) (x2 : List Int) (x3 : Int) (best : Int) (best2 : Int) : ev (Z := (Unit) ⊕ ((Unit) ⊕ ((List (Int × Int)) × List Int × Bool × List (List Int) × List Int × Int))) Try.prog (eother_sp N) eother_B [eother_l2_L N] [eother_l1_h (eother_l1 N n_), eother_l1_e0, eother_l1_e1, eother_l1_e2] none 400 true eother_l1_at (stL eother_l1_st (((), (), least, can, musts, met, u, u2, u3, ()), ((x, x2, x3, ()), (best, best2, ()), ()))) (stH eother_l1_st (((), (), least, can, musts, met, u, u2, u3, ()), ((x, x2, x3, ()), (best, best2, ()), ()))) = eother_l1 N (n_ + 1) least can musts met u u2 u3 x x2 x3 best best2 := by kernel_rfl
theorem eother_l1_ok (N : Nat) {top : Bool} : LoopOK Try.prog eother_B.c eother_B.n eother_B.m0 top (eother_l1_L N) := loop_of_ev (Z := (Unit) ⊕ ((Unit) ⊕ ((List (Int × Int)) × List Int × Bool × List (List Int) × List Int × Int))) (N := N) (fun m p => eother_l1 N m p.1.2.2.1 p.1.2.2.2.1 p.1.2.2.2.2.1 p.1.2.2.2.2.2.1 p.1.2.2.2.2.2.2.1 p.1.2.2.2.2.2.2.2.1 p.1.2.2.2.2.2.2.2.2.1 p.2.1.1 p.2.1.2.1 p.2.1.2.2.1 p.2.2.1.1 p.2.2.1.2.1) (fun e => match e with | .inl x => .inl ((), ()) | .inr (.inl x) => .inr (.inl ((), ())) | .inr (.inr x) => .inr (.inr (.inl (((), x.1, x.2.1, x.2.2.1, ()), ((x.2.2.2.1, x.2.2.2.2.1, x.2.2.2.2.2, ()), ()))))) (fun _ p k => bind_congr_ (eother_l1 N N p.1.2.2.1 p.1.2.2.2.1 p.1.2.2.2.2.1 p.1.2.2.2.2.2.1 p.1.2.2.2.2.2.2.1 p.1.2.2.2.2.2.2.2.1 p.1.2.2.2.2.2.2.2.2.1 p.2.1.1 p.2.1.2.1 p.2.1.2.2.1 p.2.2.1.1 p.2.2.1.2.1) _ _ (fun e => by rcases e with x | x | x <;> rfl)) (fun _ => rfl) (fun m z E Xc hE hX hrec hx => leaf_of_ev (B := eother_B) (loops := [eother_l2_L N]) (leaves := [eother_l1_h (eother_l1 N m), eother_l1_e0, eother_l1_e1, eother_l1_e2]) (eother_all N) mixed ⟨eother_l2_ok N, trivial⟩ hE hX ⟨hrec, (fun p hp => by obtain rfl := Option.some.inj hp; exact hx), (fun p hp => by obtain rfl := Option.some.inj hp; exact hx), (fun p hp => by obtain rfl := Option.some.inj hp; exact hx), trivial⟩ RetOK.no (fun p => eother_l1_eq N m p.1.2.2.1 p.1.2.2.2.1 p.1.2.2.2.2.1 p.1.2.2.2.2.2.1 p.1.2.2.2.2.2.2.1 p.1.2.2.2.2.2.2.2.1 p.1.2.2.2.2.2.2.2.2.1 p.2.1.1 p.2.1.2.1 p.2.1.2.2.1 p.2.2.1.1 p.2.2.1.2.1))
abbrev eother_l4_at : List PI := [.c [1, 1, 1, 1, 1, 1, 1, 1, 0, 1, 0, 0, 1, 1, 0, 0, 1, 1, 0, 1, 0, 0, 0], .c [1, 1, 1, 1, 1, 1, 1, 1, 0, 1, 0, 0, 1, 1, 0, 0, 1, 1, 0, 1, 0, 0, 1], .l [1, 1, 1, 1, 1, 1, 1, 1, 0, 1, 0, 0, 1, 1, 0, 0, 1, 1, 0, 1, 0, 0], .b 6, .c [1, 1, 1, 1, 1, 1, 1, 1, 0, 1, 0, 0, 1, 1, 0, 0, 1, 1, 1], .b 5, .c [1, 1, 1, 1, 1, 1, 1, 1, 0, 1, 0, 0, 1, 1, 1], .l [1, 1, 1, 1, 1, 1, 1, 1, 0, 1, 0, 0], .b 4, .c [1, 1, 1, 1, 1, 1, 1, 1, 1]]
abbrev eother_l4_st : Sta := ⟨[3, 7, 9, 11, 21, 22, 166, 167, 173, 174, 175], ⟨[.own 0 0, .sl (.pair (.int .i64) (.int .i64)), .sl (.int .i64), .b, .i .i64, .b, .i .i64, .i .i64, .sl (.pair (.int .i64) (.int .i64)), .i .i64, .i .i64], [.segs [.sl (.sl (.int .i64)), .sl (.int .i64), .i .i64]]⟩⟩
abbrev eother_l4_h (rec : (List (Int × Int)) → (List Int) → Bool → Int → Bool → Int → Int → (List (Int × Int)) → Int → Int → (List (List Int)) → (List Int) → Int → Option ((List (Int × Int)) × List Int × Bool × Int × Bool × Int × Int × List (List Int) × List Int × Int)) : Leaf ((List (Int × Int)) × List Int × Bool × Int × Bool × Int × Int × List (List Int) × List Int × Int) := ⟨eother_l4_at, eother_l4_st, fun p => rec p.1.2.1 p.1.2.2.1 p.1.2.2.2.1 p.1.2.2.2.2.1 p.1.2.2.2.2.2.1 p.1.2.2.2.2.2.2.1 p.1.2.2.2.2.2.2.2.1 p.1.2.2.2.2.2.2.2.2.1 p.1.2.2.2.2.2.2.2.2.2.1 p.1.2.2.2.2.2.2.2.2.2.2.1 p.2.1.1 p.2.1.2.1 p.2.1.2.2.1⟩
abbrev eother_l4_e0 : Leaf ((List (Int × Int)) × List Int × Bool × Int × Bool × Int × Int × List (List Int) × List Int × Int) := ⟨[.c [1, 1, 1, 1, 1, 1, 1, 1, 0, 1, 0, 0, 1, 1, 0, 0, 1, 1, 1, 0], .c [1, 1, 1, 1, 1, 1, 1, 1, 0, 1, 0, 0, 1, 1, 0, 0, 1, 1, 1, 1], .b 5, .c [1, 1, 1, 1, 1, 1, 1, 1, 0, 1, 0, 0, 1, 1, 1], .l [1, 1, 1, 1, 1, 1, 1, 1, 0, 1, 0, 0], .b 4, .c [1, 1, 1, 1, 1, 1, 1, 1, 1]], ⟨[3, 7, 9, 11, 21, 22, 166, 167], ⟨[.own 0 0, .sl (.pair (.int .i64) (.int .i64)), .sl (.int .i64), .b, .i .i64, .b, .i .i64, .i .i64], [.segs [.sl (.sl (.int .i64)), .sl (.int .i64), .i .i64]]⟩⟩, fun p => some ((p.1.2.1, p.1.2.2.1, p.1.2.2.2.1, p.1.2.2.2.2.1, p.1.2.2.2.2.2.1, p.1.2.2.2.2.2.2.1, p.1.2.2.2.2.2.2.2.1, p.2.1.1, p.2.1.2.1, p.2.1.2.2.1))⟩
noncomputable def eother_l4_L (N : Nat) : LoopS := { at_ := eother_l4_at, sta := eother_l4_st, exits := [([.c [1, 1, 1, 1, 1, 1, 1, 1, 0, 1, 0, 0, 1, 1, 0, 0, 1, 1, 1, 0], .c [1, 1, 1, 1, 1, 1, 1, 1, 0, 1, 0, 0, 1, 1, 0, 0, 1, 1, 1, 1], .b 5, .c [1, 1, 1, 1, 1, 1, 1, 1, 0, 1, 0, 0, 1, 1, 1], .l [1, 1, 1, 1, 1, 1, 1, 1, 0, 1, 0, 0], .b 4, .c [1, 1, 1, 1, 1, 1, 1, 1, 1]], ⟨[3, 7, 9, 11, 21, 22, 166, 167], ⟨[.own 0 0, .sl (.pair (.int .i64) (.int .i64)), .sl (.int .i64), .b, .i .i64, .b, .i .i64, .i .i64], [.segs [.sl (.sl (.int .i64)), .sl (.int .i64), .i .i64]]⟩⟩)], run := fun p k => (eother_l4 N N p.1.2.1 p.1.2.2.1 p.1.2.2.2.1 p.1.2.2.2.2.1 p.1.2.2.2.2.2.1 p.1.2.2.2.2.2.2.1 p.1.2.2.2.2.2.2.2.1 p.1.2.2.2.2.2.2.2.2.1 p.1.2.2.2.2.2.2.2.2.2.1 p.1.2.2.2.2.2.2.2.2.2.2.1 p.2.1.1 p.2.1.2.1 p.2.1.2.2.1).bind fun e => k (.inl (((), e.1, e.2.1, e.2.2.1, e.2.2.2.1, e.2.2.2.2.1, e.2.2.2.2.2.1, e.2.2.2.2.2.2.1, ()), ((e.2.2.2.2.2.2.2.1, e.2.2.2.2.2.2.2.2.1, e.2.2.2.2.2.2.2.2.2, ()), ()))) }
theorem eother_l4_eq (N n_ : Nat) (can : List (Int × Int)) (musts : List Int) (met : Bool) (t : Int) (all : Bool) (u : Int) (u2 : Int) (u3 : List (Int × Int)) (u4 : Int) (u5 : Int) (x : List (List Int)) (x2 : List Int) (x3 : Int) : ev (Z := (List (Int × Int)) × List Int × Bool × Int × Bool × Int × Int × List (List Int) × List Int × Int) Try.prog (eother_sp N) eother_B [eother_l2_L N, eother_l1_L N] [eother_l4_h (eother_l4 N n_), eother_l4_e0] none 400 true eother_l4_at (stL eother_l4_st (((), can, musts, met, t, all, u, u2, u3, u4, u5, ()), ((x, x2, x3, ()), ()))) (stH eother_l4_st (((), can, musts, met, t, all, u, u2, u3, u4, u5, ()), ((x, x2, x3, ()), ()))) = eother_l4 N (n_ + 1) can musts met t all u u2 u3 u4 u5 x x2 x3 := by kernel_rfl
theorem eother_l4_ok (N : Nat) {top : Bool} : LoopOK Try.prog eother_B.c eother_B.n eother_B.m0 top (eother_l4_L N) := loop_of_ev (Z := (List (Int × Int)) × List Int × Bool × Int × Bool × Int × Int × List (List Int) × List Int × Int) (N := N) (fun m p => eother_l4 N m p.1.2.1 p.1.2.2.1 p.1.2.2.2.1 p.1.2.2.2.2.1 p.1.2.2.2.2.2.1 p.1.2.2.2.2.2.2.1 p.1.2.2.2.2.2.2.2.1 p.1.2.2.2.2.2.2.2.2.1 p.1.2.2.2.2.2.2.2.2.2.1 p.1.2.2.2.2.2.2.2.2.2.2.1 p.2.1.1 p.2.1.2.1 p.2.1.2.2.1) (fun e => .inl (((), e.1, e.2.1, e.2.2.1, e.2.2.2.1, e.2.2.2.2.1, e.2.2.2.2.2.1, e.2.2.2.2.2.2.1, ()), ((e.2.2.2.2.2.2.2.1, e.2.2.2.2.2.2.2.2.1, e.2.2.2.2.2.2.2.2.2, ()), ()))) (fun _ _ _ => rfl) (fun _ => rfl) (fun m z E Xc hE hX hrec hx => leaf_of_ev (B := eother_B) (loops := [eother_l2_L N, eother_l1_L N]) (leaves := [eother_l4_h (eother_l4 N m), eother_l4_e0]) (eother_all N) mixed ⟨eother_l2_ok N, eother_l1_ok N, trivial⟩ hE hX ⟨hrec, (fun p hp => by obtain rfl := Option.some.inj hp; exact hx), trivial⟩ RetOK.no (fun p => eother_l4_eq N m p.1.2.1 p.1.2.2.1 p.1.2.2.2.1 p.1.2.2.2.2.1 p.1.2.2.2.2.2.1 p.1.2.2.2.2.2.2.1 p.1.2.2.2.2.2.2.2.1 p.1.2.2.2.2.2.2.2.2.1 p.1.2.2.2.2.2.2.2.2.2.1 p.1.2.2.2.2.2.2.2.2.2.2.1 p.2.1.1 p.2.1.2.1 p.2.1.2.2.1))
abbrev eother_l5_at : List PI := [.c [1, 1, 1, 1, 1, 1, 1, 1, 0, 1, 0, 0, 1, 1, 0, 0, 1, 1, 1, 1, 1, 1, 0, 0, 0], .c [1, 1, 1, 1, 1, 1, 1, 1, 0, 1, 0, 0, 1, 1, 0, 0, 1, 1, 1, 1, 1, 1, 0, 0, 1], .l [1, 1, 1, 1, 1, 1, 1, 1, 0, 1, 0, 0, 1, 1, 0, 0, 1, 1, 1, 1, 1, 1, 0, 0], .b 8, .b 5, .c [1, 1, 1, 1, 1, 1, 1, 1, 0, 1, 0, 0, 1, 1, 1], .l [1, 1, 1, 1, 1, 1, 1, 1, 0, 1, 0, 0], .b 4, .c [1, 1, 1, 1, 1, 1, 1, 1, 1]]
abbrev eother_l5_st : Sta := ⟨[3, 7, 9, 11, 21, 25, 166, 167, 210, 211], ⟨[.own 0 0, .sl (.pair (.int .i64) (.int .i64)), .sl (.int .i64), .b, .i .i64, .sl (.int .i64), .i .i64, .i .i64, .i .i64, .i .i64], [.segs [.sl (.sl (.int .i64)), .sl (.int .i64), .i .i64]]⟩⟩
abbrev eother_l5_h (rec : (List (Int × Int)) → (List Int) → Bool → Int → (List Int) → Int → Int → Int → Int → (List (List Int)) → (List Int) → Int → Option ((Unit) ⊕ ((List (Int × Int)) × List Int × Bool × Int × Int × List (List Int) × List Int × Int))) : Leaf ((Unit) ⊕ ((List (Int × Int)) × List Int × Bool × Int × Int × List (List Int) × List Int × Int)) := ⟨eother_l5_at, eother_l5_st, fun p => rec p.1.2.1 p.1.2.2.1 p.1.2.2.2.1 p.1.2.2.2.2.1 p.1.2.2.2.2.2.1 p.1.2.2.2.2.2.2.1 p.1.2.2.2.2.2.2.2.1 p.1.2.2.2.2.2.2.2.2.1 p.1.2.2.2.2.2.2.2.2.2.1 p.2.1.1 p.2.1.2.1 p.2.1.2.2.1⟩
abbrev eother_l5_e0 : Leaf ((Unit) ⊕ ((List (Int × Int)) × List Int × Bool × Int × Int × List (List Int) × List Int × Int)) := ⟨[.c [1, 1, 1, 1, 1, 1, 1, 1, 0, 1, 0, 0, 1, 1, 0, 0, 1, 1, 1, 1, 1, 1, 0, 0, 1, 1, 0, 0, 1, 1, 0, 0], .c [1, 1, 1, 1, 1, 1, 1, 1, 0, 1, 0, 0, 1, 1, 0, 0, 1, 1, 1, 1, 1, 1, 0, 0, 1, 1, 0, 0, 1, 1, 0, 1], .b 9, .c [1, 1, 1, 1, 1, 1, 1, 1, 0, 1, 0, 0, 1, 1, 0, 0, 1, 1, 1, 1, 1, 1, 0, 0, 1, 1, 1], .l [1, 1, 1, 1, 1, 1, 1, 1, 0, 1, 0, 0, 1, 1, 0, 0, 1, 1, 1, 1, 1, 1, 0, 0], .b 8, .b 5, .c [1, 1, 1, 1, 1, 1, 1, 1, 0, 1, 0, 0, 1, 1, 1], .l [1, 1, 1, 1, 1, 1, 1, 1, 0, 1, 0, 0], .b 4, .c [1, 1, 1, 1, 1, 1, 1, 1, 1]], ⟨[], ⟨[], []⟩⟩, fun p => some (.inl ())⟩
abbrev eother_l5_e1 : Leaf ((Unit) ⊕ ((List (Int × Int)) × List Int × Bool × Int × Int × List (List Int) × List Int × Int)) := ⟨[.c [1, 1, 1, 1, 1, 1, 1, 1, 0, 1, 0, 0, 1, 1, 1], .l [1, 1, 1, 1, 1, 1, 1, 1, 0, 1, 0, 0], .b 4, .c [1, 1, 1, 1, 1, 1, 1, 1, 1]], ⟨[3, 7, 9, 11, 166, 167], ⟨[.own 0 0, .sl (.pair (.int .i64) (.int .i64)), .sl (.int .i64), .b, .i .i64, .i .i64], [.segs [.sl (.sl (.int .i64)), .sl (.int .i64), .i .i64]]⟩⟩, fun p => some (.inr (p.1.2.1, p.1.2.2.1, p.1.2.2.2.1, p.1.2.2.2.2.1, p.1.2.2.2.2.2.1, p.2.1.1, p.2.1.2.1, p.2.1.2.2.1))⟩
noncomputable def eother_l5_L (N : Nat) : LoopS := { at_ := eother_l5_at, sta := eother_l5_st, exits := [([.c [1, 1, 1, 1, 1, 1, 1, 1, 0, 1, 0, 0, 1, 1, 0, 0, 1, 1, 1, 1, 1, 1, 0, 0, 1, 1, 0, 0, 1, 1, 0, 0], .c [1, 1, 1, 1, 1, 1, 1, 1, 0, 1, 0, 0, 1, 1, 0, 0, 1, 1, 1, 1, 1, 1, 0, 0, 1, 1, 0, 0, 1, 1, 0, 1], .b 9, .c [1, 1, 1, 1, 1, 1, 1, 1, 0, 1, 0, 0, 1, 1, 0, 0, 1, 1, 1, 1, 1, 1, 0, 0, 1, 1, 1], .l [1, 1, 1, 1, 1, 1, 1, 1, 0, 1, 0, 0, 1, 1, 0, 0, 1, 1, 1, 1, 1, 1, 0, 0], .b 8, .b 5, .c [1, 1, 1, 1, 1, 1, 1, 1, 0, 1, 0, 0, 1, 1, 1], .l [1, 1, 1, 1, 1, 1, 1, 1, 0, 1, 0, 0], .b 4, .c [1, 1, 1, 1, 1, 1, 1, 1, 1]], ⟨[], ⟨[], []⟩⟩), ([.c [1, 1, 1, 1, 1, 1, 1, 1, 0, 1, 0, 0, 1, 1, 1], .l [1, 1, 1, 1, 1, 1, 1, 1, 0, 1, 0, 0], .b 4, .c [1, 1, 1, 1, 1, 1, 1, 1, 1]], ⟨[3, 7, 9, 11, 166, 167], ⟨[.own 0 0, .sl (.pair (.int .i64) (.int .i64)), .sl (.int .i64), .b, .i .i64, .i .i64], [.segs [.sl (.sl (.int .i64)), .sl (.int .i64), .i .i64]]⟩⟩)], run := fun p k => (eother_l5 N N p.1.2.1 p.1.2.2.1 p.1.2.2.2.1 p.1.2.2.2.2.1 p.1.2.2.2.2.2.1 p.1.2.2.2.2.2.2.1 p.1.2.2.2.2.2.2.2.1 p.1.2.2.2.2.2.2.2.2.1 p.1.2.2.2.2.2.2.2.2.2.1 p.2.1.1 p.2.1.2.1 p.2.1.2.2.1).bind fun e => match e with | .inl x => k (.inl ((), ())) | .inr x => k (.inr (.inl (((), x.1, x.2.1, x.2.2.1, x.2.2.2.1, x.2.2.2.2.1, ()), ((x.2.2.2.2.2.1, x.2.2.2.2.2.2.1, x.2.2.2.2.2.2.2, ()), ())))) }
theorem eother_l5_eq (N n_ : Nat) (can : List (Int × Int)) (musts : List Int) (met : Bool) (t : Int) (l : List Int) (u : Int) (u2 : Int) (u3 : Int) (u4 : Int) (x : List (List Int)) (x2 : List Int) (x3 : Int) : ev (Z := (Unit) ⊕ ((List (Int × Int)) × List Int × Bool × Int × Int × List (List Int) × List Int × Int)) Try.prog (eother_sp N) eother_B [eother_l2_L N, eother_l1_L N, eother_l4_L N] [eother_l5_h (eother_l5 N n_), eother_l5_e0, eother_l5_e1] none 400 true eother_l5_at (stL eother_l5_st (((), can, musts, met, t, l, u, u2, u3, u4, ()), ((x, x2, x3, ()), ()))) (stH eother_l5_st (((), can, musts, met, t, l, u, u2, u3, u4, ()), ((x, x2, x3, ()), ()))) = eother_l5 N (n_ + 1) can musts met t l u u2 u3 u4 x x2 x3 := by kernel_rfl
theorem eother_l5_ok (N : Nat) {top : Bool} : LoopOK Try.prog eother_B.c eother_B.n eother_B.m0 top (eother_l5_L N) := loop_of_ev (Z := (Unit) ⊕ ((List (Int × Int)) × List Int × Bool × Int × Int × List (List Int) × List Int × Int)) (N := N) (fun m p => eother_l5 N m p.1.2.1 p.1.2.2.1 p.1.2.2.2.1 p.1.2.2.2.2.1 p.1.2.2.2.2.2.1 p.1.2.2.2.2.2.2.1 p.1.2.2.2.2.2.2.2.1 p.1.2.2.2.2.2.2.2.2.1 p.1.2.2.2.2.2.2.2.2.2.1 p.2.1.1 p.2.1.2.1 p.2.1.2.2.1) (fun e => match e with | .inl x => .inl ((), ()) | .inr x => .inr (.inl (((), x.1, x.2.1, x.2.2.1, x.2.2.2.1, x.2.2.2.2.1, ()), ((x.2.2.2.2.2.1, x.2.2.2.2.2.2.1, x.2.2.2.2.2.2.2, ()), ())))) (fun _ p k => bind_congr_ (eother_l5 N N p.1.2.1 p.1.2.2.1 p.1.2.2.2.1 p.1.2.2.2.2.1 p.1.2.2.2.2.2.1 p.1.2.2.2.2.2.2.1 p.1.2.2.2.2.2.2.2.1 p.1.2.2.2.2.2.2.2.2.1 p.1.2.2.2.2.2.2.2.2.2.1 p.2.1.1 p.2.1.2.1 p.2.1.2.2.1) _ _ (fun e => by rcases e with x | x <;> rfl)) (fun _ => rfl) (fun m z E Xc hE hX hrec hx => leaf_of_ev (B := eother_B) (loops := [eother_l2_L N, eother_l1_L N, eother_l4_L N]) (leaves := [eother_l5_h (eother_l5 N m), eother_l5_e0, eother_l5_e1]) (eother_all N) mixed ⟨eother_l2_ok N, eother_l1_ok N, eother_l4_ok N, trivial⟩ hE hX ⟨hrec, (fun p hp => by obtain rfl := Option.some.inj hp; exact hx), (fun p hp => by obtain rfl := Option.some.inj hp; exact hx), trivial⟩ RetOK.no (fun p => eother_l5_eq N m p.1.2.1 p.1.2.2.1 p.1.2.2.2.1 p.1.2.2.2.2.1 p.1.2.2.2.2.2.1 p.1.2.2.2.2.2.2.1 p.1.2.2.2.2.2.2.2.1 p.1.2.2.2.2.2.2.2.2.1 p.1.2.2.2.2.2.2.2.2.2.1 p.2.1.1 p.2.1.2.1 p.2.1.2.2.1))
abbrev eother_l3_at : List PI := [.c [1, 1, 1, 1, 1, 1, 1, 1, 0, 1, 0, 0, 0], .c [1, 1, 1, 1, 1, 1, 1, 1, 0, 1, 0, 0, 1], .l [1, 1, 1, 1, 1, 1, 1, 1, 0, 1, 0, 0], .b 4, .c [1, 1, 1, 1, 1, 1, 1, 1, 1]]
abbrev eother_l3_st : Sta := ⟨[3, 7, 9, 11, 166, 167], ⟨[.own 0 0, .sl (.pair (.int .i64) (.int .i64)), .sl (.int .i64), .b, .i .i64, .i .i64], [.segs [.sl (.sl (.int .i64)), .sl (.int .i64), .i .i64]]⟩⟩
abbrev eother_l3_h (rec : (List (Int × Int)) → (List Int) → Bool → Int → Int → (List (List Int)) → (List Int) → Int → Option ((Unit) ⊕ ((Unit) ⊕ (Bool)))) : Leaf ((Unit) ⊕ ((Unit) ⊕ (Bool))) := ⟨eother_l3_at, eother_l3_st, fun p => rec p.1.2.1 p.1.2.2.1 p.1.2.2.2.1 p.1.2.2.2.2.1 p.1.2.2.2.2.2.1 p.2.1.1 p.2.1.2.1 p.2.1.2.2.1⟩
abbrev eother_l3_e0 : Leaf ((Unit) ⊕ ((Unit) ⊕ (Bool))) := ⟨[.c [1, 1, 1, 1, 1, 1, 1, 1, 0, 1, 0, 0, 1, 1, 0, 0, 1, 1, 1, 1, 0, 1, 0, 0], .c [1, 1, 1, 1, 1, 1, 1, 1, 0, 1, 0, 0, 1, 1, 0, 0, 1, 1, 1, 1, 0, 1, 0, 1], .c [1, 1, 1, 1, 1, 1, 1, 1, 0, 1, 0, 0, 1, 1, 0, 0, 1, 1, 1, 1, 1], .b 5, .c [1, 1, 1, 1, 1, 1, 1, 1, 0, 1, 0, 0, 1, 1, 1], .l [1, 1, 1, 1, 1, 1, 1, 1, 0, 1, 0, 0], .b 4, .c [1, 1, 1, 1, 1, 1, 1, 1, 1]], ⟨[], ⟨[], []⟩⟩, fun p => some (.inl ())⟩
abbrev eother_l3_e1 : Leaf ((Unit) ⊕ ((Unit) ⊕ (Bool))) := ⟨[.c [1, 1, 1, 1, 1, 1, 1, 1, 0, 1, 0, 0, 1, 1, 0, 0, 1, 1, 1, 1, 1, 1, 0, 0, 1, 1, 0, 0, 1, 1, 0, 0], .c [1, 1, 1, 1, 1, 1, 1, 1, 0, 1, 0, 0, 1, 1, 0, 0, 1, 1, 1, 1, 1, 1, 0, 0, 1, 1, 0, 0, 1, 1, 0, 1], .b 9, .c [1, 1, 1, 1, 1, 1, 1, 1, 0, 1, 0, 0, 1, 1, 0, 0, 1, 1, 1, 1, 1, 1, 0, 0, 1, 1, 1], .l [1, 1, 1, 1, 1, 1, 1, 1, 0, 1, 0, 0, 1, 1, 0, 0, 1, 1, 1, 1, 1, 1, 0, 0], .b 8, .b 5, .c [1, 1, 1, 1, 1, 1, 1, 1, 0, 1, 0, 0, 1, 1, 1], .l [1, 1, 1, 1, 1, 1, 1, 1, 0, 1, 0, 0], .b 4, .c [1, 1, 1, 1, 1, 1, 1, 1, 1]], ⟨[], ⟨[], []⟩⟩, fun p => some (.inr (.inl ()))⟩
abbrev eother_l3_e2 : Leaf ((Unit) ⊕ ((Unit) ⊕ (Bool))) := ⟨[.c [1, 1, 1, 1, 1, 1, 1, 1, 1, 0], .c [1, 1, 1, 1, 1, 1, 1, 1, 1, 1]], ⟨[11], ⟨[.b], []⟩⟩, fun p => some (.inr (.inr p.1.1))⟩
noncomputable def eother_l3_L (N : Nat) : LoopS := { at_ := eother_l3_at, sta := eother_l3_st, exits := [([.c [1, 1, 1, 1, 1, 1, 1, 1, 0, 1, 0, 0, 1, 1, 0, 0, 1, 1, 1, 1, 0, 1, 0, 0], .c [1, 1, 1, 1, 1, 1, 1, 1, 0, 1, 0, 0, 1, 1, 0, 0, 1, 1, 1, 1, 0, 1, 0, 1], .c [1, 1, 1, 1, 1, 1, 1, 1, 0, 1, 0, 0, 1, 1, 0, 0, 1, 1, 1, 1, 1], .b 5, .c [1, 1, 1, 1, 1, 1, 1, 1, 0, 1, 0, 0, 1, 1, 1], .l [1, 1, 1, 1, 1, 1, 1, 1, 0, 1, 0, 0], .b 4, .c [1, 1, 1, 1, 1, 1, 1, 1, 1]], ⟨[], ⟨[], []⟩⟩), ([.c [1, 1, 1, 1, 1, 1, 1, 1, 0, 1, 0, 0, 1, 1, 0, 0, 1, 1, 1, 1, 1, 1, 0, 0, 1, 1, 0, 0, 1, 1, 0, 0], .c [1, 1, 1, 1, 1, 1, 1, 1, 0, 1, 0, 0, 1, 1, 0, 0, 1, 1, 1, 1, 1, 1, 0, 0, 1, 1, 0, 0, 1, 1, 0, 1], .b 9, .c [1, 1, 1, 1, 1, 1, 1, 1, 0, 1, 0, 0, 1, 1, 0, 0, 1, 1, 1, 1, 1, 1, 0, 0, 1, 1, 1], .l [1, 1, 1, 1, 1, 1, 1, 1, 0, 1, 0, 0, 1, 1, 0, 0, 1, 1, 1, 1, 1, 1, 0, 0], .b 8, .b 5, .c [1, 1, 1, 1, 1, 1, 1, 1, 0, 1, 0, 0, 1, 1, 1], .l [1, 1, 1, 1, 1, 1, 1, 1, 0, 1, 0, 0], .b 4, .c [1, 1, 1, 1, 1, 1, 1, 1, 1]], ⟨[], ⟨[], []⟩⟩), ([.c [1, 1, 1, 1, 1, 1, 1, 1, 1, 0], .c [1, 1, 1, 1, 1, 1, 1, 1, 1, 1]], ⟨[11], ⟨[.b], []⟩⟩)], run := fun p k => (eother_l3 N N p.1.2.1 p.1.2.2.1 p.1.2.2.2.1 p.1.2.2.2.2.1 p.1.2.2.2.2.2.1 p.2.1.1 p.2.1.2.1 p.2.1.2.2.1).bind fun e => match e with | .inl x => k (.inl ((), ())) | .inr (.inl x) => k (.inr (.inl ((), ()))) | .inr (.inr x) => k (.inr (.inr (.inl ((x, ()), ())))) }
theorem eother_l3_eq (N n_ : Nat) (can : List (Int × Int)) (musts : List Int) (met : Bool) (u : Int) (u2 : Int) (x : List (List Int)) (x2 : List Int) (x3 : Int) : ev (Z := (Unit) ⊕ ((Unit) ⊕ (Bool))) Try.prog (eother_sp N) eother_B [eother_l2_L N, eother_l1_L N, eother_l4_L N, eother_l5_L N] [eother_l3_h (eother_l3 N n_), eother_l3_e0, eother_l3_e1, eother_l3_e2] none 400 true eother_l3_at (stL eother_l3_st (((), can, musts, met, u, u2, ()), ((x, x2, x3, ()), ()))) (stH eother_l3_st (((), can, musts, met, u, u2, ()), ((x, x2, x3, ()), ()))) = eother_l3 N (n_ + 1) can musts met u u2 x x2 x3 := by kernel_rfl
theorem eother_l3_ok (N : Nat) {top : Bool} : LoopOK Try.prog eother_B.c eother_B.n eother_B.m0 top (eother_l3_L N) := loop_of_ev (Z := (Unit) ⊕ ((Unit) ⊕ (Bool))) (N := N) (fun m p => eother_l3 N m p.1.2.1 p.1.2.2.1 p.1.2.2.2.1 p.1.2.2.2.2.1 p.1.2.2.2.2.2.1 p.2.1.1 p.2.1.2.1 p.2.1.2.2.1) (fun e => match e with | .inl x => .inl ((), ()) | .inr (.inl x) => .inr (.inl ((), ())) | .inr (.inr x) => .inr (.inr (.inl ((x, ()), ())))) (fun _ p k => bind_congr_ (eother_l3 N N p.1.2.1 p.1.2.2.1 p.1.2.2.2.1 p.1.2.2.2.2.1 p.1.2.2.2.2.2.1 p.2.1.1 p.2.1.2.1 p.2.1.2.2.1) _ _ (fun e => by rcases e with x | x | x <;> rfl)) (fun _ => rfl) (fun m z E Xc hE hX hrec hx => leaf_of_ev (B := eother_B) (loops := [eother_l2_L N, eother_l1_L N, eother_l4_L N, eother_l5_L N]) (leaves := [eother_l3_h (eother_l3 N m), eother_l3_e0, eother_l3_e1, eother_l3_e2]) (eother_all N) mixed ⟨eother_l2_ok N, eother_l1_ok N, eother_l4_ok N, eother_l5_ok N, trivial⟩ hE hX ⟨hrec, (fun p hp => by obtain rfl := Option.some.inj hp; exact hx), (fun p hp => by obtain rfl := Option.some.inj hp; exact hx), (fun p hp => by obtain rfl := Option.some.inj hp; exact hx), trivial⟩ RetOK.no (fun p => eother_l3_eq N m p.1.2.1 p.1.2.2.1 p.1.2.2.2.1 p.1.2.2.2.2.1 p.1.2.2.2.2.2.1 p.2.1.1 p.2.1.2.1 p.2.1.2.2.1))
abbrev eother_st : Sta := ⟨[0], ⟨[.sl (.int .u8)], []⟩⟩
theorem eother_eq (N : Nat) (numbers : List Int) : ev (Z := Bool) Try.prog (eother_sp N) eother_B [eother_l2_L N, eother_l1_L N, eother_l4_L N, eother_l5_L N, eother_l3_L N] [] (some eother_rt) 400 false [.c [0], .c [1]] (stL eother_st ((numbers, ()), ())) (stH eother_st ((numbers, ()), ())) = eother_S N numbers := by kernel_rfl
noncomputable def sp_eother (N : Nat) : Spec := { f := 10, ins := ⟨[.sl (.int .u8)], []⟩, outs := [⟨[.b], []⟩], run := fun p k => (eother_S N p.1.1).bind fun r => k ((r, ()), ()) }
theorem sp_eother_ok (N : Nat) : SpecOK Try.prog (sp_eother N) := fn_sound (B := eother_B) (loops := [eother_l2_L N, eother_l1_L N, eother_l4_L N, eother_l5_L N, eother_l3_L N]) (leaves := []) (fun p => eother_S N p.1.1) (fun r => ((r, ()), ())) eother_rt (fun _ _ _ => rfl) (fun r z h => by cases h; rfl) Try.func10 (by kernel_rfl) (by kernel_rfl) (by kernel_rfl) rfl rfl (by kernel_rfl) (fun args w => Sem.pv_run _ _ _ (by kernel_rfl) w) (eother_all N) mixed ⟨eother_l2_ok N, eother_l1_ok N, eother_l4_ok N, eother_l5_ok N, eother_l3_ok N, trivial⟩ (fun z E Xc hE hX hret => trivial) (fun p => eother_eq N p.1.1)

end Go.Proofs.Ytfcnhnbnjdccfaa

namespace Go.Proofs.Ytfcnhnbnjdccfaa
set_option linter.all false
open Go

section
variable {N : Nat} {T : List (List Int)} {H : List Int} {f : Int}
/-! ### The first least one -/
def clS (v : Int × Int → Int) (s : (Int × Int) × Int) (p : Int × Int) : (Int × Int) × Int := if v p < s.2 then (p, v p) else s
theorem clS_ok (v : Int × Int → Int) : ∀ (P : List (Int × Int)) (s : (Int × Int) × Int), v s.1 = s.2 →
    v (P.foldl (clS v) s).1 = (P.foldl (clS v) s).2 ∧ (P.foldl (clS v) s).2 ≤ s.2 ∧ (∀ p ∈ P, (P.foldl (clS v) s).2 ≤ v p) ∧ (P.foldl (clS v) s = s ∨ (P.foldl (clS v) s).1 ∈ P ∧ (P.foldl (clS v) s).2 < s.2) ∧
    (∀ j (hj : j < P.length), v P[j] = (P.foldl (clS v) s).2 → (P.foldl (clS v) s).1 ∈ P.take (j + 1) ∨ (P.foldl (clS v) s).1 = s.1)
  | [], s, h => ⟨h, Int.le_refl _, (fun _ h => by cases h), .inl rfl, fun j hj => by simp at hj⟩
  | p :: P, s, h => by
    rw [List.foldl_cons]
    have hs : clS v s p = (p, v p) ∧ v p < s.2 ∨ clS v s p = s ∧ s.2 ≤ v p := by
      unfold clS
      by_cases c : v p < s.2
      · exact .inl ⟨if_pos c, c⟩
      · exact .inr ⟨if_neg c, by omega⟩
    rcases hs with ⟨e, c⟩ | ⟨e, c⟩
    · rw [e]
      obtain ⟨h1, h2, h3, h4, h5⟩ := clS_ok v P (p, v p) rfl
      dsimp only at h2
      refine ⟨h1, by omega, ?_, .inr ⟨?_, by omega⟩, ?_⟩
      · intro q hq
        rcases List.mem_cons.1 hq with rfl | hq
        · exact h2
        · exact h3 q hq
      · rcases h4 with h4 | h4
        · rw [h4]; simp
        · simp [h4.1]
      · intro j hj hv
        cases j with
        | zero =>
          simp only [List.getElem_cons_zero] at hv
          rcases h4 with h4 | h4
          · rw [h4]; simp
          · have := h4.2; dsimp only at this; omega
        | succ j =>
          simp only [List.getElem_cons_succ] at hv
          rw [List.take_succ_cons]
          rcases h5 j (by simpa using hj) hv with h6 | h6
          · exact .inl (List.mem_cons_of_mem _ h6)
          · rw [h6]; simp
    · rw [e]
      obtain ⟨h1, h2, h3, h4, h5⟩ := clS_ok v P s h
      refine ⟨h1, h2, ?_, ?_, ?_⟩
      · intro q hq
        rcases List.mem_cons.1 hq with rfl | hq
        · omega
        · exact h3 q hq
      · rcases h4 with h4 | h4
        · exact .inl h4
        · exact .inr ⟨List.mem_cons_of_mem _ h4.1, h4.2⟩
      · intro j hj hv
        cases j with
        | zero =>
          simp only [List.getElem_cons_zero] at hv
          rcases h4 with h4 | h4
          · rw [h4]; exact .inr rfl
          · have := h4.2; omega
        | succ j =>
          simp only [List.getElem_cons_succ] at hv
          rw [List.take_succ_cons]
          rcases h5 j (by simpa using hj) hv with h6 | h6
          · exact .inl (List.mem_cons_of_mem _ h6)
          · exact .inr h6
def tt2 (_ _ : Nat) : Bool := true
/-- All pairs of texts. -/
def prs (n : Nat) : List (Int × Int) := allTo tt2 n 0 n
theorem mem_prs {n : Nat} {x : Int × Int} : x ∈ prs n ↔ 0 ≤ x.1 ∧ x.1 ≤ x.2 ∧ x.2 < n := by
  unfold prs
  rw [mem_allTo]
  constructor
  · rintro ⟨i, j, h1, h2, h3, _, rfl⟩; dsimp only; omega
  · obtain ⟨a, b⟩ := x
    dsimp only
    intro h; exact ⟨a.toNat, b.toNat, by omega, by omega, by omega, rfl, by rw [Prod.mk.injEq]; omega⟩
theorem prs_len (n : Nat) : (prs n).length ≤ n * n := allTo_len tt2 n 0 n
theorem prs_cons {n : Nat} (h : 1 ≤ n) : ∃ l, prs n = (0, 0) :: l := by
  obtain ⟨n, rfl⟩ : ∃ m, n = m + 1 := ⟨n - 1, by omega⟩
  have e1 : rowTo tt2 0 0 (n + 1) = (0, 0) :: ((List.range' 1 n).filter (tt2 0)).map (fun (x : Nat) => (((0 : Nat) : Int), (x : Int))) := by
    unfold rowTo
    rw [Nat.sub_zero, List.range'_succ, List.filter_cons_of_pos rfl, List.map_cons]; rfl
  have e2 : allTo tt2 (n + 1) 0 (n + 1) = rowTo tt2 0 (0 + 0) (n + 1) ++ (((List.range n).map Nat.succ).flatMap fun x => rowTo tt2 x (x + 0) (n + 1)) := by
    unfold allTo
    conv => lhs; rw [List.range_succ_eq_map]
    rw [List.flatMap_cons]
  unfold prs
  rw [e2, Nat.zero_add, e1]
  exact ⟨_, rfl⟩
theorem lpairs_l2_p {a s : Nat} {u u2 : Int} {O : List (Int × Int)} (hT : T.length ≤ 100) (ha : a < T.length) (hO : O.length ≤ 10000) : ∀ (n k : Nat), T.length < n + k → s ≤ k → k ≤ T.length →
    lpairs_l2 N n a k u u2 T H f (O ++ rowTo tt2 a s k) = some (u, u2, T, H, f, O ++ rowTo tt2 a s T.length)
  | 0, k, h1, h2, h3 => by omega
  | n + 1, k, h1, h2, h3 => by
    unfold lpairs_l2
    by_cases c : k < T.length
    · rw [br_dec (by omega)]
      have rl := rowTo_len tt2 a s k
      have next := lpairs_l2_p (s := s) (u := u) (u2 := u2) hT ha hO n (k + 1) (by omega) (by omega) (by omega)
      rw [show ((k + 1 : Nat) : Int) = (k : Int) + 1 by omega] at next
      rw [lim_eq (by simp; omega), chk_eq (by omega), List.append_assoc, ← rowTo_yes h2 rfl]
      exact next
    · have e : k = T.length := by omega
      rw [br_ndec (by omega), e]
theorem lpairs_l1_p (hT : T.length ≤ 20) (hN : T.length < N) : ∀ (n k : Nat), T.length < n + k → k ≤ T.length → lpairs_l1 N n (T.length : Int) k T H f (allTo tt2 T.length 0 k) = some (prs T.length)
  | 0, k, h1, h2 => by omega
  | n + 1, k, h1, h2 => by
    unfold lpairs_l1
    by_cases c : k < T.length
    · have al := allTo_len tt2 T.length 0 k
      have : k * T.length ≤ 20 * 20 := Nat.mul_le_mul (by omega) (by omega)
      rw [br_dec (by omega)]
      have e := lpairs_l2_p (N := N) (T := T) (H := H) (f := f) (s := k) (u := (T.length : Int)) (u2 := (k : Int)) (O := allTo tt2 T.length 0 k) (by omega) c (by omega) N k (by omega) (by omega) (by omega)
      rw [rowTo_zero, List.append_nil] at e
      rw [e]
      simp only [Option.bind_some]
      rw [chk_eq (by omega)]
      have next := lpairs_l1_p hT hN n (k + 1) (by omega) (by omega)
      rw [allTo_succ, Nat.add_zero, show ((k + 1 : Nat) : Int) = (k : Int) + 1 by omega] at next
      exact next
    · have e : k = T.length := by omega
      rw [br_ndec (by omega), e]; rfl
theorem lpairs_v (hT : T.length ≤ 20) (hN : T.length < N) : lpairs_S N T H f = some (prs T.length) := by
  unfold lpairs_S
  have := lpairs_l1_p (N := N) (T := T) (H := H) (f := f) hT hN N 0 (by omega) (by omega)
  rw [show allTo tt2 T.length 0 0 = [] from rfl] at this
  rw [show ((0 : Nat) : Int) = 0 from rfl] at this
  rw [this]; rfl
def vP (T : List (List Int)) (H : List Int) (p : Int × Int) : Int := leastV H (T.getD p.1.toNat []) (T.getD p.2.toNat [])
/-- The closest pair, and its least faults. -/
def clV (T : List (List Int)) (H : List Int) : (Int × Int) × Int := (prs T.length).foldl (clS (vP T H)) ((0, 0), vP T H (0, 0))
theorem closest_l2_p (hN : 20 ≤ N) (h : Fine T H f) {a s : Nat} {u u2 g g2 : Int} {O : List (Int × Int)} {z : (Int × Int) × Int} (ha : a < T.length) : ∀ (n k : Nat), T.length < n + k → s ≤ k → k ≤ T.length →
    closest_l2 N n ((O ++ rowTo tt2 a s k).foldl (clS (vP T H)) z).2 a k u u2 T H f g g2 ((O ++ rowTo tt2 a s k).foldl (clS (vP T H)) z).1.1 ((O ++ rowTo tt2 a s k).foldl (clS (vP T H)) z).1.2
     = some (((O ++ rowTo tt2 a s T.length).foldl (clS (vP T H)) z).2, u, u2, T, H, f, g, g2, ((O ++ rowTo tt2 a s T.length).foldl (clS (vP T H)) z).1.1, ((O ++ rowTo tt2 a s T.length).foldl (clS (vP T H)) z).1.2)
  | 0, k, h1, h2, h3 => by omega
  | n + 1, k, h1, h2, h3 => by
    unfold closest_l2
    have hT := h.n
    by_cases c : k < T.length
    · rw [br_dec (by omega), eleast_v hN h (by omega) (by omega)]
      simp only [Option.bind_some, Int.toNat_natCast]
      have next := closest_l2_p hN h (s := s) (u := u) (u2 := u2) (g := g) (g2 := g2) (O := O) (z := z) ha n (k + 1) (by omega) (by omega) (by omega)
      rw [show ((k + 1 : Nat) : Int) = (k : Int) + 1 by omega, rowTo_yes h2 (show tt2 a k = true from rfl), ← List.append_assoc, List.foldl_append (l := O ++ rowTo tt2 a s k)] at next
      generalize (O ++ rowTo tt2 a s k).foldl (clS (vP T H)) z = S at next ⊢
      rw [List.foldl_cons, List.foldl_nil] at next
      have ev : leastV H (T.getD a []) (T.getD k []) = vP T H ((a : Int), (k : Int)) := by simp [vP]
      rw [ev]
      unfold clS at next
      by_cases d : vP T H ((a : Int), (k : Int)) < S.2
      · rw [br_dec d]
        rw [if_pos d] at next
        unfold closest_j1
        rw [chk_eq (by omega)]
        exact next
      · rw [br_ndec d]
        rw [if_neg d] at next
        unfold closest_j1
        rw [chk_eq (by omega)]
        exact next
    · have e : k = T.length := by omega
      rw [br_ndec (by omega), e]
theorem closest_l1_p (hN : 20 ≤ N) (h : Fine T H f) {g g2 : Int} {z : (Int × Int) × Int} : ∀ (n k : Nat), T.length < n + k → k ≤ T.length →
    closest_l1 N n ((allTo tt2 T.length 0 k).foldl (clS (vP T H)) z).2 (T.length : Int) k T H f g g2 ((allTo tt2 T.length 0 k).foldl (clS (vP T H)) z).1.1 ((allTo tt2 T.length 0 k).foldl (clS (vP T H)) z).1.2
     = some (((prs T.length).foldl (clS (vP T H)) z).2, g, g2, ((prs T.length).foldl (clS (vP T H)) z).1.1, ((prs T.length).foldl (clS (vP T H)) z).1.2)
  | 0, k, h1, h2 => by omega
  | n + 1, k, h1, h2 => by
    unfold closest_l1
    have hT := h.n
    by_cases c : k < T.length
    · rw [br_dec (by omega)]
      have e := closest_l2_p (N := N) hN h (s := k) (u := (T.length : Int)) (u2 := (k : Int)) (g := g) (g2 := g2) (O := allTo tt2 T.length 0 k) (z := z) c N k (by omega) (by omega) (by omega)
      rw [rowTo_zero, List.append_nil] at e
      rw [e]
      simp only [Option.bind_some]
      rw [chk_eq (by omega)]
      have next := closest_l1_p hN h (g := g) (g2 := g2) (z := z) n (k + 1) (by omega) (by omega)
      rw [allTo_succ, Nat.add_zero, show ((k + 1 : Nat) : Int) = (k : Int) + 1 by omega] at next
      exact next
    · have e : k = T.length := by omega
      rw [br_ndec (by omega), e]; rfl
theorem closest_v (hN : 20 ≤ N) (h : Fine T H f) : closest_S N T H f = some ((clV T H).1.1, (clV T H).1.2, (clV T H).2, 0) := by
  unfold closest_S
  have hT := h.n
  rw [check_v hN, h.check]
  simp only [Option.bind_some, decide_true, Bool.not_true, br_false]
  rw [eleast_v hN h (by omega) (by omega)]
  simp only [Option.bind_some]
  have := closest_l1_p (N := N) hN h (g := 0) (g2 := 0) (z := ((0, 0), vP T H (0, 0))) N 0 (by omega) (by omega)
  rw [show allTo tt2 T.length 0 0 = [] from rfl] at this
  simp only [List.foldl_nil] at this
  rw [show ((0 : Nat) : Int) = 0 from rfl] at this
  rw [show vP T H (0, 0) = leastV H (T.getD (0 : Int).toNat []) (T.getD (0 : Int).toNat []) from rfl] at this
  rw [this]; rfl
/-! ### The texts that are in all pairs -/
def mustP (t : Int) (p : Int × Int) : Bool := decide (p.1 = t) || decide (p.2 = t)
theorem ixfm_gen (t : Int) : ∀ (n : Nat) (s : List (Int × Int)) (u u2 : Int), ixfm_l1 N n s u u2 t = (ixL (fun p => some (!(mustP t p))) n s u u2).bind fun e => match e with | .inl i => some (.inl (i, t)) | .inr _ => some (.inr t)
  | 0, _, _, _ => rfl
  | n + 1, s, u, u2 => by
    unfold ixfm_l1 ixL
    by_cases c : u2 < u
    · rw [br_dec c, br_dec c]
      unfold idx
      by_cases c0 : 0 ≤ u2
      · rw [if_pos c0, if_pos c0]
        cases hx : s[u2.toNat]? with
        | none => rfl
        | some p =>
          have e1 : every1m_S N p.1 p.2 t = some (!(mustP t p), t) := by
            unfold every1m_S musts1_S mustP
            by_cases c1 : p.1 = t
            · rw [br_dec c1]; simp [c1]
            · rw [br_ndec c1]; simp [c1]
          dsimp only
          rw [e1]
          simp only [Option.bind_some]
          cases mustP t p with
          | false => rfl
          | true =>
            simp only [Bool.not_true, br_false]
            unfold chk
            cases okI (u2 + 1) with
            | false => rfl
            | true => exact ixfm_gen t n s u (u2 + 1)
      · rw [if_neg c0, if_neg c0]; rfl
    · rw [br_ndec c, br_ndec c]; rfl
theorem everym_v {s : List (Int × Int)} {t : Int} (hs : s.length ≤ 1000) (hN : s.length < N) : everym_S N s t = some (s.all (mustP t)) := by
  obtain ⟨r, h1, h2⟩ := ixL_ok (f := fun p => some (!(mustP t p))) (p := fun p => !(mustP t p)) (s := s) (fun _ _ => rfl) (by omega) N 0 (by omega) (by omega)
  unfold everym_S cofm_S ixfm_S
  rw [ixfm_gen]
  rw [show ((0 : Nat) : Int) = 0 from rfl] at h1
  rw [h1]
  rw [← any_not]
  cases r with
  | inl i => simp only [List.drop_zero] at h2; simp [h2.1.1, h2.2]
  | inr u => simp only [List.drop_zero] at h2; simp [h2]
/-- The texts that are in all of these pairs. -/
def mustL (P : List (Int × Int)) (k : Nat) : List Int := ((List.range k).filter fun (t : Nat) => P.all (mustP t)).map fun (x : Nat) => (x : Int)
theorem mustL_len (P : List (Int × Int)) (k : Nat) : (mustL P k).length ≤ k := by
  unfold mustL
  have := List.length_filter_le (fun (t : Nat) => P.all (mustP t)) (List.range k)
  simp at this ⊢; omega
theorem mem_mustL {P : List (Int × Int)} {k o : Nat} : (o : Int) ∈ mustL P k ↔ o < k ∧ P.all (mustP o) = true := by
  unfold mustL
  simp only [List.mem_map, List.mem_filter, List.mem_range]
  constructor
  · rintro ⟨x, ⟨h1, h2⟩, h3⟩
    have : x = o := by omega
    subst this; exact ⟨h1, h2⟩
  · rintro ⟨h1, h2⟩; exact ⟨o, ⟨h1, h2⟩, rfl⟩
theorem mustL_succ (P : List (Int × Int)) (k : Nat) : mustL P (k + 1) = mustL P k ++ (if P.all (mustP k) = true then [(k : Int)] else []) := by
  unfold mustL
  rw [List.range_succ, List.filter_append, List.map_append]
  by_cases hp : P.all (mustP k) = true <;> simp only [hp, List.filter_cons, List.filter_nil, if_true, if_false, List.map_cons, List.map_nil, Bool.false_eq_true]
theorem musts_l1_p {P : List (Int × Int)} {m : Nat} (hP : P.length ≤ 1000) (hN : P.length < N) (hm : m ≤ 1000) : ∀ (n k : Nat), m < n + k → k ≤ m → musts_l1 N n P (m : Int) k (mustL P k) = some (mustL P m)
  | 0, k, h1, h2 => by omega
  | n + 1, k, h1, h2 => by
    unfold musts_l1
    by_cases c : k < m
    · rw [br_dec (by omega), everym_v hP hN]
      simp only [Option.bind_some]
      have next := musts_l1_p hP hN hm n (k + 1) (by omega) (by omega)
      rw [show ((k + 1 : Nat) : Int) = (k : Int) + 1 by omega, mustL_succ] at next
      have wl := mustL_len P k
      by_cases d : P.all (mustP k) = true
      · rw [if_pos d] at next
        rw [d, br_true, lim_eq (by simp; omega)]
        unfold musts_j1
        rw [chk_eq (by omega)]
        exact next
      · rw [if_neg d, List.append_nil] at next
        rw [Bool.not_eq_true] at d
        rw [d, br_false]
        unfold musts_j1
        rw [chk_eq (by omega)]
        exact next
    · have e : k = m := by omega
      rw [br_ndec (by omega), e]
theorem musts_v (hN : 30 ≤ N) (h : Fine T H f) : musts_S N T H f = some (if allTo (pE T H f) T.length 0 T.length = [] then ([], 6) else (mustL (allTo (pE T H f) T.length 0 T.length) T.length, 0)) := by
  unfold musts_S
  have hT := h.n
  have al := allTo_len (pE T H f) T.length 0 T.length
  have : T.length * T.length ≤ 5 * 5 := Nat.mul_le_mul (by omega) (by omega)
  rw [check_v (by omega), h.check]
  simp only [Option.bind_some, decide_true, Bool.not_true, br_false]
  rw [epairs_v (by omega) h]
  simp only [Option.bind_some]
  by_cases c : allTo (pE T H f) T.length 0 T.length = []
  · rw [if_pos c, c]; rfl
  · have : (allTo (pE T H f) T.length 0 T.length).length ≠ 0 := fun h => c (List.eq_nil_of_length_eq_zero h)
    rw [if_neg c, br_ndec (by omega)]
    have := musts_l1_p (N := N) (P := allTo (pE T H f) T.length 0 T.length) (m := T.length) (by omega) (by omega) (by omega) N 0 (by omega) (by omega)
    rw [show mustL (allTo (pE T H f) T.length 0 T.length) 0 = [] from rfl, show ((0 : Nat) : Int) = 0 from rfl] at this
    rw [this]; rfl

/-! ### The law -/
theorem eother_l2_p (hN : 20 ≤ N) (h : Fine T H f) {least u2 u3 best best2 : Int} {can u : List (Int × Int)} {musts : List Int} {met : Bool} {p p2 : Int} (hp : 0 ≤ p ∧ p < T.length) (hp2 : 0 ≤ p2 ∧ p2 < T.length) : ∀ (n k : Nat), T.length < n + k → k ≤ T.length →
    eother_l2 N n least can musts met (vP T H (p, p2)) u u2 u3 (T.length : Int) k T H f best best2 p p2 = some (.inr (least, can, musts, met, u, u2, u3, T, H, f, best, best2))
  | 0, k, h1, h2 => by omega
  | n + 1, k, h1, h2 => by
    unfold eother_l2
    have hT := h.n
    by_cases c : k < T.length
    · have l1 := h.l (T.getD p.toNat []) (getD_mem (by omega))
      have l2 := h.l (T.getD p2.toNat []) (getD_mem (by omega))
      have l3 := h.l (T.getD k []) (getD_mem (by omega))
      have hH := h.h
      have d1 := leastV_far H (T.getD p.toNat []) (T.getD p2.toNat []) (T.getD k [])
      have d2 := leastV_far H (T.getD p.toNat []) (T.getD k []) (T.getD p2.toNat [])
      rw [distI_symm (T.getD k [])] at d2
      have n1 := distI_nonneg (T.getD p2.toNat []) (T.getD k [])
      have n2 : distI (T.getD p2.toNat []) (T.getD k []) ≤ 12 := by unfold distI; omega
      have b1 := tv_bnd mayA (H := H) l1.2 l2.2
      have b2 := tv_bnd mayA (H := H) l1.2 l3.2
      rw [br_dec (by omega), least_v hN h hp (by omega), dist_v hN h hp2 (by omega)]
      simp only [Option.bind_some, decide_true, Bool.not_true, br_false, Int.toNat_natCast]
      have e : vP T H (p, p2) = leastV H (T.getD p.toNat []) (T.getD p2.toNat []) := rfl
      have v1 : leastV H (T.getD p.toNat []) (T.getD p2.toNat []) = ((T.getD p.toNat []).length : Int) + (T.getD p2.toNat []).length + H.length - 2 * (tv mayA H (T.getD p.toNat []) (T.getD p2.toNat []) (0, 0, 0)).1 := rfl
      have v2 : leastV H (T.getD p.toNat []) (T.getD k []) = ((T.getD p.toNat []).length : Int) + (T.getD k []).length + H.length - 2 * (tv mayA H (T.getD p.toNat []) (T.getD k []) (0, 0, 0)).1 := rfl
      have next := eother_l2_p hN h (least := least) (u := u) (u2 := u2) (u3 := u3) (best := best) (best2 := best2) (can := can) (musts := musts) (met := met) hp hp2 n (k + 1) (by omega) (by omega)
      rw [show ((k + 1 : Nat) : Int) = (k : Int) + 1 by omega] at next
      rw [chk_eq (by omega), br_ndec (by omega), chk_eq (by omega), br_ndec (by omega), chk_eq (by omega)]
      exact next
    · rw [br_ndec (by omega)]
theorem eother_l1_p (hN : 30 ≤ N) (h : Fine T H f) {can : List (Int × Int)} {musts : List Int} : ∀ (n k : Nat), (prs T.length).length < n + k → k ≤ (prs T.length).length →
    eother_l1 N n (clV T H).2 can musts (decide ((clV T H).1 ∈ (prs T.length).take k)) (prs T.length) ((prs T.length).length : Int) k T H f (clV T H).1.1 (clV T H).1.2 = some (.inr (.inr (can, musts, true, T, H, f)))
  | 0, k, h1, h2 => by omega
  | n + 1, k, h1, h2 => by
    unfold eother_l1
    have hT := h.n
    have pl := prs_len T.length
    have : T.length * T.length ≤ 5 * 5 := Nat.mul_le_mul (by omega) (by omega)
    have ht0 := prs_cons hT.1
    obtain ⟨q1, q2, q3, q4, q5⟩ := clS_ok (vP T H) (prs T.length) ((0, 0), vP T H (0, 0)) rfl
    have hb : (clV T H).1 ∈ prs T.length := by
      rcases q4 with q4 | q4
      · have : (clV T H).1 = (0, 0) := by unfold clV; rw [q4]
        obtain ⟨tl, ht⟩ := ht0
        rw [this, ht]; simp
      · exact q4.1
    by_cases c : k < (prs T.length).length
    · have hx : (prs T.length).getD k (0, 0) ∈ prs T.length := getD_mem c
      have hx2 := mem_prs.1 hx
      have hge := q3 _ hx
      have e0 : (prs T.length)[k] = (prs T.length).getD k (0, 0) := by simp [List.getD, c]
      have hmet : vP T H ((prs T.length).getD k (0, 0)) = (clV T H).2 → (clV T H).1 ∈ (prs T.length).take (k + 1) := by
        intro he
        rcases q5 k c (by rw [e0]; exact he) with h6 | h6
        · exact h6
        · have : (clV T H).1 = (0, 0) := h6
          obtain ⟨tl, ht⟩ := ht0
          rw [this, ht, List.take_succ_cons]; simp
      have htk : (prs T.length).take (k + 1) = (prs T.length).take k ++ [(prs T.length).getD k (0, 0)] := by
        rw [List.take_add_one]; simp [List.getD, c]
      rw [htk] at hmet
      have next := eother_l1_p hN h (can := can) (musts := musts) n (k + 1) (by omega) (by omega)
      rw [show ((k + 1 : Nat) : Int) = (k : Int) + 1 by omega, htk] at next
      have q1' : vP T H (clV T H).1 = (clV T H).2 := q1
      have hge' : (clV T H).2 ≤ vP T H ((prs T.length).getD k (0, 0)) := hge
      have hk : (prs T.length)[((k : Nat) : Int).toNat]? = some ((prs T.length).getD k (0, 0)) := by simp [List.getD, c]
      clear e0 htk hge q1 q2 q3 q4 q5 ht0
      generalize (prs T.length).getD k (0, 0) = p at *
      generalize clV T H = C at *
      obtain ⟨⟨c1, c2⟩, cl⟩ := C
      obtain ⟨p1, p2⟩ := p
      dsimp only at *
      rw [br_dec (by omega), idx_eq (by omega) hk]
      rw [least_v (by omega) h (by omega) (by omega)]
      simp only [Option.bind_some, decide_true, Bool.not_true, br_false]
      have ev : leastV H (T.getD p1.toNat []) (T.getD p2.toNat []) = vP T H (p1, p2) := rfl
      rw [ev]
      rw [br_ndec (by omega)]
      have l2 := fun m => eother_l2_p (N := N) (by omega) h (least := cl) (u := prs T.length) (u2 := ((prs T.length).length : Int)) (u3 := (k : Int)) (best := c1) (best2 := c2) (can := can) (musts := musts) (met := m) (p := p1) (p2 := p2) (by omega) (by omega) N 0 (by omega) (by omega)
      rw [show ((0 : Nat) : Int) = 0 from rfl] at l2
      simp only [l2, Option.bind_some]
      have hck : ∀ x : Option (Unit ⊕ (Unit ⊕ ((List (Int × Int)) × List Int × Bool × List (List Int) × List Int × Int))), chk ((k : Int) + 1) x = x := fun x => chk_eq (by omega)
      simp only [hck]
      have hB : (decide (p1 = c1) && decide (p2 = c2)) = decide ((c1, c2) = (p1, p2)) := by
        rw [Bool.eq_iff_iff]
        simp only [Bool.and_eq_true, decide_eq_true_eq, Prod.mk.injEq]
        constructor
        · rintro ⟨rfl, rfl⟩; exact ⟨rfl, rfl⟩
        · rintro ⟨rfl, rfl⟩; exact ⟨rfl, rfl⟩
      rw [hB]
      have hM : decide ((c1, c2) ∈ (prs T.length).take k ++ [(p1, p2)]) = (decide ((c1, c2) ∈ (prs T.length).take k) || decide ((c1, c2) = (p1, p2))) := by
        rw [Bool.eq_iff_iff]
        simp only [List.mem_append, List.mem_singleton, decide_eq_true_eq, Bool.or_eq_true]
      have hM2 : vP T H (p1, p2) = cl → decide ((c1, c2) ∈ (prs T.length).take k) = false → decide ((c1, c2) = (p1, p2)) = true := by
        intro h1 h2
        have h3 := hmet h1
        rcases List.mem_append.1 h3 with h3 | h3
        · simp [h3] at h2
        · simpa using h3
      have hC : decide ((c1, c2) = (p1, p2)) = true → vP T H (p1, p2) = cl := by
        intro h1
        rw [decide_eq_true_eq] at h1
        rw [← h1]; exact q1'
      rw [hM] at next
      generalize decide ((c1, c2) ∈ (prs T.length).take k) = M at *
      generalize decide ((c1, c2) = (p1, p2)) = B at *
      cases B with
      | true =>
        have hv := hC rfl
        simp only [br_true, hv, decide_true, Bool.not_true, br_false, Bool.or_true] at next ⊢
        cases M <;> simp only [Bool.not_true, Bool.not_false, br_true, br_false] <;> exact next
      | false =>
        simp only [br_false, Bool.not_false, br_true, Bool.or_false] at next ⊢
        by_cases d : vP T H (p1, p2) = cl
        · have : M = true := by
            cases M with
            | true => rfl
            | false => exact absurd (hM2 d rfl) (by decide)
          subst this
          simp only [d, decide_true, br_true, Bool.not_true, br_false]
          exact next
        · rw [br_ndec d]
          cases M <;> simp only [br_true, br_false] <;> exact next
    · have e : k = (prs T.length).length := by omega
      rw [br_ndec (by omega), e, List.take_length, decide_eq_true hb]
theorem eother_l4_p {can c2 : List (Int × Int)} {musts : List Int} {met : Bool} {t u u2 : Int} (hc : c2.length ≤ 1000) : ∀ (n k : Nat) (all : Bool), c2.length < n + k → k ≤ c2.length →
    eother_l4 N n can musts met t all u u2 c2 (c2.length : Int) k T H f = some (can, musts, met, t, (all && (c2.drop k).all (mustP t)), u, u2, T, H, f)
  | 0, k, all, h1, h2 => by omega
  | n + 1, k, all, h1, h2 => by
    unfold eother_l4
    by_cases c : k < c2.length
    · have hd : c2.drop k = c2.getD k (0, 0) :: c2.drop (k + 1) := by
        rw [List.drop_eq_getElem_cons c]; simp [List.getD, c]
      have hk : c2[((k : Nat) : Int).toNat]? = some (c2.getD k (0, 0)) := by simp [List.getD, c]
      generalize c2.getD k (0, 0) = p at *
      rw [br_dec (by omega), idx_eq (by omega) hk]
      rw [hd, List.all_cons]
      have next := fun a => eother_l4_p (can := can) (musts := musts) (met := met) (t := t) (u := u) (u2 := u2) hc n (k + 1) a (by omega) (by omega)
      rw [show ((k + 1 : Nat) : Int) = (k : Int) + 1 by omega] at next
      cases all with
      | false =>
        rw [br_false, chk_eq (by omega), next]
        simp
      | true =>
        rw [br_true]
        by_cases d : p.1 = t
        · rw [br_dec d, chk_eq (by omega), next]
          simp [mustP, d]
        · rw [br_ndec d, chk_eq (by omega), next]
          simp [mustP, d]
    · have e : k = c2.length := by omega
      rw [br_ndec (by omega), e, List.drop_length]; simp
theorem eother_l5_p (hN : 30 ≤ N) (h : Fine T H f) {musts : List Int} {met : Bool} {t : Nat} {u u2 : Int} (ht : t < T.length) : ∀ (n k : Nat), T.length < n + k → k ≤ T.length →
    eother_l5 N n (allTo (pE T H f) T.length 0 T.length) musts met t (withL T H f t T.length) u u2 (T.length : Int) k T H f = some (.inr (allTo (pE T H f) T.length 0 T.length, musts, met, u, u2, T, H, f))
  | 0, k, h1, h2 => by omega
  | n + 1, k, h1, h2 => by
    unfold eother_l5
    have hT := h.n
    have al := allTo_len (pE T H f) T.length 0 T.length
    have : T.length * T.length ≤ 5 * 5 := Nat.mul_le_mul (by omega) (by omega)
    have wl := withL_len T H f t T.length
    by_cases c : k < T.length
    · rw [br_dec (by omega), containsi_v (by omega) (by omega), containsp_v (by omega) (by omega)]
      simp only [Option.bind_some]
      have sy : pE T H f t k = pE T H f k t := by simp only [pE]; rw [leastV_sym]
      have e1 : (withL T H f t T.length).contains (k : Int) = pE T H f t k := by
        rw [Bool.eq_iff_iff, List.contains_iff_mem, mem_withL]
        exact ⟨fun h => h.2, fun h => ⟨c, h⟩⟩
      have e2 : (allTo (pE T H f) T.length 0 T.length).contains (min (t : Int) (k : Int), max (t : Int) (k : Int)) = pE T H f t k := by
        rcases Nat.le_total t k with h6 | h6
        · rw [show min (t : Int) k = ((t : Nat) : Int) by omega, show max (t : Int) k = ((k : Nat) : Int) by omega]
          exact allTo_contains ht (by omega) c
        · rw [show min (t : Int) k = ((k : Nat) : Int) by omega, show max (t : Int) k = ((t : Nat) : Int) by omega, sy]
          exact allTo_contains c (by omega) ht
      rw [e1, e2]
      simp only [beq_self_eq_true, Bool.not_true, br_false]
      rw [chk_eq (by omega)]
      have next := eother_l5_p hN h (musts := musts) (met := met) (u := u) (u2 := u2) ht n (k + 1) (by omega) (by omega)
      rw [show ((k + 1 : Nat) : Int) = (k : Int) + 1 by omega] at next
      exact next
    · rw [br_ndec (by omega)]
theorem eother_l3_p (hN : 30 ≤ N) (h : Fine T H f) {musts : List Int} {met : Bool} (hm : musts.length ≤ 100 ∧ musts.length < N) (hc : ∀ t : Nat, t < T.length → musts.contains (t : Int) = (decide (0 < ((allTo (pE T H f) T.length 0 T.length).length : Int)) && (allTo (pE T H f) T.length 0 T.length).all (mustP t))) : ∀ (n k : Nat), T.length < n + k → k ≤ T.length →
    eother_l3 N n (allTo (pE T H f) T.length 0 T.length) musts met (T.length : Int) k T H f = some (.inr (.inr met))
  | 0, k, h1, h2 => by omega
  | n + 1, k, h1, h2 => by
    unfold eother_l3
    have hT := h.n
    have al := allTo_len (pE T H f) T.length 0 T.length
    have : T.length * T.length ≤ 5 * 5 := Nat.mul_le_mul (by omega) (by omega)
    by_cases c : k < T.length
    · rw [br_dec (by omega)]
      have e4 := eother_l4_p (N := N) (T := T) (H := H) (f := f) (can := allTo (pE T H f) T.length 0 T.length) (c2 := allTo (pE T H f) T.length 0 T.length) (musts := musts) (met := met) (t := (k : Int)) (u := (T.length : Int)) (u2 := (k : Int)) (by omega) N 0 (decide (0 < ((allTo (pE T H f) T.length 0 T.length).length : Int))) (by omega) (by omega)
      rw [show ((0 : Nat) : Int) = 0 from rfl, List.drop_zero] at e4
      rw [e4]
      simp only [Option.bind_some]
      rw [with_v (by omega) h (by omega)]
      simp only [Option.bind_some, decide_true, Bool.not_true, br_false, Int.toNat_natCast]
      rw [containsi_v (by omega) (by omega), hc k c]
      simp only [Option.bind_some, beq_self_eq_true, Bool.not_true, br_false]
      have e5 := eother_l5_p (N := N) hN h (musts := musts) (met := met) (u := (T.length : Int)) (u2 := (k : Int)) c N 0 (by omega) (by omega)
      rw [show ((0 : Nat) : Int) = 0 from rfl] at e5
      rw [e5]
      simp only [Option.bind_some]
      rw [chk_eq (by omega)]
      have next := eother_l3_p hN h (met := met) hm hc n (k + 1) (by omega) (by omega)
      rw [show ((k + 1 : Nat) : Int) = (k : Int) + 1 by omega] at next
      exact next
    · rw [br_ndec (by omega)]
theorem eother_true {ns : List Int} (h1 : ns.length ≤ 9223372036854775807) : eother_S 1100 ns = some true := by
  unfold eother_S hang_S
  simp only [Option.bind_some]
  obtain ⟨T, H, f, b2, b3, e, hb, hT, hn, hH, hl, hf⟩ := made_p (N := 1100) (by omega) (tx := 4) (wo := 5) (he := 8) (by omega) (by omega) (by omega) (b := ns) (b2 := 0) (b3 := 0) ⟨h1, by omega, by omega⟩
  rw [e]
  simp only [Option.bind_some]
  have hF : Fine T H f := Fine.of_txt hT (by omega) hn hH (by omega) (by omega)
  have al := allTo_len (pE T H f) T.length 0 T.length
  have pl := prs_len T.length
  have : T.length * T.length ≤ 5 * 5 := Nat.mul_le_mul (by omega) (by omega)
  rw [closest_v (by omega) hF, pairs_v (by omega) hF, musts_v (by omega) hF]
  simp only [Option.bind_some, decide_true, Bool.not_true, br_false]
  have e1 := fun (can : List (Int × Int)) (musts : List Int) => eother_l1_p (N := 1100) (by omega) hF (can := can) (musts := musts) 1100 0 (by omega) (by omega)
  simp only [List.take_zero, List.not_mem_nil, decide_false, show ((0 : Nat) : Int) = 0 from rfl] at e1
  by_cases c : allTo (pE T H f) T.length 0 T.length = []
  · have e3 := eother_l3_p (N := 1100) (by omega) hF (musts := []) (met := true) (by simp) (fun t ht => by rw [c]; rfl) 1100 0 (by omega) (by omega)
    rw [show ((0 : Nat) : Int) = 0 from rfl, c] at e3
    rw [if_pos c, c]
    dsimp only
    simp only [List.length_nil, Int.natCast_zero, decide_true, beq_self_eq_true, Bool.not_true, br_false]
    rw [br_nnd (by omega), lpairs_v (by omega) (by omega)]
    simp only [Option.bind_some]
    rw [e1]
    simp only [Option.bind_some]
    rw [e3]
    simp only [Option.bind_some, br_true, awake_v]
  · have e3 := eother_l3_p (N := 1100) (by omega) hF (musts := mustL (allTo (pE T H f) T.length 0 T.length) T.length) (met := true) (by have := mustL_len (allTo (pE T H f) T.length 0 T.length) T.length; omega) (fun t ht => by
      have : (allTo (pE T H f) T.length 0 T.length).length ≠ 0 := fun h => c (List.eq_nil_of_length_eq_zero h)
      rw [decide_eq_true (by omega), Bool.true_and, Bool.eq_iff_iff, List.contains_iff_mem, mem_mustL]
      exact ⟨fun h => h.2, fun h => ⟨ht, h⟩⟩) 1100 0 (by omega) (by omega)
    rw [show ((0 : Nat) : Int) = 0 from rfl] at e3
    have : (allTo (pE T H f) T.length 0 T.length).length ≠ 0 := fun h => c (List.eq_nil_of_length_eq_zero h)
    rw [if_neg c]
    dsimp only
    rw [show decide ((0 : Int) = 6) = false from rfl, decide_eq_false (show ¬ (((allTo (pE T H f) T.length 0 T.length).length : Int) = 0) by omega)]
    simp only [beq_self_eq_true, Bool.not_true, br_false, decide_true]
    rw [lpairs_v (by omega) (by omega)]
    simp only [Option.bind_some]
    rw [e1]
    simp only [Option.bind_some]
    rw [e3]
    simp only [Option.bind_some, br_true, awake_v]
end
end Go.Proofs.Ytfcnhnbnjdccfaa

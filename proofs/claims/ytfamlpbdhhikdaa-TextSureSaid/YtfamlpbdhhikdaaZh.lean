/-
  Parts of a proof, put together: TD2, TD3, TD4, TD5, X4, X5, TD6, TD7, TD8, TD9, TB, TL1, TL2, TL3, TL4.
  Conditions: none.
-/
import Derived.Test.YtfamlpbdhhikdaaZg
namespace Go.Proofs.Ytfamlpbdhhikdaa
set_option linter.all false
open Go


/-! ### fewestr -/
def fewestr_in (N n : Nat) (d : Tx) (from_ to : Int) (r : Tx) (least next : List Int) : Option (Tx × Int × Tx × List Int × List Int) :=
  (right_S N r from_ to).bind fun x_5 =>
          br (!x_5)
            (fewestr_j1 N (fewestr_l2 N n) d from_ to r least next)
            (rng from_ 13 <|
            get next from_.toNat fun x_6 =>
            br (decide (x_6 = 0))
              (rng to 13 <|
              get least to.toNat fun x_7 =>
              chk (x_7 + 1) <|
              rng from_ 13 <|
              get least from_.toNat fun _ =>
              rng from_ 13 <|
              get next from_.toNat fun _ =>
              fewestr_j1 N (fewestr_l2 N n) d from_ to r (least.set from_.toNat (x_7 + 1)) (next.set from_.toNat to))
              (rng to 13 <|
              get least to.toNat fun x_10 =>
              chk (x_10 + 1) <|
              rng from_ 13 <|
              get least from_.toNat fun x_11 =>
              br (decide ((x_10 + 1) < x_11))
                (rng to 13 <|
                get least to.toNat fun x_12 =>
                chk (x_12 + 1) <|
                rng from_ 13 <|
                get least from_.toNat fun _ =>
                rng from_ 13 <|
                get next from_.toNat fun _ =>
                fewestr_j1 N (fewestr_l2 N n) d from_ to r (least.set from_.toNat (x_12 + 1)) (next.set from_.toNat to))
                (fewestr_j1 N (fewestr_l2 N n) d from_ to r least next)))
section
variable {N : Nat} (hN : 110 ≤ N) {d : Tx} {r : Tx} {R : Nat → Nat → Bool} {m : Nat} (hd : d.1.length = m) (hm : 1 ≤ m ∧ m ≤ 12) (hR : ∀ a b : Nat, a < b → b ≤ m → right_S N r a b = some (R a b))
include hd hm hR
theorem fewestr_l2_p {f : Nat} (hf : f < m) : ∀ (n to : Nat) (L X : List Int), m + 1 < n + to → f < to → to ≤ m + 1 → Tab R m f L X → Cur R m f to L X →
    Ok (fewestr_l2 N n d f to r L X) fun z => z.1 = d ∧ z.2.1 = f ∧ z.2.2.1 = r ∧ Tab R m f z.2.2.2.1 z.2.2.2.2 ∧ Cur R m f (m + 1) z.2.2.2.1 z.2.2.2.2
  | 0, to, L, X, h, _, _, _, _ => by omega
  | n + 1, to, L, X, h, h1, h2, hT, hC => by
    have hL := hT.hL; have hX := hT.hX
    unfold fewestr_l2
    simp only [end__S, hd, Option.bind_some]
    by_cases c : to ≤ m
    rotate_left
    · obtain rfl : to = m + 1 := by omega
      rw [br_ndec (by omega)]
      exact Ok.some ⟨rfl, rfl, rfl, hT, hC⟩
    rw [br_dec (by omega)]
    have hj : ∀ L X, fewestr_j1 N (fewestr_l2 N n) d f to r L X = fewestr_l2 N n d f ((to + 1 : Nat) : Int) r L X := fun L X => by
      unfold fewestr_j1
      rw [chk_eq (by omega)]; rfl
    have ih := fewestr_l2_p hf n (to + 1)
    have inner : (to < m → X.getD to 0 ≠ 0) → Ok (fewestr_in N n d f to r L X) fun z => z.1 = d ∧ z.2.1 = f ∧ z.2.2.1 = r ∧ Tab R m f z.2.2.2.1 z.2.2.2.2 ∧ Cur R m f (m + 1) z.2.2.2.1 z.2.2.2.2 := by
      intro hx
      have ht := hT.min h1 c hx
      have b1 := hT.bd to (by omega)
      unfold fewestr_in
      rw [hR f to h1 c]
      simp only [Option.bind_some, Int.toNat_natCast, hj]
      cases hr : R f to
      · rw [Bool.not_false, br_true]
        exact ih _ _ (by omega) (by omega) (by omega) hT (hC.skip (fun e => by rw [hr] at e; cases e))
      · rw [Bool.not_true, br_false, rng_eq (by omega), get_get 0 (by omega)]
        by_cases e : X.getD f 0 = 0
        · rw [br_dec e, rng_eq (by omega), get_get 0 (by omega), chk_eq (by omega), rng_eq (by omega), get_get 0 (by omega), rng_eq (by omega), get_get 0 (by omega)]
          exact ih _ _ (by omega) (by omega) (by omega) (hT.put hf hm.2 h1 c) (hC.put hL hX (by omega) h1 c hr ht (.inl e))
        · rw [br_ndec e, rng_eq (by omega), get_get 0 (by omega), chk_eq (by omega), rng_eq (by omega), get_get 0 (by omega)]
          by_cases e2 : L.getD to 0 + 1 < L.getD f 0
          · rw [br_dec e2, rng_eq (by omega), get_get 0 (by omega), chk_eq (by omega), rng_eq (by omega), get_get 0 (by omega), rng_eq (by omega), get_get 0 (by omega)]
            exact ih _ _ (by omega) (by omega) (by omega) (hT.put hf hm.2 h1 c) (hC.put hL hX (by omega) h1 c hr ht (.inr e2))
          · rw [br_ndec e2]
            exact ih _ _ (by omega) (by omega) (by omega) hT (hC.keep e ht (by omega))
    by_cases c2 : to < m
    · rw [br_dec (by omega), rng_eq (by omega), get_get 0 (by omega)]
      simp only [Int.toNat_natCast]
      by_cases e : X.getD to 0 = 0
      · rw [br_dec e, hj]
        refine ih _ _ (by omega) (by omega) (by omega) hT (hC.skip fun _ l => ?_)
        rcases hT.told to h1 c2 with ⟨_, h4⟩ | ⟨q, h3, h4, _⟩
        · exact h4 l
        · omega
      · rw [br_ndec e]
        exact inner fun _ => e
    · rw [br_ndec (by omega)]
      exact inner fun h => by omega
include hN in
theorem fewestr_l1_p : ∀ (n f : Nat) (L X : List Int), f < n → f ≤ m → L.length = 13 → X.length = 13 → (∀ i, i < 13 → 0 ≤ L.getD i 0 ∧ L.getD i 0 ≤ 13 - (i : Int)) → (∀ i, i < f → X.getD i 0 = 0) → L.getD m 0 = 0 → (∀ i, f ≤ i → i < m → Told R m L X i) →
    Ok (fewestr_l1 N n d ((f : Int) - 1) r L X) fun z => z.1 = d ∧ z.2.length = 13 ∧ ∃ L' : List Int, ∀ i, i < m → Told R m L' z.2 i
  | 0, f, L, X, h, _, _, _, _, _, _, _ => by omega
  | n + 1, f, L, X, h, hf, hL, hX, bd, lo, en, told => by
    unfold fewestr_l1
    by_cases c : f = 0
    · subst c
      rw [br_ndec (by omega)]
      exact Ok.some ⟨rfl, hX, L, fun i hi => told i (by omega) hi⟩
    · obtain ⟨g, rfl⟩ : ∃ g, f = g + 1 := ⟨f - 1, by omega⟩
      rw [br_dec (by omega), chk_eq (by omega), show ((g + 1 : Nat) : Int) - 1 = (g : Int) by omega, show (g : Int) + 1 = ((g + 1 : Nat) : Int) by omega]
      have hT : Tab R m g L X := ⟨hL, hX, bd, fun i hi => lo i (by omega), en, fun i h1 h2 => told i (by omega) h2⟩
      refine Ok.bind (fewestr_l2_p hd hm hR (f := g) (by omega) N (g + 1) L X (by omega) (by omega) (by omega) hT (Cur.start (lo g (by omega)))) ?_
      rintro ⟨d', f', r', L', X'⟩ ⟨e1, e2, e3, hT', hC'⟩
      dsimp only at e1 e2 e3 hT' hC' ⊢
      rw [e1, e2, e3, chk_eq (by omega)]
      have ih := fewestr_l1_p n g L' X' (by omega) (by omega) hT'.hL hT'.hX hT'.bd hT'.lo hT'.en (hT'.next (by omega) hC')
      exact ih
omit hm hR in
theorem fewestr_l3_p {L X : List Int} (hm : 1 ≤ m ∧ m ≤ 12) (hX : X.length = 13) (told : ∀ i, i < m → Told R m L X i) : ∀ (n a : Nat) (O : List Int), m < n + a → a ≤ m → O.length ≤ a → (a < m → X.getD a 0 ≠ 0) →
    Ok (fewestr_l3 N n d a X O) fun z => ∃ l, z = O ++ l ∧ goodB R m a l = true ∧ IsMin R m a l.length
  | 0, a, O, h, _, _, _ => by omega
  | n + 1, a, O, h, ha, hO, hx => by
    unfold fewestr_l3
    simp only [end__S, hd, Option.bind_some]
    by_cases c : a < m
    · rcases told a c with ⟨h3, _⟩ | ⟨q, h3, h4, h5, h6, h7, h8⟩
      · exact absurd h3 (hx c)
      · rw [br_dec (by omega), rng_eq (by omega), get_get 0 (by omega)]
        simp only [Int.toNat_natCast, h3]
        rw [chk_eq (by omega), lim_eq (by simp; omega), rng_eq (by omega), get_get 0 (by omega), h3]
        have hq : q < m → X.getD q 0 ≠ 0 := fun hq e => by
          rcases told q hq with ⟨_, h9⟩ | ⟨q', h9, h10, _⟩
          · obtain ⟨l, hl, _⟩ := h8.ex
            rw [h9 l] at hl; cases hl
          · omega
        refine (fewestr_l3_p hm hX told n q (O ++ [(q : Int) - a]) (by omega) (by omega) (by simp; omega) hq).mono ?_
        rintro z ⟨l, rfl, hl, hmin⟩
        refine ⟨((q : Int) - a) :: l, by simp, good_step h4 h5 h6 hl, ?_⟩
        have e : (l.length : Int) = L.getD a 0 - 1 := by
          obtain ⟨l1, g1, k1⟩ := h8.ex
          have := hmin.le l1 g1; have := h8.le l hl; omega
        rw [List.length_cons, show ((l.length + 1 : Nat) : Int) = L.getD a 0 by omega]
        exact h7
    · obtain rfl : a = m := by omega
      rw [br_ndec (by omega)]
      exact Ok.some ⟨[], by simp, by simp [goodB], IsMin.end_⟩
include hN
theorem fewestr_v : (∃ l, fewestr_S N r d = some (l, true) ∧ goodB R m 0 l = true ∧ IsMin R m 0 l.length) ∨ (fewestr_S N r d = some ([], false) ∧ ∀ l, goodB R m 0 l = false) := by
  have rep : ∀ i, (List.replicate 13 (0 : Int)).getD i 0 = 0 := fun i => by
    simp only [List.getD, List.getElem?_replicate]
    split <;> rfl
  have e1 := fewestr_l1_p hN hd hm hR N m (List.replicate 13 0) (List.replicate 13 0) (by omega) (by omega) (by simp) (by simp) (fun i hi => by rw [rep]; omega) (fun i _ => rep i) (rep m) (fun i h1 h2 => by omega)
  obtain ⟨⟨d', X⟩, e, e2, hX, L, told⟩ := e1
  dsimp only at e2 hX told
  subst e2
  unfold fewestr_S
  simp only [end__S, hd, Option.bind_some]
  rw [chk_eq (by omega), e]
  simp only [Option.bind_some]
  rw [get_get 0 (by omega)]
  by_cases c : X.getD 0 0 = 0
  · rw [br_dec c]
    refine .inr ⟨rfl, ?_⟩
    rcases told 0 (by omega) with ⟨_, h⟩ | ⟨q, h1, h2, _⟩
    · exact h
    · omega
  · rw [br_ndec c]
    obtain ⟨z, e3, l, hz, hl, hmin⟩ := fewestr_l3_p hd hm hX told N 0 [] (by omega) (by omega) (by simp) (fun _ => c)
    simp only [Int.natCast_zero] at e3
    rw [List.nil_append] at hz
    subst hz
    rw [e3]
    exact .inl ⟨_, rfl, hl, hmin⟩
end
end Go.Proofs.Ytfamlpbdhhikdaa

namespace Go.Proofs.Ytfamlpbdhhikdaa
set_option linter.all false
open Go


/-! ### feweste -/
section
variable {N : Nat} (hN : 110 ≤ N) {d : Tx} {r : (Tx × Int × Tx)} {R : Nat → Nat → Bool} {m : Nat} (hd : d.1.length = m) (hm : 1 ≤ m ∧ m ≤ 12) (hR : ∀ a b : Nat, a < b → b ≤ m → even1_S N a b r.1 r.2.1 r.2.2 = some (R a b))
include hd hm hR
include hN
end

/-! ### fewests -/
section
variable {N : Nat} (hN : 110 ≤ N) {d : Tx} {r : Tx} {R : Nat → Nat → Bool} {m : Nat} (hd : d.1.length = m) (hm : 1 ≤ m ∧ m ≤ 12) (hR : ∀ a b : Nat, a < b → b ≤ m → surest1_S N a b r = some (R a b))
include hd hm hR
include hN
end
end Go.Proofs.Ytfamlpbdhhikdaa

namespace Go.Proofs.Ytfamlpbdhhikdaa
set_option linter.all false
open Go

/-- All readings from a place to the end, all of whose breaths are right. -/
def goods (R : Nat → Nat → Bool) (m : Nat) : Nat → Nat → List (List Int)
  | 0, a => if a = m then [[]] else []
  | n + 1, a => if a = m then [[]] else (toL (R a) m (a + 1)).flatMap fun q => (goods R m n q).map fun l => ((q : Int) - a) :: l
section
variable {R : Nat → Nat → Bool} {m : Nat}
/-- The right readings. -/
def goodsL (R : Nat → Nat → Bool) (m a : Nat) : List (List Int) := goods R m 13 a
end
/-! ### Tables of numbers -/
section
variable {N : Nat} (hN : 110 ≤ N) {ws : List Wd} {ts : List Tn} {br_ : Int} (hF : TFine ws ts br_)
include hF
include hN
end
end Go.Proofs.Ytfamlpbdhhikdaa

namespace Go.Proofs.Ytfamlpbdhhikdaa
set_option linter.all false
open Go

section
variable {R : Nat → Nat → Bool} {m : Nat}
/-- The places at which a reading breaks. -/
def psums : Int → List Int → List Int
  | _, [] => []
  | a, x :: l => (a + x) :: psums (a + x) l
/-- A place that is met, and from which a reading goes on. -/
def metB (R : Nat → Nat → Bool) (p : Nat) : Bool := !(goodsL R p 0).isEmpty
def finB (R : Nat → Nat → Bool) (m p : Nat) : Bool := !(goodsL R m p).isEmpty
def brkB (R : Nat → Nat → Bool) (m p : Nat) : Bool := metB R p && finB R m p
/-- At which places readings were found to break so far. -/
def MetSo (R : Nat → Nat → Bool) (m k : Nat) (M : List Bool) : Prop := M.length = 13 ∧ ∀ q, q ≤ m → (M.getD q false = true ↔ q = 0 ∨ ∃ p, p < k ∧ p < q ∧ brkB R m p = true ∧ R p q = true)
theorem MetSo.skip {k : Nat} {M : List Bool} (h : MetSo R m k M) (hb : brkB R m k = false) : MetSo R m (k + 1) M := by
  refine ⟨h.1, fun q hq => (h.2 q hq).trans ?_⟩
  constructor
  · rintro (h1 | ⟨p, h1, h2⟩)
    · exact .inl h1
    · exact .inr ⟨p, by omega, h2⟩
  · rintro (h1 | ⟨p, h1, h2, h3, h4⟩)
    · exact .inl h1
    · by_cases e : p = k
      · subst e; rw [hb] at h3; cases h3
      · exact .inr ⟨p, by omega, h2, h3, h4⟩
end
section
variable {N : Nat} (hN : 110 ≤ N) {ws : List Wd} {ts : List Tn} {br_ : Int} (hF : TFine ws ts br_)
include hF
end
end Go.Proofs.Ytfamlpbdhhikdaa

namespace Go.Proofs.Ytfamlpbdhhikdaa
set_option linter.all false
open Go

def made_l1 (N : Nat) : Nat → Int → Int → Int → (List Int) → Int → Int → Int → Int → (List (Int × (Int × Bool))) → Option (Int × List Int × Int × Int × Int × Int × (List (Int × (Int × Bool))))
  | 0, _, _, _, _, _, _, _, _, _ => none
  | n_ + 1, turns, u, u2, b, b2, b3, g, t, t2 =>
    br (decide (u2 < u))
      ((strike_S N 1 4 b b2 b3).bind fun (x_9, y_10, y_11, y_12) =>
      (stroke_S N 9 y_10 y_11 y_12).bind fun (x_13, y_14, y_15, y_16) =>
      (seldom_S N 3 y_14 y_15 y_16).bind fun (x_17, y_18, y_19, y_20) =>
      lim (t2.length + [(x_9, x_13, (!x_17))].length) <|
      chk (u2 + 1) <|
      made_l1 N n_ turns u (u2 + 1) y_18 y_19 y_20 g t (t2 ++ [(x_9, x_13, (!x_17))]))
      (some ((turns, b, b2, b3, g, t, t2)))
def made_j1 (N : Nat) (rec : Int → Int → (List Int) → Int → Int → Int → Int → (List (Int × (Int × Bool))) → (List (Int × (Int × Int))) → Option (List Int × Int × Int × Int × Int × (List (Int × (Int × Bool))) × (List (Int × (Int × Int))))) (u : Int) (u2 : Int) (b : List Int) (b2 : Int) (b3 : Int) (g : Int) (t : Int) (t2 : List (Int × (Int × Bool))) (t3 : List (Int × (Int × Int))) : Option (List Int × Int × Int × Int × Int × (List (Int × (Int × Bool))) × (List (Int × (Int × Int)))) :=
  chk (u2 + 1) <|
  rec u (u2 + 1) b b2 b3 g t t2 t3
def made_l2 (N : Nat) : Nat → Int → Int → (List Int) → Int → Int → Int → Int → (List (Int × (Int × Bool))) → (List (Int × (Int × Int))) → Option (List Int × Int × Int × Int × Int × (List (Int × (Int × Bool))) × (List (Int × (Int × Int))))
  | 0, _, _, _, _, _, _, _, _, _ => none
  | n_ + 1, u, u2, b, b2, b3, g, t, t2, t3 =>
    br (decide (u2 < u))
      (br (decide ((t2.length : Int) < 2))
        (some ((b, b2, b3, g, t, t2, t3)))
        (chk ((t2.length : Int) - 1) <|
        (stroke_S N ((t2.length : Int) - 1) b b2 b3).bind fun (x_32, y_33, y_34, y_35) =>
        chk ((t2.length : Int) - 1) <|
        (stroke_S N 2 y_33 y_34 y_35).bind fun (x_36, y_37, y_38, y_39) =>
        chk (x_32 + x_36) <|
        chk ((t2.length : Int) - 1) <|
        (stroke_S N ((t2.length : Int) - 1) y_37 y_38 y_39).bind fun (x_40, y_41, y_42, y_43) =>
        br (decide (x_40 < x_32))
          (lim (t3.length + [(x_40, x_32, (min ((t2.length : Int) - 1) (x_32 + x_36)))].length) <|
          made_j1 N (made_l2 N n_) u u2 y_41 y_42 y_43 g t t2 (t3 ++ [(x_40, x_32, (min ((t2.length : Int) - 1) (x_32 + x_36)))]))
          (br (decide ((min ((t2.length : Int) - 1) (x_32 + x_36)) < x_40))
            (lim (t3.length + [(x_40, x_32, (min ((t2.length : Int) - 1) (x_32 + x_36)))].length) <|
            made_j1 N (made_l2 N n_) u u2 y_41 y_42 y_43 g t t2 (t3 ++ [(x_40, x_32, (min ((t2.length : Int) - 1) (x_32 + x_36)))]))
            (made_j1 N (made_l2 N n_) u u2 y_41 y_42 y_43 g t t2 t3))))
      (some ((b, b2, b3, g, t, t2, t3)))
def made_S (N : Nat) (words : Int) (turns : Int) (b : List Int) (b2 : Int) (b3 : Int) : Option ((List (Int × (Int × Bool))) × (List (Int × (Int × Int))) × Int × List Int × Int × Int) :=
  (strike_S N 3 14 b b2 b3).bind fun (x_1, y_2, y_3, y_4) =>
  (strike_S N 1 words y_2 y_3 y_4).bind fun (x_5, y_6, y_7, y_8) =>
  (made_l1 N N turns x_5 0 y_6 y_7 y_8 0 x_1 []).bind fun (turns_21, b_22, b2_23, b3_24, g_25, t_26, t2_27) =>
  (stroke_S N turns_21 b_22 b2_23 b3_24).bind fun (x_28, y_29, y_30, y_31) =>
  (made_l2 N N x_28 0 y_29 y_30 y_31 g_25 t_26 t2_27 []).bind fun (g_44, g2_45, g3_46, g4_47, t_48, t2_49, t3_50) =>
  some (t2_49, t3_50, t_48, g_44, g2_45, g3_46)
noncomputable def made_sp (N : Nat) : List Spec := [sp_stroke N, sp_strike N, sp_seldom N]
theorem made_all (N : Nat) : AllP (SpecOK Try.prog) (made_sp N) := ⟨sp_stroke_ok N, sp_strike_ok N, sp_seldom_ok N, trivial⟩
noncomputable def made_c : Code := (Try.f36.body).getD .skip
noncomputable abbrev made_B : Body := { c := made_c, n := 83, res := [.cell 6 25], outs := [⟨[.agg [.sl (.pair (.int .i64) (.pair (.int .i64) .bool)), .sl (.pair (.int .i64) (.pair (.int .i64) (.int .i64))), .i .i64]], [.segs [.sl (.int .u8), .i .i64, .i .u32]]⟩], m0 := 1 }
abbrev made_rt : altD made_B.outs → Option ((List (Int × (Int × Bool))) × (List (Int × (Int × Int))) × Int × List Int × Int × Int) := fun r => some (r.1.1.1, r.1.1.2.1, r.1.1.2.2.1, r.2.1.1, r.2.1.2.1, r.2.1.2.2.1)
abbrev made_l1_at : List PI := [.c [1, 1, 0, 1, 0, 0, 0], .c [1, 1, 0, 1, 0, 0, 1], .l [1, 1, 0, 1, 0, 0], .b 0, .c [1, 1, 1]]
abbrev made_l1_st : Sta := ⟨[0, 2, 6, 7, 16, 17], ⟨[.own 0 0, .i .i64, .own 1 0, .own 2 0, .i .i64, .i .i64], [.segs [.sl (.int .u8), .i .i64, .i .u32], .segs [.nils, .nils, .i .i64], .segs [.ols 3, .nils, .i .i64], .lst (.pair (.int .i64) (.pair (.int .i64) .bool))]⟩⟩
abbrev made_l1_h (rec : Int → Int → Int → (List Int) → Int → Int → Int → Int → (List (Int × (Int × Bool))) → Option (Int × List Int × Int × Int × Int × Int × (List (Int × (Int × Bool))))) : Leaf (Int × List Int × Int × Int × Int × Int × (List (Int × (Int × Bool)))) := ⟨made_l1_at, made_l1_st, fun p => rec p.1.2.1 p.1.2.2.2.2.1 p.1.2.2.2.2.2.1 p.2.1.1 p.2.1.2.1 p.2.1.2.2.1 p.2.2.1.2.2.1 p.2.2.2.1.2.2.1 p.2.2.2.2.1⟩
abbrev made_l1_e0 : Leaf (Int × List Int × Int × Int × Int × Int × (List (Int × (Int × Bool)))) := ⟨[.c [1, 1, 1, 0, 0], .c [1, 1, 1, 0, 1], .c [1, 1, 1, 1]], ⟨[0, 2, 6, 7], ⟨[.own 0 0, .i .i64, .own 1 0, .own 2 0], [.segs [.sl (.int .u8), .i .i64, .i .u32], .segs [.nils, .nils, .i .i64], .segs [.ols 3, .nils, .i .i64], .lst (.pair (.int .i64) (.pair (.int .i64) .bool))]⟩⟩, fun p => some ((p.1.2.1, p.2.1.1, p.2.1.2.1, p.2.1.2.2.1, p.2.2.1.2.2.1, p.2.2.2.1.2.2.1, p.2.2.2.2.1))⟩
noncomputable def made_l1_L (N : Nat) : LoopS := { at_ := made_l1_at, sta := made_l1_st, exits := [([.c [1, 1, 1, 0, 0], .c [1, 1, 1, 0, 1], .c [1, 1, 1, 1]], ⟨[0, 2, 6, 7], ⟨[.own 0 0, .i .i64, .own 1 0, .own 2 0], [.segs [.sl (.int .u8), .i .i64, .i .u32], .segs [.nils, .nils, .i .i64], .segs [.ols 3, .nils, .i .i64], .lst (.pair (.int .i64) (.pair (.int .i64) .bool))]⟩⟩)], run := fun p k => (made_l1 N N p.1.2.1 p.1.2.2.2.2.1 p.1.2.2.2.2.2.1 p.2.1.1 p.2.1.2.1 p.2.1.2.2.1 p.2.2.1.2.2.1 p.2.2.2.1.2.2.1 p.2.2.2.2.1).bind fun e => k (.inl (((), e.1, (), (), ()), ((e.2.1, e.2.2.1, e.2.2.2.1, ()), ((), (), e.2.2.2.2.1, ()), ((), (), e.2.2.2.2.2.1, ()), e.2.2.2.2.2.2, ()))) }
theorem made_l1_eq (N n_ : Nat) (turns : Int) (u : Int) (u2 : Int) (b : List Int) (b2 : Int) (b3 : Int) (g : Int) (t : Int) (t2 : List (Int × (Int × Bool))) : ev (Z := Int × List Int × Int × Int × Int × Int × (List (Int × (Int × Bool)))) Try.prog (made_sp N) made_B [] [made_l1_h (made_l1 N n_), made_l1_e0] none 400 true made_l1_at (stL made_l1_st (((), turns, (), (), u, u2, ()), ((b, b2, b3, ()), ((), (), g, ()), ((), (), t, ()), t2, ()))) (stH made_l1_st (((), turns, (), (), u, u2, ()), ((b, b2, b3, ()), ((), (), g, ()), ((), (), t, ()), t2, ()))) = made_l1 N (n_ + 1) turns u u2 b b2 b3 g t t2 := by kernel_rfl
theorem made_l1_ok (N : Nat) {top : Bool} : LoopOK Try.prog made_B.c made_B.n made_B.m0 top (made_l1_L N) := loop_of_ev (Z := Int × List Int × Int × Int × Int × Int × (List (Int × (Int × Bool)))) (N := N) (fun m p => made_l1 N m p.1.2.1 p.1.2.2.2.2.1 p.1.2.2.2.2.2.1 p.2.1.1 p.2.1.2.1 p.2.1.2.2.1 p.2.2.1.2.2.1 p.2.2.2.1.2.2.1 p.2.2.2.2.1) (fun e => .inl (((), e.1, (), (), ()), ((e.2.1, e.2.2.1, e.2.2.2.1, ()), ((), (), e.2.2.2.2.1, ()), ((), (), e.2.2.2.2.2.1, ()), e.2.2.2.2.2.2, ()))) (fun _ _ _ => rfl) (fun _ => rfl) (fun m z E Xc hE hX hrec hx => leaf_of_ev (B := made_B) (loops := []) (leaves := [made_l1_h (made_l1 N m), made_l1_e0]) (made_all N) mixed trivial hE hX ⟨hrec, (fun p hp => by obtain rfl := Option.some.inj hp; exact hx), trivial⟩ RetOK.no (fun p => made_l1_eq N m p.1.2.1 p.1.2.2.2.2.1 p.1.2.2.2.2.2.1 p.2.1.1 p.2.1.2.1 p.2.1.2.2.1 p.2.2.1.2.2.1 p.2.2.2.1.2.2.1 p.2.2.2.2.1))
abbrev made_l2_at : List PI := [.c [1, 1, 1, 0, 1, 0, 0, 0], .c [1, 1, 1, 0, 1, 0, 0, 1], .l [1, 1, 1, 0, 1, 0, 0], .b 2, .c [1, 1, 1, 1]]
abbrev made_l2_st : Sta := ⟨[0, 6, 7, 35, 36], ⟨[.own 0 0, .own 1 0, .own 2 0, .i .i64, .i .i64], [.segs [.sl (.int .u8), .i .i64, .i .u32], .segs [.nils, .nils, .i .i64], .segs [.ols 3, .ols 4, .i .i64], .lst (.pair (.int .i64) (.pair (.int .i64) .bool)), .lst (.pair (.int .i64) (.pair (.int .i64) (.int .i64)))]⟩⟩
abbrev made_l2_h (rec : Int → Int → (List Int) → Int → Int → Int → Int → (List (Int × (Int × Bool))) → (List (Int × (Int × Int))) → Option (List Int × Int × Int × Int × Int × (List (Int × (Int × Bool))) × (List (Int × (Int × Int))))) : Leaf (List Int × Int × Int × Int × Int × (List (Int × (Int × Bool))) × (List (Int × (Int × Int)))) := ⟨made_l2_at, made_l2_st, fun p => rec p.1.2.2.2.1 p.1.2.2.2.2.1 p.2.1.1 p.2.1.2.1 p.2.1.2.2.1 p.2.2.1.2.2.1 p.2.2.2.1.2.2.1 p.2.2.2.2.1 p.2.2.2.2.2.1⟩
abbrev made_l2_e0 : Leaf (List Int × Int × Int × Int × Int × (List (Int × (Int × Bool))) × (List (Int × (Int × Int)))) := ⟨[.c [1, 1, 1, 1, 0], .c [1, 1, 1, 1, 1]], ⟨[6, 7], ⟨[.own 1 0, .own 2 0], [.segs [.sl (.int .u8), .i .i64, .i .u32], .segs [.nils, .nils, .i .i64], .segs [.ols 3, .ols 4, .i .i64], .lst (.pair (.int .i64) (.pair (.int .i64) .bool)), .lst (.pair (.int .i64) (.pair (.int .i64) (.int .i64)))]⟩⟩, fun p => some ((p.2.1.1, p.2.1.2.1, p.2.1.2.2.1, p.2.2.1.2.2.1, p.2.2.2.1.2.2.1, p.2.2.2.2.1, p.2.2.2.2.2.1))⟩
abbrev made_j1_at : List PI := [.c [1, 1, 1, 0, 1, 0, 0, 1, 1, 1], .l [1, 1, 1, 0, 1, 0, 0], .b 2, .c [1, 1, 1, 1]]
abbrev made_j1_st : Sta := ⟨[0, 6, 7, 35, 36], ⟨[.own 0 0, .own 1 0, .own 2 0, .i .i64, .i .i64], [.segs [.sl (.int .u8), .i .i64, .i .u32], .segs [.nils, .nils, .i .i64], .segs [.ols 3, .ols 4, .i .i64], .lst (.pair (.int .i64) (.pair (.int .i64) .bool)), .lst (.pair (.int .i64) (.pair (.int .i64) (.int .i64)))]⟩⟩
abbrev made_j1_k (N : Nat) (rec : Int → Int → (List Int) → Int → Int → Int → Int → (List (Int × (Int × Bool))) → (List (Int × (Int × Int))) → Option (List Int × Int × Int × Int × Int × (List (Int × (Int × Bool))) × (List (Int × (Int × Int))))) : Leaf (List Int × Int × Int × Int × Int × (List (Int × (Int × Bool))) × (List (Int × (Int × Int)))) := ⟨made_j1_at, made_j1_st, fun p => made_j1 N rec p.1.2.2.2.1 p.1.2.2.2.2.1 p.2.1.1 p.2.1.2.1 p.2.1.2.2.1 p.2.2.1.2.2.1 p.2.2.2.1.2.2.1 p.2.2.2.2.1 p.2.2.2.2.2.1⟩
theorem made_j1_eq (N : Nat) (rec : Int → Int → (List Int) → Int → Int → Int → Int → (List (Int × (Int × Bool))) → (List (Int × (Int × Int))) → Option (List Int × Int × Int × Int × Int × (List (Int × (Int × Bool))) × (List (Int × (Int × Int))))) (u : Int) (u2 : Int) (b : List Int) (b2 : Int) (b3 : Int) (g : Int) (t : Int) (t2 : List (Int × (Int × Bool))) (t3 : List (Int × (Int × Int))) : ev (Z := List Int × Int × Int × Int × Int × (List (Int × (Int × Bool))) × (List (Int × (Int × Int)))) Try.prog (made_sp N) made_B [made_l1_L N] [made_l2_h rec, made_l2_e0] none 400 true made_j1_at (stL made_j1_st (((), (), (), u, u2, ()), ((b, b2, b3, ()), ((), (), g, ()), ((), (), t, ()), t2, t3, ()))) (stH made_j1_st (((), (), (), u, u2, ()), ((b, b2, b3, ()), ((), (), g, ()), ((), (), t, ()), t2, t3, ()))) = made_j1 N rec u u2 b b2 b3 g t t2 t3 := by kernel_rfl
theorem made_j1_lf (N : Nat) (rec : Int → Int → (List Int) → Int → Int → Int → Int → (List (Int × (Int × Bool))) → (List (Int × (Int × Int))) → Option (List Int × Int × Int × Int × Int × (List (Int × (Int × Bool))) × (List (Int × (Int × Int))))) {z : List Int × Int × Int × Int × Int × (List (Int × (Int × Bool))) × (List (Int × (Int × Int)))} {top : Bool} {E : EE} {Xc : Ctx} (hE : EOK made_B.m0 E) (hX : CxOK top Xc) (hrec : LeafOK Try.prog made_B.c made_B.n made_B.m0 E Xc z (made_l2_h rec)) (h0 : LeafOK Try.prog made_B.c made_B.n made_B.m0 E Xc z made_l2_e0) : LeafOK Try.prog made_B.c made_B.n made_B.m0 E Xc z (made_j1_k N rec) := leaf_of_ev (B := made_B) (loops := [made_l1_L N]) (leaves := [made_l2_h rec, made_l2_e0]) (made_all N) mixed ⟨made_l1_ok N, trivial⟩ hE hX ⟨hrec, h0, trivial⟩ RetOK.no (fun p => made_j1_eq N rec p.1.2.2.2.1 p.1.2.2.2.2.1 p.2.1.1 p.2.1.2.1 p.2.1.2.2.1 p.2.2.1.2.2.1 p.2.2.2.1.2.2.1 p.2.2.2.2.1 p.2.2.2.2.2.1)
noncomputable def made_l2_L (N : Nat) : LoopS := { at_ := made_l2_at, sta := made_l2_st, exits := [([.c [1, 1, 1, 1, 0], .c [1, 1, 1, 1, 1]], ⟨[6, 7], ⟨[.own 1 0, .own 2 0], [.segs [.sl (.int .u8), .i .i64, .i .u32], .segs [.nils, .nils, .i .i64], .segs [.ols 3, .ols 4, .i .i64], .lst (.pair (.int .i64) (.pair (.int .i64) .bool)), .lst (.pair (.int .i64) (.pair (.int .i64) (.int .i64)))]⟩⟩)], run := fun p k => (made_l2 N N p.1.2.2.2.1 p.1.2.2.2.2.1 p.2.1.1 p.2.1.2.1 p.2.1.2.2.1 p.2.2.1.2.2.1 p.2.2.2.1.2.2.1 p.2.2.2.2.1 p.2.2.2.2.2.1).bind fun e => k (.inl (((), (), ()), ((e.1, e.2.1, e.2.2.1, ()), ((), (), e.2.2.2.1, ()), ((), (), e.2.2.2.2.1, ()), e.2.2.2.2.2.1, e.2.2.2.2.2.2, ()))) }
theorem made_l2_eq (N n_ : Nat) (u : Int) (u2 : Int) (b : List Int) (b2 : Int) (b3 : Int) (g : Int) (t : Int) (t2 : List (Int × (Int × Bool))) (t3 : List (Int × (Int × Int))) : ev (Z := List Int × Int × Int × Int × Int × (List (Int × (Int × Bool))) × (List (Int × (Int × Int)))) Try.prog (made_sp N) made_B [made_l1_L N] [made_l2_h (made_l2 N n_), made_l2_e0, made_j1_k N (made_l2 N n_)] none 400 true made_l2_at (stL made_l2_st (((), (), (), u, u2, ()), ((b, b2, b3, ()), ((), (), g, ()), ((), (), t, ()), t2, t3, ()))) (stH made_l2_st (((), (), (), u, u2, ()), ((b, b2, b3, ()), ((), (), g, ()), ((), (), t, ()), t2, t3, ()))) = made_l2 N (n_ + 1) u u2 b b2 b3 g t t2 t3 := by kernel_rfl
theorem made_l2_ok (N : Nat) {top : Bool} : LoopOK Try.prog made_B.c made_B.n made_B.m0 top (made_l2_L N) := loop_of_ev (Z := List Int × Int × Int × Int × Int × (List (Int × (Int × Bool))) × (List (Int × (Int × Int)))) (N := N) (fun m p => made_l2 N m p.1.2.2.2.1 p.1.2.2.2.2.1 p.2.1.1 p.2.1.2.1 p.2.1.2.2.1 p.2.2.1.2.2.1 p.2.2.2.1.2.2.1 p.2.2.2.2.1 p.2.2.2.2.2.1) (fun e => .inl (((), (), ()), ((e.1, e.2.1, e.2.2.1, ()), ((), (), e.2.2.2.1, ()), ((), (), e.2.2.2.2.1, ()), e.2.2.2.2.2.1, e.2.2.2.2.2.2, ()))) (fun _ _ _ => rfl) (fun _ => rfl) (fun m z E Xc hE hX hrec hx => leaf_of_ev (B := made_B) (loops := [made_l1_L N]) (leaves := [made_l2_h (made_l2 N m), made_l2_e0, made_j1_k N (made_l2 N m)]) (made_all N) mixed ⟨made_l1_ok N, trivial⟩ hE hX ⟨hrec, (fun p hp => by obtain rfl := Option.some.inj hp; exact hx), made_j1_lf N _ hE hX hrec (fun p hp => by obtain rfl := Option.some.inj hp; exact hx), trivial⟩ RetOK.no (fun p => made_l2_eq N m p.1.2.2.2.1 p.1.2.2.2.2.1 p.2.1.1 p.2.1.2.1 p.2.1.2.2.1 p.2.2.1.2.2.1 p.2.2.2.1.2.2.1 p.2.2.2.2.1 p.2.2.2.2.2.1))
abbrev made_st : Sta := ⟨[0, 1, 2], ⟨[.own 0 0, .i .i64, .i .i64], [.segs [.sl (.int .u8), .i .i64, .i .u32]]⟩⟩
theorem made_eq (N : Nat) (words : Int) (turns : Int) (b : List Int) (b2 : Int) (b3 : Int) : ev (Z := (List (Int × (Int × Bool))) × (List (Int × (Int × Int))) × Int × List Int × Int × Int) Try.prog (made_sp N) made_B [made_l1_L N, made_l2_L N] [] (some made_rt) 400 false [.c [0], .c [1]] (stL made_st (((), words, turns, ()), ((b, b2, b3, ()), ()))) (stH made_st (((), words, turns, ()), ((b, b2, b3, ()), ()))) = made_S N words turns b b2 b3 := by kernel_rfl
noncomputable def sp_made (N : Nat) : Spec := { f := 36, ins := ⟨[.own 0 0, .i .i64, .i .i64], [.segs [.sl (.int .u8), .i .i64, .i .u32]]⟩, outs := [⟨[.agg [.sl (.pair (.int .i64) (.pair (.int .i64) .bool)), .sl (.pair (.int .i64) (.pair (.int .i64) (.int .i64))), .i .i64]], [.segs [.sl (.int .u8), .i .i64, .i .u32]]⟩], run := fun p k => (made_S N p.1.2.1 p.1.2.2.1 p.2.1.1 p.2.1.2.1 p.2.1.2.2.1).bind fun r => k (((r.1, r.2.1, r.2.2.1, ()), ()), ((r.2.2.2.1, r.2.2.2.2.1, r.2.2.2.2.2, ()), ())) }
theorem sp_made_ok (N : Nat) : SpecOK Try.prog (sp_made N) := fn_sound (B := made_B) (loops := [made_l1_L N, made_l2_L N]) (leaves := []) (fun p => made_S N p.1.2.1 p.1.2.2.1 p.2.1.1 p.2.1.2.1 p.2.1.2.2.1) (fun r => (((r.1, r.2.1, r.2.2.1, ()), ()), ((r.2.2.2.1, r.2.2.2.2.1, r.2.2.2.2.2, ()), ()))) made_rt (fun _ _ _ => rfl) (fun r z h => by cases h; rfl) Try.func36 (by kernel_rfl) (by kernel_rfl) (by kernel_rfl) rfl rfl (by kernel_rfl) (fun args w => Sem.pv_run _ _ _ (by kernel_rfl) w) (made_all N) mixed ⟨made_l1_ok N, made_l2_ok N, trivial⟩ (fun z E Xc hE hX hret => trivial) (fun p => made_eq N p.1.2.1 p.1.2.2.1 p.2.1.1 p.2.1.2.1 p.2.1.2.2.1)

def tried_j1 (N : Nat) (rec : Int → Int → (List (Int × (Int × Bool))) → Int → Int → (List Int) → Int → Int → (List (Int × (Int × Bool))) → (List (Int × (Int × Int))) → Int → (List Int) → Option (List Int × Int × Int × List Int)) (n : Int) (often : Int) (u : List (Int × (Int × Bool))) (u2 : Int) (u3 : Int) (b : List Int) (b2 : Int) (b3 : Int) (t : List (Int × (Int × Bool))) (t2 : List (Int × (Int × Int))) (t3 : Int) (out : List Int) : Option (List Int × Int × Int × List Int) :=
  chk (u3 + 1) <|
  rec n often u u2 (u3 + 1) b b2 b3 t t2 t3 out
def tried_l1 (N : Nat) : Nat → Int → Int → (List (Int × (Int × Bool))) → Int → Int → (List Int) → Int → Int → (List (Int × (Int × Bool))) → (List (Int × (Int × Int))) → Int → (List Int) → Option (List Int × Int × Int × List Int)
  | 0, _, _, _, _, _, _, _, _, _, _, _, _ => none
  | n_ + 1, n, often, u, u2, u3, b, b2, b3, t, t2, t3, out =>
    br (decide (u3 < u2))
      (idx u u3 fun x_5 =>
      chk (n + 1) <|
      chk ((t.length : Int) - 1) <|
      br (decide (u3 = ((t.length : Int) - 1)))
        (lim (out.length + [(n + 1)].length) <|
        tried_j1 N (tried_l1 N n_) 0 often u u2 u3 b b2 b3 t t2 t3 (out ++ [(n + 1)]))
        (br x_5.2.2
          ((seldom_S N often b b2 b3).bind fun (x_6, y_7, y_8, y_9) =>
          br x_6
            (lim (out.length + [(n + 1)].length) <|
            tried_j1 N (tried_l1 N n_) 0 often u u2 u3 y_7 y_8 y_9 t t2 t3 (out ++ [(n + 1)]))
            ((seldom_S N 12 y_7 y_8 y_9).bind fun (x_10, y_11, y_12, y_13) =>
            br x_10
              (lim (out.length + [(n + 1)].length) <|
              tried_j1 N (tried_l1 N n_) 0 often u u2 u3 y_11 y_12 y_13 t t2 t3 (out ++ [(n + 1)]))
              (tried_j1 N (tried_l1 N n_) (n + 1) often u u2 u3 y_11 y_12 y_13 t t2 t3 out)))
          ((seldom_S N 12 b b2 b3).bind fun (x_14, y_15, y_16, y_17) =>
          br x_14
            (lim (out.length + [(n + 1)].length) <|
            tried_j1 N (tried_l1 N n_) 0 often u u2 u3 y_15 y_16 y_17 t t2 t3 (out ++ [(n + 1)]))
            (tried_j1 N (tried_l1 N n_) (n + 1) often u u2 u3 y_15 y_16 y_17 t t2 t3 out))))
      (some ((b, b2, b3, out)))
def tried_S (N : Nat) (t : List (Int × (Int × Bool))) (t2 : List (Int × (Int × Int))) (t3 : Int) (b : List Int) (b2 : Int) (b3 : Int) : Option (List Int × List Int × Int × Int) :=
  (strike_S N 1 3 b b2 b3).bind fun (x_1, y_2, y_3, y_4) =>
  (tried_l1 N N 0 x_1 t (t.length : Int) 0 y_2 y_3 y_4 t t2 t3 []).bind fun (g_18, g2_19, g3_20, out_21) =>
  some (out_21, g_18, g2_19, g3_20)
noncomputable def tried_sp (N : Nat) : List Spec := [sp_strike N, sp_seldom N]
theorem tried_all (N : Nat) : AllP (SpecOK Try.prog) (tried_sp N) := ⟨sp_strike_ok N, sp_seldom_ok N, trivial⟩
noncomputable def tried_c : Code := (Try.f45.body).getD .skip
noncomputable abbrev tried_B : Body := { c := tried_c, n := 47, res := [.tmp 4], outs := [⟨[.sl (.int .i64)], [.segs [.sl (.int .u8), .i .i64, .i .u32]]⟩], m0 := 1 }
abbrev tried_rt : altD tried_B.outs → Option (List Int × List Int × Int × Int) := fun r => some (r.1.1, r.2.1.1, r.2.1.2.1, r.2.1.2.2.1)
abbrev tried_l1_at : List PI := [.c [1, 1, 1, 0, 1, 0, 0, 0], .c [1, 1, 1, 0, 1, 0, 0, 1], .l [1, 1, 1, 0, 1, 0, 0], .b 0, .c [1, 1, 1, 1]]
abbrev tried_l1_st : Sta := ⟨[0, 3, 5, 6, 7, 13, 14, 15], ⟨[.own 0 0, .own 1 0, .ols 2, .i .i64, .i .i64, .sl (.pair (.int .i64) (.pair (.int .i64) .bool)), .i .i64, .i .i64], [.segs [.sl (.int .u8), .i .i64, .i .u32], .segs [.sl (.pair (.int .i64) (.pair (.int .i64) .bool)), .sl (.pair (.int .i64) (.pair (.int .i64) (.int .i64))), .i .i64], .lst (.int .i64)]⟩⟩
abbrev tried_l1_h (rec : Int → Int → (List (Int × (Int × Bool))) → Int → Int → (List Int) → Int → Int → (List (Int × (Int × Bool))) → (List (Int × (Int × Int))) → Int → (List Int) → Option (List Int × Int × Int × List Int)) : Leaf (List Int × Int × Int × List Int) := ⟨tried_l1_at, tried_l1_st, fun p => rec p.1.2.2.2.1 p.1.2.2.2.2.1 p.1.2.2.2.2.2.1 p.1.2.2.2.2.2.2.1 p.1.2.2.2.2.2.2.2.1 p.2.1.1 p.2.1.2.1 p.2.1.2.2.1 p.2.2.1.1 p.2.2.1.2.1 p.2.2.1.2.2.1 p.2.2.2.1⟩
abbrev tried_l1_e0 : Leaf (List Int × Int × Int × List Int) := ⟨[.c [1, 1, 1, 1, 0], .c [1, 1, 1, 1, 1]], ⟨[5], ⟨[.ols 1], [.segs [.sl (.int .u8), .i .i64, .i .u32], .lst (.int .i64)]⟩⟩, fun p => some ((p.2.1.1, p.2.1.2.1, p.2.1.2.2.1, p.2.2.1))⟩
abbrev tried_j1_at : List PI := [.c [1, 1, 1, 0, 1, 0, 0, 1, 1, 1], .l [1, 1, 1, 0, 1, 0, 0], .b 0, .c [1, 1, 1, 1]]
abbrev tried_j1_st : Sta := ⟨[0, 3, 5, 6, 7, 13, 14, 15], ⟨[.own 0 0, .own 1 0, .ols 2, .i .i64, .i .i64, .sl (.pair (.int .i64) (.pair (.int .i64) .bool)), .i .i64, .i .i64], [.segs [.sl (.int .u8), .i .i64, .i .u32], .segs [.sl (.pair (.int .i64) (.pair (.int .i64) .bool)), .sl (.pair (.int .i64) (.pair (.int .i64) (.int .i64))), .i .i64], .lst (.int .i64)]⟩⟩
abbrev tried_j1_k (N : Nat) (rec : Int → Int → (List (Int × (Int × Bool))) → Int → Int → (List Int) → Int → Int → (List (Int × (Int × Bool))) → (List (Int × (Int × Int))) → Int → (List Int) → Option (List Int × Int × Int × List Int)) : Leaf (List Int × Int × Int × List Int) := ⟨tried_j1_at, tried_j1_st, fun p => tried_j1 N rec p.1.2.2.2.1 p.1.2.2.2.2.1 p.1.2.2.2.2.2.1 p.1.2.2.2.2.2.2.1 p.1.2.2.2.2.2.2.2.1 p.2.1.1 p.2.1.2.1 p.2.1.2.2.1 p.2.2.1.1 p.2.2.1.2.1 p.2.2.1.2.2.1 p.2.2.2.1⟩
theorem tried_j1_eq (N : Nat) (rec : Int → Int → (List (Int × (Int × Bool))) → Int → Int → (List Int) → Int → Int → (List (Int × (Int × Bool))) → (List (Int × (Int × Int))) → Int → (List Int) → Option (List Int × Int × Int × List Int)) (n : Int) (often : Int) (u : List (Int × (Int × Bool))) (u2 : Int) (u3 : Int) (b : List Int) (b2 : Int) (b3 : Int) (t : List (Int × (Int × Bool))) (t2 : List (Int × (Int × Int))) (t3 : Int) (out : List Int) : ev (Z := List Int × Int × Int × List Int) Try.prog (tried_sp N) tried_B [] [tried_l1_h rec, tried_l1_e0] none 400 true tried_j1_at (stL tried_j1_st (((), (), (), n, often, u, u2, u3, ()), ((b, b2, b3, ()), (t, t2, t3, ()), out, ()))) (stH tried_j1_st (((), (), (), n, often, u, u2, u3, ()), ((b, b2, b3, ()), (t, t2, t3, ()), out, ()))) = tried_j1 N rec n often u u2 u3 b b2 b3 t t2 t3 out := by kernel_rfl
theorem tried_j1_lf (N : Nat) (rec : Int → Int → (List (Int × (Int × Bool))) → Int → Int → (List Int) → Int → Int → (List (Int × (Int × Bool))) → (List (Int × (Int × Int))) → Int → (List Int) → Option (List Int × Int × Int × List Int)) {z : List Int × Int × Int × List Int} {top : Bool} {E : EE} {Xc : Ctx} (hE : EOK tried_B.m0 E) (hX : CxOK top Xc) (hrec : LeafOK Try.prog tried_B.c tried_B.n tried_B.m0 E Xc z (tried_l1_h rec)) (h0 : LeafOK Try.prog tried_B.c tried_B.n tried_B.m0 E Xc z tried_l1_e0) : LeafOK Try.prog tried_B.c tried_B.n tried_B.m0 E Xc z (tried_j1_k N rec) := leaf_of_ev (B := tried_B) (loops := []) (leaves := [tried_l1_h rec, tried_l1_e0]) (tried_all N) mixed trivial hE hX ⟨hrec, h0, trivial⟩ RetOK.no (fun p => tried_j1_eq N rec p.1.2.2.2.1 p.1.2.2.2.2.1 p.1.2.2.2.2.2.1 p.1.2.2.2.2.2.2.1 p.1.2.2.2.2.2.2.2.1 p.2.1.1 p.2.1.2.1 p.2.1.2.2.1 p.2.2.1.1 p.2.2.1.2.1 p.2.2.1.2.2.1 p.2.2.2.1)
noncomputable def tried_l1_L (N : Nat) : LoopS := { at_ := tried_l1_at, sta := tried_l1_st, exits := [([.c [1, 1, 1, 1, 0], .c [1, 1, 1, 1, 1]], ⟨[5], ⟨[.ols 1], [.segs [.sl (.int .u8), .i .i64, .i .u32], .lst (.int .i64)]⟩⟩)], run := fun p k => (tried_l1 N N p.1.2.2.2.1 p.1.2.2.2.2.1 p.1.2.2.2.2.2.1 p.1.2.2.2.2.2.2.1 p.1.2.2.2.2.2.2.2.1 p.2.1.1 p.2.1.2.1 p.2.1.2.2.1 p.2.2.1.1 p.2.2.1.2.1 p.2.2.1.2.2.1 p.2.2.2.1).bind fun e => k (.inl (((), ()), ((e.1, e.2.1, e.2.2.1, ()), e.2.2.2, ()))) }
theorem tried_l1_eq (N n_ : Nat) (n : Int) (often : Int) (u : List (Int × (Int × Bool))) (u2 : Int) (u3 : Int) (b : List Int) (b2 : Int) (b3 : Int) (t : List (Int × (Int × Bool))) (t2 : List (Int × (Int × Int))) (t3 : Int) (out : List Int) : ev (Z := List Int × Int × Int × List Int) Try.prog (tried_sp N) tried_B [] [tried_l1_h (tried_l1 N n_), tried_l1_e0, tried_j1_k N (tried_l1 N n_)] none 400 true tried_l1_at (stL tried_l1_st (((), (), (), n, often, u, u2, u3, ()), ((b, b2, b3, ()), (t, t2, t3, ()), out, ()))) (stH tried_l1_st (((), (), (), n, often, u, u2, u3, ()), ((b, b2, b3, ()), (t, t2, t3, ()), out, ()))) = tried_l1 N (n_ + 1) n often u u2 u3 b b2 b3 t t2 t3 out := by kernel_rfl
theorem tried_l1_ok (N : Nat) {top : Bool} : LoopOK Try.prog tried_B.c tried_B.n tried_B.m0 top (tried_l1_L N) := loop_of_ev (Z := List Int × Int × Int × List Int) (N := N) (fun m p => tried_l1 N m p.1.2.2.2.1 p.1.2.2.2.2.1 p.1.2.2.2.2.2.1 p.1.2.2.2.2.2.2.1 p.1.2.2.2.2.2.2.2.1 p.2.1.1 p.2.1.2.1 p.2.1.2.2.1 p.2.2.1.1 p.2.2.1.2.1 p.2.2.1.2.2.1 p.2.2.2.1) (fun e => .inl (((), ()), ((e.1, e.2.1, e.2.2.1, ()), e.2.2.2, ()))) (fun _ _ _ => rfl) (fun _ => rfl) (fun m z E Xc hE hX hrec hx => leaf_of_ev (B := tried_B) (loops := []) (leaves := [tried_l1_h (tried_l1 N m), tried_l1_e0, tried_j1_k N (tried_l1 N m)]) (tried_all N) mixed trivial hE hX ⟨hrec, (fun p hp => by obtain rfl := Option.some.inj hp; exact hx), tried_j1_lf N _ hE hX hrec (fun p hp => by obtain rfl := Option.some.inj hp; exact hx), trivial⟩ RetOK.no (fun p => tried_l1_eq N m p.1.2.2.2.1 p.1.2.2.2.2.1 p.1.2.2.2.2.2.1 p.1.2.2.2.2.2.2.1 p.1.2.2.2.2.2.2.2.1 p.2.1.1 p.2.1.2.1 p.2.1.2.2.1 p.2.2.1.1 p.2.2.1.2.1 p.2.2.1.2.2.1 p.2.2.2.1))
abbrev tried_st : Sta := ⟨[0, 1], ⟨[.own 0 0, .agg [.sl (.pair (.int .i64) (.pair (.int .i64) .bool)), .sl (.pair (.int .i64) (.pair (.int .i64) (.int .i64))), .i .i64]], [.segs [.sl (.int .u8), .i .i64, .i .u32]]⟩⟩
theorem tried_eq (N : Nat) (t : List (Int × (Int × Bool))) (t2 : List (Int × (Int × Int))) (t3 : Int) (b : List Int) (b2 : Int) (b3 : Int) : ev (Z := List Int × List Int × Int × Int) Try.prog (tried_sp N) tried_B [tried_l1_L N] [] (some tried_rt) 400 false [.c [0], .c [1]] (stL tried_st (((), (t, t2, t3, ()), ()), ((b, b2, b3, ()), ()))) (stH tried_st (((), (t, t2, t3, ()), ()), ((b, b2, b3, ()), ()))) = tried_S N t t2 t3 b b2 b3 := by kernel_rfl
noncomputable def sp_tried (N : Nat) : Spec := { f := 45, ins := ⟨[.own 0 0, .agg [.sl (.pair (.int .i64) (.pair (.int .i64) .bool)), .sl (.pair (.int .i64) (.pair (.int .i64) (.int .i64))), .i .i64]], [.segs [.sl (.int .u8), .i .i64, .i .u32]]⟩, outs := [⟨[.sl (.int .i64)], [.segs [.sl (.int .u8), .i .i64, .i .u32]]⟩], run := fun p k => (tried_S N p.1.2.1.1 p.1.2.1.2.1 p.1.2.1.2.2.1 p.2.1.1 p.2.1.2.1 p.2.1.2.2.1).bind fun r => k ((r.1, ()), ((r.2.1, r.2.2.1, r.2.2.2, ()), ())) }
theorem sp_tried_ok (N : Nat) : SpecOK Try.prog (sp_tried N) := fn_sound (B := tried_B) (loops := [tried_l1_L N]) (leaves := []) (fun p => tried_S N p.1.2.1.1 p.1.2.1.2.1 p.1.2.1.2.2.1 p.2.1.1 p.2.1.2.1 p.2.1.2.2.1) (fun r => ((r.1, ()), ((r.2.1, r.2.2.1, r.2.2.2, ()), ()))) tried_rt (fun _ _ _ => rfl) (fun r z h => by cases h; rfl) Try.func45 (by kernel_rfl) (by kernel_rfl) (by kernel_rfl) rfl rfl (by kernel_rfl) (fun args w => Sem.pv_run _ _ _ (by kernel_rfl) w) (tried_all N) mixed ⟨tried_l1_ok N, trivial⟩ (fun z E Xc hE hX hret => trivial) (fun p => tried_eq N p.1.2.1.1 p.1.2.1.2.1 p.1.2.1.2.2.1 p.2.1.1 p.2.1.2.1 p.2.1.2.2.1)

def lsays1_S (N : Nat) (x : Int) (x2 : Int) (x3 : Int) (u : Int) (u2 : Int) : Option Bool :=
  br (decide (u ≤ x2))
    (br (decide (x3 < u2))
      (br (decide (x < u))
        (some true)
        (some (decide (u2 ≤ x))))
      (some false))
    (some false)
noncomputable def lsays1_sp (N : Nat) : List Spec := []
theorem lsays1_all (N : Nat) : AllP (SpecOK Try.prog) (lsays1_sp N) := trivial
noncomputable def lsays1_c : Code := (Try.f151.body).getD .skip
noncomputable abbrev lsays1_B : Body := { c := lsays1_c, n := 29, res := [.tmp 4], outs := [⟨[.b], []⟩], m0 := 0 }
abbrev lsays1_rt : altD lsays1_B.outs → Option Bool := fun r => some r.1.1
abbrev lsays1_st : Sta := ⟨[0, 1, 2], ⟨[.agg [.i .i64, .i .i64, .i .i64], .fe (.int .i64), .fe (.int .i64)], []⟩⟩
theorem lsays1_eq (N : Nat) (x : Int) (x2 : Int) (x3 : Int) (u : Int) (u2 : Int) : ev (Z := Bool) Try.prog (lsays1_sp N) lsays1_B [] [] (some lsays1_rt) 400 false [.c [0], .c [1]] (stL lsays1_st (((x, x2, x3, ()), u, u2, ()), ())) (stH lsays1_st (((x, x2, x3, ()), u, u2, ()), ())) = lsays1_S N x x2 x3 u u2 := by kernel_rfl
noncomputable def sp_lsays1 (N : Nat) : Spec := { f := 151, ins := ⟨[.agg [.i .i64, .i .i64, .i .i64], .fe (.int .i64), .fe (.int .i64)], []⟩, outs := [⟨[.b], []⟩], run := fun p k => (lsays1_S N p.1.1.1 p.1.1.2.1 p.1.1.2.2.1 p.1.2.1 p.1.2.2.1).bind fun r => k ((r, ()), ()) }
theorem sp_lsays1_ok (N : Nat) : SpecOK Try.prog (sp_lsays1 N) := fn_sound (B := lsays1_B) (loops := []) (leaves := []) (fun p => lsays1_S N p.1.1.1 p.1.1.2.1 p.1.1.2.2.1 p.1.2.1 p.1.2.2.1) (fun r => ((r, ()), ())) lsays1_rt (fun _ _ _ => rfl) (fun r z h => by cases h; rfl) Try.func151 (by kernel_rfl) (by kernel_rfl) (by kernel_rfl) rfl rfl (by kernel_rfl) (fun args w => Sem.pv_run _ _ _ (by kernel_rfl) w) (lsays1_all N) mixed trivial (fun z E Xc hE hX hret => trivial) (fun p => lsays1_eq N p.1.1.1 p.1.1.2.1 p.1.1.2.2.1 p.1.2.1 p.1.2.2.1)

def ixfls_l1 (N : Nat) : Nat → (List (Int × (Int × Int))) → Int → Int → Int → Int → Option ((Int) ⊕ (Unit))
  | 0, _, _, _, _, _ => none
  | n_ + 1, s, f, f2, u, u2 =>
    br (decide (u2 < u))
      (idx s u2 fun x_1 =>
      (lsays1_S N x_1.1 x_1.2.1 x_1.2.2 f f2).bind fun x_2 =>
      br x_2
        (some (.inl u2))
        (chk (u2 + 1) <|
        ixfls_l1 N n_ s f f2 u (u2 + 1)))
      (some (.inr ()))
def ixfls_S (N : Nat) (s : List (Int × (Int × Int))) (f : Int) (f2 : Int) : Option Int :=
  (ixfls_l1 N N s f f2 (s.length : Int) 0).bind fun e => match e with
  | .inl i_3 =>
    some i_3
  | .inr _ =>
    some (-1)
noncomputable def ixfls_sp (N : Nat) : List Spec := [sp_lsays1 N]
theorem ixfls_all (N : Nat) : AllP (SpecOK Try.prog) (ixfls_sp N) := ⟨sp_lsays1_ok N, trivial⟩
noncomputable def ixfls_c : Code := (Try.f134.body).getD .skip
noncomputable abbrev ixfls_B : Body := { c := ixfls_c, n := 19, res := [.tmp 4], outs := [⟨[.i .i64], []⟩], m0 := 0 }
abbrev ixfls_rt : altD ixfls_B.outs → Option Int := fun r => some r.1.1
abbrev ixfls_l1_at : List PI := [.c [1, 0, 1, 0, 0, 0], .c [1, 0, 1, 0, 0, 1], .l [1, 0, 1, 0, 0], .b 0, .c [1, 1]]
abbrev ixfls_l1_st : Sta := ⟨[0, 1, 7, 8], ⟨[.sl (.pair (.int .i64) (.pair (.int .i64) (.int .i64))), .fn 151 [] [.fe (.int .i64), .fe (.int .i64)], .i .i64, .i .i64], []⟩⟩
abbrev ixfls_l1_h (rec : (List (Int × (Int × Int))) → Int → Int → Int → Int → Option ((Int) ⊕ (Unit))) : Leaf ((Int) ⊕ (Unit)) := ⟨ixfls_l1_at, ixfls_l1_st, fun p => rec p.1.1 p.1.2.1.2.1 p.1.2.1.2.2.1 p.1.2.2.1 p.1.2.2.2.1⟩
abbrev ixfls_l1_e0 : Leaf ((Int) ⊕ (Unit)) := ⟨[.c [1, 0, 1, 0, 0, 1, 1, 0, 0, 1, 1, 0, 0], .c [1, 0, 1, 0, 0, 1, 1, 0, 0, 1, 1, 0, 1], .b 1, .c [1, 0, 1, 0, 0, 1, 1, 1], .l [1, 0, 1, 0, 0], .b 0, .c [1, 1]], ⟨[5], ⟨[.i .i64], []⟩⟩, fun p => some (.inl p.1.1)⟩
abbrev ixfls_l1_e1 : Leaf ((Int) ⊕ (Unit)) := ⟨[.c [1, 1, 0], .c [1, 1, 1]], ⟨[], ⟨[], []⟩⟩, fun p => some (.inr ())⟩
noncomputable def ixfls_l1_L (N : Nat) : LoopS := { at_ := ixfls_l1_at, sta := ixfls_l1_st, exits := [([.c [1, 0, 1, 0, 0, 1, 1, 0, 0, 1, 1, 0, 0], .c [1, 0, 1, 0, 0, 1, 1, 0, 0, 1, 1, 0, 1], .b 1, .c [1, 0, 1, 0, 0, 1, 1, 1], .l [1, 0, 1, 0, 0], .b 0, .c [1, 1]], ⟨[5], ⟨[.i .i64], []⟩⟩), ([.c [1, 1, 0], .c [1, 1, 1]], ⟨[], ⟨[], []⟩⟩)], run := fun p k => (ixfls_l1 N N p.1.1 p.1.2.1.2.1 p.1.2.1.2.2.1 p.1.2.2.1 p.1.2.2.2.1).bind fun e => match e with | .inl x => k (.inl ((x, ()), ())) | .inr x => k (.inr (.inl ((), ()))) }
theorem ixfls_l1_eq (N n_ : Nat) (s : List (Int × (Int × Int))) (f : Int) (f2 : Int) (u : Int) (u2 : Int) : ev (Z := (Int) ⊕ (Unit)) Try.prog (ixfls_sp N) ixfls_B [] [ixfls_l1_h (ixfls_l1 N n_), ixfls_l1_e0, ixfls_l1_e1] none 400 true ixfls_l1_at (stL ixfls_l1_st ((s, ((), (f, f2, ())), u, u2, ()), ())) (stH ixfls_l1_st ((s, ((), (f, f2, ())), u, u2, ()), ())) = ixfls_l1 N (n_ + 1) s f f2 u u2 := by kernel_rfl
theorem ixfls_l1_ok (N : Nat) {top : Bool} : LoopOK Try.prog ixfls_B.c ixfls_B.n ixfls_B.m0 top (ixfls_l1_L N) := loop_of_ev (Z := (Int) ⊕ (Unit)) (N := N) (fun m p => ixfls_l1 N m p.1.1 p.1.2.1.2.1 p.1.2.1.2.2.1 p.1.2.2.1 p.1.2.2.2.1) (fun e => match e with | .inl x => .inl ((x, ()), ()) | .inr x => .inr (.inl ((), ()))) (fun _ p k => bind_congr_ (ixfls_l1 N N p.1.1 p.1.2.1.2.1 p.1.2.1.2.2.1 p.1.2.2.1 p.1.2.2.2.1) _ _ (fun e => by rcases e with x | x <;> rfl)) (fun _ => rfl) (fun m z E Xc hE hX hrec hx => leaf_of_ev (B := ixfls_B) (loops := []) (leaves := [ixfls_l1_h (ixfls_l1 N m), ixfls_l1_e0, ixfls_l1_e1]) (ixfls_all N) mixed trivial hE hX ⟨hrec, (fun p hp => by obtain rfl := Option.some.inj hp; exact hx), (fun p hp => by obtain rfl := Option.some.inj hp; exact hx), trivial⟩ RetOK.no (fun p => ixfls_l1_eq N m p.1.1 p.1.2.1.2.1 p.1.2.1.2.2.1 p.1.2.2.1 p.1.2.2.2.1))
abbrev ixfls_st : Sta := ⟨[0, 1], ⟨[.sl (.pair (.int .i64) (.pair (.int .i64) (.int .i64))), .fn 151 [] [.fe (.int .i64), .fe (.int .i64)]], []⟩⟩
theorem ixfls_eq (N : Nat) (s : List (Int × (Int × Int))) (f : Int) (f2 : Int) : ev (Z := Int) Try.prog (ixfls_sp N) ixfls_B [ixfls_l1_L N] [] (some ixfls_rt) 400 false [.c [0], .c [1]] (stL ixfls_st ((s, ((), (f, f2, ())), ()), ())) (stH ixfls_st ((s, ((), (f, f2, ())), ()), ())) = ixfls_S N s f f2 := by kernel_rfl
noncomputable def sp_ixfls (N : Nat) : Spec := { f := 134, ins := ⟨[.sl (.pair (.int .i64) (.pair (.int .i64) (.int .i64))), .fn 151 [] [.fe (.int .i64), .fe (.int .i64)]], []⟩, outs := [⟨[.i .i64], []⟩], run := fun p k => (ixfls_S N p.1.1 p.1.2.1.2.1 p.1.2.1.2.2.1).bind fun r => k ((r, ()), ()) }
theorem sp_ixfls_ok (N : Nat) : SpecOK Try.prog (sp_ixfls N) := fn_sound (B := ixfls_B) (loops := [ixfls_l1_L N]) (leaves := []) (fun p => ixfls_S N p.1.1 p.1.2.1.2.1 p.1.2.1.2.2.1) (fun r => ((r, ()), ())) ixfls_rt (fun _ _ _ => rfl) (fun r z h => by cases h; rfl) Try.func134 (by kernel_rfl) (by kernel_rfl) (by kernel_rfl) rfl rfl (by kernel_rfl) (fun args w => Sem.pv_run _ _ _ (by kernel_rfl) w) (ixfls_all N) mixed ⟨ixfls_l1_ok N, trivial⟩ (fun z E Xc hE hX hret => trivial) (fun p => ixfls_eq N p.1.1 p.1.2.1.2.1 p.1.2.1.2.2.1)

def cofls_S (N : Nat) (s : List (Int × (Int × Int))) (f : Int) (f2 : Int) : Option Bool :=
  (ixfls_S N s f f2).bind fun x_1 =>
  some (decide (0 ≤ x_1))
noncomputable def cofls_sp (N : Nat) : List Spec := [sp_ixfls N]
theorem cofls_all (N : Nat) : AllP (SpecOK Try.prog) (cofls_sp N) := ⟨sp_ixfls_ok N, trivial⟩
noncomputable def cofls_c : Code := (Try.f75.body).getD .skip
noncomputable abbrev cofls_B : Body := { c := cofls_c, n := 9, res := [.tmp 4], outs := [⟨[.b], []⟩], m0 := 0 }
abbrev cofls_rt : altD cofls_B.outs → Option Bool := fun r => some r.1.1
abbrev cofls_st : Sta := ⟨[0, 1], ⟨[.sl (.pair (.int .i64) (.pair (.int .i64) (.int .i64))), .fn 151 [] [.fe (.int .i64), .fe (.int .i64)]], []⟩⟩
theorem cofls_eq (N : Nat) (s : List (Int × (Int × Int))) (f : Int) (f2 : Int) : ev (Z := Bool) Try.prog (cofls_sp N) cofls_B [] [] (some cofls_rt) 400 false [.c [0], .c [1]] (stL cofls_st ((s, ((), (f, f2, ())), ()), ())) (stH cofls_st ((s, ((), (f, f2, ())), ()), ())) = cofls_S N s f f2 := by kernel_rfl
noncomputable def sp_cofls (N : Nat) : Spec := { f := 75, ins := ⟨[.sl (.pair (.int .i64) (.pair (.int .i64) (.int .i64))), .fn 151 [] [.fe (.int .i64), .fe (.int .i64)]], []⟩, outs := [⟨[.b], []⟩], run := fun p k => (cofls_S N p.1.1 p.1.2.1.2.1 p.1.2.1.2.2.1).bind fun r => k ((r, ()), ()) }
theorem sp_cofls_ok (N : Nat) : SpecOK Try.prog (sp_cofls N) := fn_sound (B := cofls_B) (loops := []) (leaves := []) (fun p => cofls_S N p.1.1 p.1.2.1.2.1 p.1.2.1.2.2.1) (fun r => ((r, ()), ())) cofls_rt (fun _ _ _ => rfl) (fun r z h => by cases h; rfl) Try.func75 (by kernel_rfl) (by kernel_rfl) (by kernel_rfl) rfl rfl (by kernel_rfl) (fun args w => Sem.pv_run _ _ _ (by kernel_rfl) w) (cofls_all N) mixed trivial (fun z E Xc hE hX hret => trivial) (fun p => cofls_eq N p.1.1 p.1.2.1.2.1 p.1.2.1.2.2.1)

def lsays_S (N : Nat) (t : List (Int × (Int × Bool))) (t2 : List (Int × (Int × Int))) (t3 : Int) (from_ : Int) (to : Int) : Option Bool :=
  (cofls_S N t2 from_ to).bind fun x_1 =>
  some x_1
noncomputable def lsays_sp (N : Nat) : List Spec := [sp_cofls N]
theorem lsays_all (N : Nat) : AllP (SpecOK Try.prog) (lsays_sp N) := ⟨sp_cofls_ok N, trivial⟩
noncomputable def lsays_c : Code := (Try.f114.body).getD .skip
noncomputable abbrev lsays_B : Body := { c := lsays_c, n := 11, res := [.tmp 6], outs := [⟨[.b], []⟩], m0 := 0 }
abbrev lsays_rt : altD lsays_B.outs → Option Bool := fun r => some r.1.1
abbrev lsays_st : Sta := ⟨[0, 1, 2], ⟨[.agg [.sl (.pair (.int .i64) (.pair (.int .i64) .bool)), .sl (.pair (.int .i64) (.pair (.int .i64) (.int .i64))), .i .i64], .i .i64, .i .i64], []⟩⟩
theorem lsays_eq (N : Nat) (t : List (Int × (Int × Bool))) (t2 : List (Int × (Int × Int))) (t3 : Int) (from_ : Int) (to : Int) : ev (Z := Bool) Try.prog (lsays_sp N) lsays_B [] [] (some lsays_rt) 400 false [.c [0], .c [1]] (stL lsays_st (((t, t2, t3, ()), from_, to, ()), ())) (stH lsays_st (((t, t2, t3, ()), from_, to, ()), ())) = lsays_S N t t2 t3 from_ to := by kernel_rfl
noncomputable def sp_lsays (N : Nat) : Spec := { f := 114, ins := ⟨[.agg [.sl (.pair (.int .i64) (.pair (.int .i64) .bool)), .sl (.pair (.int .i64) (.pair (.int .i64) (.int .i64))), .i .i64], .i .i64, .i .i64], []⟩, outs := [⟨[.b], []⟩], run := fun p k => (lsays_S N p.1.1.1 p.1.1.2.1 p.1.1.2.2.1 p.1.2.1 p.1.2.2.1).bind fun r => k ((r, ()), ()) }
theorem sp_lsays_ok (N : Nat) : SpecOK Try.prog (sp_lsays N) := fn_sound (B := lsays_B) (loops := []) (leaves := []) (fun p => lsays_S N p.1.1.1 p.1.1.2.1 p.1.1.2.2.1 p.1.2.1 p.1.2.2.1) (fun r => ((r, ()), ())) lsays_rt (fun _ _ _ => rfl) (fun r z h => by cases h; rfl) Try.func114 (by kernel_rfl) (by kernel_rfl) (by kernel_rfl) rfl rfl (by kernel_rfl) (fun args w => Sem.pv_run _ _ _ (by kernel_rfl) w) (lsays_all N) mixed trivial (fun z E Xc hE hX hret => trivial) (fun p => lsays_eq N p.1.1.1 p.1.1.2.1 p.1.1.2.2.1 p.1.2.1 p.1.2.2.1)

def fits_l1 (N : Nat) : Nat → Int → Int → Int → (List (Int × (Int × Bool))) → Int → Int → (List (Int × (Int × Bool))) → (List (Int × (Int × Int))) → Int → Option (Int × Int × Int × (List (Int × (Int × Bool))) × (List (Int × (Int × Int))) × Int)
  | 0, _, _, _, _, _, _, _, _, _ => none
  | n_ + 1, from_, to, n, u, u2, u3, t, t2, t3 =>
    br (decide (u3 < u2))
      (idx u u3 fun x_1 =>
      chk (n + x_1.1) <|
      chk (u3 + 1) <|
      fits_l1 N n_ from_ to (n + x_1.1) u u2 (u3 + 1) t t2 t3)
      (some ((from_, to, n, t, t2, t3)))
def fits_S (N : Nat) (t : List (Int × (Int × Bool))) (t2 : List (Int × (Int × Int))) (t3 : Int) (from_ : Int) (to : Int) : Option Bool :=
  grd (decide ((0 : Int) ≤ from_ ∧ (from_ : Int) ≤ to ∧ to ≤ (t.length : Int))) <|
  (fits_l1 N N from_ to 0 ((t.take to.toNat).drop from_.toNat) (((t.take to.toNat).drop from_.toNat).length : Int) 0 t t2 t3).bind fun (from__2, to_3, n_4, t_5, t2_6, t3_7) =>
  br (decide (n_4 ≤ t3_7))
    (br (decide (from__2 = 0))
      (br (decide (to_3 = (t_5.length : Int)))
        ((lsays_S N t_5 t2_6 t3_7 from__2 to_3).bind fun x_8 =>
        some (!x_8))
        (chk (to_3 - 1) <|
        idx t_5 (to_3 - 1) fun x_9 =>
        br x_9.2.2
          ((lsays_S N t_5 t2_6 t3_7 from__2 to_3).bind fun x_10 =>
          some (!x_10))
          (some false)))
      (chk (from__2 - 1) <|
      idx t_5 (from__2 - 1) fun x_11 =>
      br x_11.2.2
        (br (decide (to_3 = (t_5.length : Int)))
          ((lsays_S N t_5 t2_6 t3_7 from__2 to_3).bind fun x_12 =>
          some (!x_12))
          (chk (to_3 - 1) <|
          idx t_5 (to_3 - 1) fun x_13 =>
          br x_13.2.2
            ((lsays_S N t_5 t2_6 t3_7 from__2 to_3).bind fun x_14 =>
            some (!x_14))
            (some false)))
        (some false)))
    (some false)
noncomputable def fits_sp (N : Nat) : List Spec := [sp_lsays N]
theorem fits_all (N : Nat) : AllP (SpecOK Try.prog) (fits_sp N) := ⟨sp_lsays_ok N, trivial⟩
noncomputable def fits_c : Code := (Try.f64.body).getD .skip
noncomputable abbrev fits_B : Body := { c := fits_c, n := 65, res := [.tmp 6], outs := [⟨[.b], []⟩], m0 := 0 }
abbrev fits_rt : altD fits_B.outs → Option Bool := fun r => some r.1.1
abbrev fits_l1_at : List PI := [.c [1, 1, 0, 1, 0, 0, 0], .c [1, 1, 0, 1, 0, 0, 1], .l [1, 1, 0, 1, 0, 0], .b 0, .c [1, 1, 1]]
abbrev fits_l1_st : Sta := ⟨[1, 2, 3, 7, 14, 15, 16], ⟨[.i .i64, .i .i64, .own 0 0, .i .i64, .sl (.pair (.int .i64) (.pair (.int .i64) .bool)), .i .i64, .i .i64], [.segs [.sl (.pair (.int .i64) (.pair (.int .i64) .bool)), .sl (.pair (.int .i64) (.pair (.int .i64) (.int .i64))), .i .i64]]⟩⟩
abbrev fits_l1_h (rec : Int → Int → Int → (List (Int × (Int × Bool))) → Int → Int → (List (Int × (Int × Bool))) → (List (Int × (Int × Int))) → Int → Option (Int × Int × Int × (List (Int × (Int × Bool))) × (List (Int × (Int × Int))) × Int)) : Leaf (Int × Int × Int × (List (Int × (Int × Bool))) × (List (Int × (Int × Int))) × Int) := ⟨fits_l1_at, fits_l1_st, fun p => rec p.1.1 p.1.2.1 p.1.2.2.2.1 p.1.2.2.2.2.1 p.1.2.2.2.2.2.1 p.1.2.2.2.2.2.2.1 p.2.1.1 p.2.1.2.1 p.2.1.2.2.1⟩
abbrev fits_l1_e0 : Leaf (Int × Int × Int × (List (Int × (Int × Bool))) × (List (Int × (Int × Int))) × Int) := ⟨[.c [1, 1, 1, 0], .c [1, 1, 1, 1]], ⟨[1, 2, 3, 7], ⟨[.i .i64, .i .i64, .own 0 0, .i .i64], [.segs [.sl (.pair (.int .i64) (.pair (.int .i64) .bool)), .sl (.pair (.int .i64) (.pair (.int .i64) (.int .i64))), .i .i64]]⟩⟩, fun p => some ((p.1.1, p.1.2.1, p.1.2.2.2.1, p.2.1.1, p.2.1.2.1, p.2.1.2.2.1))⟩
noncomputable def fits_l1_L (N : Nat) : LoopS := { at_ := fits_l1_at, sta := fits_l1_st, exits := [([.c [1, 1, 1, 0], .c [1, 1, 1, 1]], ⟨[1, 2, 3, 7], ⟨[.i .i64, .i .i64, .own 0 0, .i .i64], [.segs [.sl (.pair (.int .i64) (.pair (.int .i64) .bool)), .sl (.pair (.int .i64) (.pair (.int .i64) (.int .i64))), .i .i64]]⟩⟩)], run := fun p k => (fits_l1 N N p.1.1 p.1.2.1 p.1.2.2.2.1 p.1.2.2.2.2.1 p.1.2.2.2.2.2.1 p.1.2.2.2.2.2.2.1 p.2.1.1 p.2.1.2.1 p.2.1.2.2.1).bind fun e => k (.inl ((e.1, e.2.1, (), e.2.2.1, ()), ((e.2.2.2.1, e.2.2.2.2.1, e.2.2.2.2.2, ()), ()))) }
theorem fits_l1_eq (N n_ : Nat) (from_ : Int) (to : Int) (n : Int) (u : List (Int × (Int × Bool))) (u2 : Int) (u3 : Int) (t : List (Int × (Int × Bool))) (t2 : List (Int × (Int × Int))) (t3 : Int) : ev (Z := Int × Int × Int × (List (Int × (Int × Bool))) × (List (Int × (Int × Int))) × Int) Try.prog (fits_sp N) fits_B [] [fits_l1_h (fits_l1 N n_), fits_l1_e0] none 400 true fits_l1_at (stL fits_l1_st ((from_, to, (), n, u, u2, u3, ()), ((t, t2, t3, ()), ()))) (stH fits_l1_st ((from_, to, (), n, u, u2, u3, ()), ((t, t2, t3, ()), ()))) = fits_l1 N (n_ + 1) from_ to n u u2 u3 t t2 t3 := by kernel_rfl
theorem fits_l1_ok (N : Nat) {top : Bool} : LoopOK Try.prog fits_B.c fits_B.n fits_B.m0 top (fits_l1_L N) := loop_of_ev (Z := Int × Int × Int × (List (Int × (Int × Bool))) × (List (Int × (Int × Int))) × Int) (N := N) (fun m p => fits_l1 N m p.1.1 p.1.2.1 p.1.2.2.2.1 p.1.2.2.2.2.1 p.1.2.2.2.2.2.1 p.1.2.2.2.2.2.2.1 p.2.1.1 p.2.1.2.1 p.2.1.2.2.1) (fun e => .inl ((e.1, e.2.1, (), e.2.2.1, ()), ((e.2.2.2.1, e.2.2.2.2.1, e.2.2.2.2.2, ()), ()))) (fun _ _ _ => rfl) (fun _ => rfl) (fun m z E Xc hE hX hrec hx => leaf_of_ev (B := fits_B) (loops := []) (leaves := [fits_l1_h (fits_l1 N m), fits_l1_e0]) (fits_all N) mixed trivial hE hX ⟨hrec, (fun p hp => by obtain rfl := Option.some.inj hp; exact hx), trivial⟩ RetOK.no (fun p => fits_l1_eq N m p.1.1 p.1.2.1 p.1.2.2.2.1 p.1.2.2.2.2.1 p.1.2.2.2.2.2.1 p.1.2.2.2.2.2.2.1 p.2.1.1 p.2.1.2.1 p.2.1.2.2.1))
abbrev fits_st : Sta := ⟨[0, 1, 2], ⟨[.agg [.sl (.pair (.int .i64) (.pair (.int .i64) .bool)), .sl (.pair (.int .i64) (.pair (.int .i64) (.int .i64))), .i .i64], .i .i64, .i .i64], []⟩⟩
theorem fits_eq (N : Nat) (t : List (Int × (Int × Bool))) (t2 : List (Int × (Int × Int))) (t3 : Int) (from_ : Int) (to : Int) : ev (Z := Bool) Try.prog (fits_sp N) fits_B [fits_l1_L N] [] (some fits_rt) 400 false [.c [0], .c [1]] (stL fits_st (((t, t2, t3, ()), from_, to, ()), ())) (stH fits_st (((t, t2, t3, ()), from_, to, ()), ())) = fits_S N t t2 t3 from_ to := by kernel_rfl
noncomputable def sp_fits (N : Nat) : Spec := { f := 64, ins := ⟨[.agg [.sl (.pair (.int .i64) (.pair (.int .i64) .bool)), .sl (.pair (.int .i64) (.pair (.int .i64) (.int .i64))), .i .i64], .i .i64, .i .i64], []⟩, outs := [⟨[.b], []⟩], run := fun p k => (fits_S N p.1.1.1 p.1.1.2.1 p.1.1.2.2.1 p.1.2.1 p.1.2.2.1).bind fun r => k ((r, ()), ()) }
theorem sp_fits_ok (N : Nat) : SpecOK Try.prog (sp_fits N) := fn_sound (B := fits_B) (loops := [fits_l1_L N]) (leaves := []) (fun p => fits_S N p.1.1.1 p.1.1.2.1 p.1.1.2.2.1 p.1.2.1 p.1.2.2.1) (fun r => ((r, ()), ())) fits_rt (fun _ _ _ => rfl) (fun r z h => by cases h; rfl) Try.func64 (by kernel_rfl) (by kernel_rfl) (by kernel_rfl) rfl rfl (by kernel_rfl) (fun args w => Sem.pv_run _ _ _ (by kernel_rfl) w) (fits_all N) mixed ⟨fits_l1_ok N, trivial⟩ (fun z E Xc hE hX hret => trivial) (fun p => fits_eq N p.1.1.1 p.1.1.2.1 p.1.1.2.2.1 p.1.2.1 p.1.2.2.1)

def places_l1 (N : Nat) : Nat → (List Int) → Int → Int → (List (Int × (Int × Bool))) → (List (Int × (Int × Int))) → Int → (List Int) → Option ((Unit) ⊕ ((List (Int × (Int × Bool))) × (List (Int × (Int × Int))) × Int × List Int))
  | 0, _, _, _, _, _, _, _ => none
  | n_ + 1, u, u2, u3, t, t2, t3, out =>
    br (decide (u3 < u2))
      (idx u u3 fun x_1 =>
      chk ((out.length : Int) - 1) <|
      rng ((out.length : Int) - 1) out.length <|
      get out (((out.length : Int) - 1).toNat) fun x_2 =>
      br (decide (x_1 < 1))
        (some (.inl ()))
        (chk ((t.length : Int) - x_2) <|
        br (decide (((t.length : Int) - x_2) < x_1))
          (some (.inl ()))
          (chk ((out.length : Int) - 1) <|
          rng ((out.length : Int) - 1) out.length <|
          get out (((out.length : Int) - 1).toNat) fun x_3 =>
          chk (x_3 + x_1) <|
          lim (out.length + [(x_3 + x_1)].length) <|
          chk (u3 + 1) <|
          places_l1 N n_ u u2 (u3 + 1) t t2 t3 (out ++ [(x_3 + x_1)]))))
      (some (.inr (t, t2, t3, out)))
def places_S (N : Nat) (t : List (Int × (Int × Bool))) (t2 : List (Int × (Int × Int))) (t3 : Int) (l : List Int) : Option (List Int) :=
  (places_l1 N N l (l.length : Int) 0 t t2 t3 [0]).bind fun e => match e with
  | .inl _ =>
    some []
  | .inr (t_4, t2_5, t3_6, out_7) =>
    chk ((out_7.length : Int) - 1) <|
    rng ((out_7.length : Int) - 1) out_7.length <|
    get out_7 (((out_7.length : Int) - 1).toNat) fun x_8 =>
    br (!decide (x_8 = (t_4.length : Int)))
      (some [])
      (some out_7)
noncomputable def places_sp (N : Nat) : List Spec := []
theorem places_all (N : Nat) : AllP (SpecOK Try.prog) (places_sp N) := trivial
noncomputable def places_c : Code := (Try.f39.body).getD .skip
noncomputable abbrev places_B : Body := { c := places_c, n := 56, res := [.tmp 4], outs := [⟨[.sl (.int .i64)], []⟩], m0 := 0 }
abbrev places_rt : altD places_B.outs → Option (List Int) := fun r => some r.1.1
abbrev places_l1_at : List PI := [.c [1, 1, 0, 1, 0, 0, 0], .c [1, 1, 0, 1, 0, 0, 1], .l [1, 1, 0, 1, 0, 0], .b 0, .c [1, 1, 1]]
abbrev places_l1_st : Sta := ⟨[2, 5, 10, 11, 12], ⟨[.own 0 0, .ols 1, .sl (.int .i64), .i .i64, .i .i64], [.segs [.sl (.pair (.int .i64) (.pair (.int .i64) .bool)), .sl (.pair (.int .i64) (.pair (.int .i64) (.int .i64))), .i .i64], .lst (.int .i64)]⟩⟩
abbrev places_l1_h (rec : (List Int) → Int → Int → (List (Int × (Int × Bool))) → (List (Int × (Int × Int))) → Int → (List Int) → Option ((Unit) ⊕ ((List (Int × (Int × Bool))) × (List (Int × (Int × Int))) × Int × List Int))) : Leaf ((Unit) ⊕ ((List (Int × (Int × Bool))) × (List (Int × (Int × Int))) × Int × List Int)) := ⟨places_l1_at, places_l1_st, fun p => rec p.1.2.2.1 p.1.2.2.2.1 p.1.2.2.2.2.1 p.2.1.1 p.2.1.2.1 p.2.1.2.2.1 p.2.2.1⟩
abbrev places_l1_e0 : Leaf ((Unit) ⊕ ((List (Int × (Int × Bool))) × (List (Int × (Int × Int))) × Int × List Int)) := ⟨[.c [1, 1, 0, 1, 0, 0, 1, 1, 0, 0, 1, 0, 1, 1, 0, 0], .c [1, 1, 0, 1, 0, 0, 1, 1, 0, 0, 1, 0, 1, 1, 0, 1], .c [1, 1, 0, 1, 0, 0, 1, 1, 0, 0, 1, 1], .b 1, .c [1, 1, 0, 1, 0, 0, 1, 1, 1], .l [1, 1, 0, 1, 0, 0], .b 0, .c [1, 1, 1]], ⟨[], ⟨[], []⟩⟩, fun p => some (.inl ())⟩
abbrev places_l1_e1 : Leaf ((Unit) ⊕ ((List (Int × (Int × Bool))) × (List (Int × (Int × Int))) × Int × List Int)) := ⟨[.c [1, 1, 1, 0, 0], .c [1, 1, 1, 0, 1], .c [1, 1, 1, 1]], ⟨[2, 5], ⟨[.own 0 0, .ols 1], [.segs [.sl (.pair (.int .i64) (.pair (.int .i64) .bool)), .sl (.pair (.int .i64) (.pair (.int .i64) (.int .i64))), .i .i64], .lst (.int .i64)]⟩⟩, fun p => some (.inr (p.2.1.1, p.2.1.2.1, p.2.1.2.2.1, p.2.2.1))⟩
noncomputable def places_l1_L (N : Nat) : LoopS := { at_ := places_l1_at, sta := places_l1_st, exits := [([.c [1, 1, 0, 1, 0, 0, 1, 1, 0, 0, 1, 0, 1, 1, 0, 0], .c [1, 1, 0, 1, 0, 0, 1, 1, 0, 0, 1, 0, 1, 1, 0, 1], .c [1, 1, 0, 1, 0, 0, 1, 1, 0, 0, 1, 1], .b 1, .c [1, 1, 0, 1, 0, 0, 1, 1, 1], .l [1, 1, 0, 1, 0, 0], .b 0, .c [1, 1, 1]], ⟨[], ⟨[], []⟩⟩), ([.c [1, 1, 1, 0, 0], .c [1, 1, 1, 0, 1], .c [1, 1, 1, 1]], ⟨[2, 5], ⟨[.own 0 0, .ols 1], [.segs [.sl (.pair (.int .i64) (.pair (.int .i64) .bool)), .sl (.pair (.int .i64) (.pair (.int .i64) (.int .i64))), .i .i64], .lst (.int .i64)]⟩⟩)], run := fun p k => (places_l1 N N p.1.2.2.1 p.1.2.2.2.1 p.1.2.2.2.2.1 p.2.1.1 p.2.1.2.1 p.2.1.2.2.1 p.2.2.1).bind fun e => match e with | .inl x => k (.inl ((), ())) | .inr x => k (.inr (.inl (((), (), ()), ((x.1, x.2.1, x.2.2.1, ()), x.2.2.2, ())))) }
theorem places_l1_eq (N n_ : Nat) (u : List Int) (u2 : Int) (u3 : Int) (t : List (Int × (Int × Bool))) (t2 : List (Int × (Int × Int))) (t3 : Int) (out : List Int) : ev (Z := (Unit) ⊕ ((List (Int × (Int × Bool))) × (List (Int × (Int × Int))) × Int × List Int)) Try.prog (places_sp N) places_B [] [places_l1_h (places_l1 N n_), places_l1_e0, places_l1_e1] none 400 true places_l1_at (stL places_l1_st (((), (), u, u2, u3, ()), ((t, t2, t3, ()), out, ()))) (stH places_l1_st (((), (), u, u2, u3, ()), ((t, t2, t3, ()), out, ()))) = places_l1 N (n_ + 1) u u2 u3 t t2 t3 out := by kernel_rfl
theorem places_l1_ok (N : Nat) {top : Bool} : LoopOK Try.prog places_B.c places_B.n places_B.m0 top (places_l1_L N) := loop_of_ev (Z := (Unit) ⊕ ((List (Int × (Int × Bool))) × (List (Int × (Int × Int))) × Int × List Int)) (N := N) (fun m p => places_l1 N m p.1.2.2.1 p.1.2.2.2.1 p.1.2.2.2.2.1 p.2.1.1 p.2.1.2.1 p.2.1.2.2.1 p.2.2.1) (fun e => match e with | .inl x => .inl ((), ()) | .inr x => .inr (.inl (((), (), ()), ((x.1, x.2.1, x.2.2.1, ()), x.2.2.2, ())))) (fun _ p k => bind_congr_ (places_l1 N N p.1.2.2.1 p.1.2.2.2.1 p.1.2.2.2.2.1 p.2.1.1 p.2.1.2.1 p.2.1.2.2.1 p.2.2.1) _ _ (fun e => by rcases e with x | x <;> rfl)) (fun _ => rfl) (fun m z E Xc hE hX hrec hx => leaf_of_ev (B := places_B) (loops := []) (leaves := [places_l1_h (places_l1 N m), places_l1_e0, places_l1_e1]) (places_all N) mixed trivial hE hX ⟨hrec, (fun p hp => by obtain rfl := Option.some.inj hp; exact hx), (fun p hp => by obtain rfl := Option.some.inj hp; exact hx), trivial⟩ RetOK.no (fun p => places_l1_eq N m p.1.2.2.1 p.1.2.2.2.1 p.1.2.2.2.2.1 p.2.1.1 p.2.1.2.1 p.2.1.2.2.1 p.2.2.1))
abbrev places_st : Sta := ⟨[0, 1], ⟨[.agg [.sl (.pair (.int .i64) (.pair (.int .i64) .bool)), .sl (.pair (.int .i64) (.pair (.int .i64) (.int .i64))), .i .i64], .sl (.int .i64)], []⟩⟩
theorem places_eq (N : Nat) (t : List (Int × (Int × Bool))) (t2 : List (Int × (Int × Int))) (t3 : Int) (l : List Int) : ev (Z := List Int) Try.prog (places_sp N) places_B [places_l1_L N] [] (some places_rt) 400 false [.c [0], .c [1]] (stL places_st (((t, t2, t3, ()), l, ()), ())) (stH places_st (((t, t2, t3, ()), l, ()), ())) = places_S N t t2 t3 l := by kernel_rfl
noncomputable def sp_places (N : Nat) : Spec := { f := 39, ins := ⟨[.agg [.sl (.pair (.int .i64) (.pair (.int .i64) .bool)), .sl (.pair (.int .i64) (.pair (.int .i64) (.int .i64))), .i .i64], .sl (.int .i64)], []⟩, outs := [⟨[.sl (.int .i64)], []⟩], run := fun p k => (places_S N p.1.1.1 p.1.1.2.1 p.1.1.2.2.1 p.1.2.1).bind fun r => k ((r, ()), ()) }
theorem sp_places_ok (N : Nat) : SpecOK Try.prog (sp_places N) := fn_sound (B := places_B) (loops := [places_l1_L N]) (leaves := []) (fun p => places_S N p.1.1.1 p.1.1.2.1 p.1.1.2.2.1 p.1.2.1) (fun r => ((r, ()), ())) places_rt (fun _ _ _ => rfl) (fun r z h => by cases h; rfl) Try.func39 (by kernel_rfl) (by kernel_rfl) (by kernel_rfl) rfl rfl (by kernel_rfl) (fun args w => Sem.pv_run _ _ _ (by kernel_rfl) w) (places_all N) mixed ⟨places_l1_ok N, trivial⟩ (fun z E Xc hE hX hret => trivial) (fun p => places_eq N p.1.1.1 p.1.1.2.1 p.1.1.2.2.1 p.1.2.1)

def sound_l1 (N : Nat) : Nat → (List Int) → Int → Int → (List (Int × (Int × Bool))) → (List (Int × (Int × Int))) → Int → Option ((Unit) ⊕ (List Int))
  | 0, _, _, _, _, _, _ => none
  | n_ + 1, p, u, u2, t, t2, t3 =>
    br (decide (u2 < u))
      (idx p u2 fun x_2 =>
      chk (u2 + 1) <|
      idx p (u2 + 1) fun x_3 =>
      (fits_S N t t2 t3 x_2 x_3).bind fun x_4 =>
      br (!x_4)
        (some (.inl ()))
        (chk (u2 + 1) <|
        sound_l1 N n_ p u (u2 + 1) t t2 t3))
      (some (.inr p))
def sound_S (N : Nat) (t : List (Int × (Int × Bool))) (t2 : List (Int × (Int × Int))) (t3 : Int) (l : List Int) : Option Bool :=
  (places_S N t t2 t3 l).bind fun x_1 =>
  chk ((x_1.length : Int) - 1) <|
  grd (decide ((0 : Int) ≤ (max 0 ((x_1.length : Int) - 1)) ∧ (max 0 ((x_1.length : Int) - 1)) ≤ (x_1.length : Int))) <|
  (sound_l1 N N x_1 ((x_1.take ((max 0 ((x_1.length : Int) - 1)).toNat)).length : Int) 0 t t2 t3).bind fun e => match e with
  | .inl _ =>
    some false
  | .inr p_5 =>
    some (decide (1 < (p_5.length : Int)))
noncomputable def sound_sp (N : Nat) : List Spec := [sp_fits N, sp_places N]
theorem sound_all (N : Nat) : AllP (SpecOK Try.prog) (sound_sp N) := ⟨sp_fits_ok N, sp_places_ok N, trivial⟩
noncomputable def sound_c : Code := (Try.f38.body).getD .skip
noncomputable abbrev sound_B : Body := { c := sound_c, n := 36, res := [.tmp 4], outs := [⟨[.b], []⟩], m0 := 0 }
abbrev sound_rt : altD sound_B.outs → Option Bool := fun r => some r.1.1
abbrev sound_l1_at : List PI := [.c [1, 1, 0, 1, 0, 0, 0], .c [1, 1, 0, 1, 0, 0, 1], .l [1, 1, 0, 1, 0, 0], .b 0, .c [1, 1, 1]]
abbrev sound_l1_st : Sta := ⟨[2, 5, 16, 17], ⟨[.own 0 0, .sl (.int .i64), .i .i64, .i .i64], [.segs [.sl (.pair (.int .i64) (.pair (.int .i64) .bool)), .sl (.pair (.int .i64) (.pair (.int .i64) (.int .i64))), .i .i64]]⟩⟩
abbrev sound_l1_h (rec : (List Int) → Int → Int → (List (Int × (Int × Bool))) → (List (Int × (Int × Int))) → Int → Option ((Unit) ⊕ (List Int))) : Leaf ((Unit) ⊕ (List Int)) := ⟨sound_l1_at, sound_l1_st, fun p => rec p.1.2.1 p.1.2.2.1 p.1.2.2.2.1 p.2.1.1 p.2.1.2.1 p.2.1.2.2.1⟩
abbrev sound_l1_e0 : Leaf ((Unit) ⊕ (List Int)) := ⟨[.c [1, 1, 0, 1, 0, 0, 1, 1, 0, 0, 1, 1, 0, 0], .c [1, 1, 0, 1, 0, 0, 1, 1, 0, 0, 1, 1, 0, 1], .b 1, .c [1, 1, 0, 1, 0, 0, 1, 1, 1], .l [1, 1, 0, 1, 0, 0], .b 0, .c [1, 1, 1]], ⟨[], ⟨[], []⟩⟩, fun p => some (.inl ())⟩
abbrev sound_l1_e1 : Leaf ((Unit) ⊕ (List Int)) := ⟨[.c [1, 1, 1, 0], .c [1, 1, 1, 1]], ⟨[5], ⟨[.sl (.int .i64)], []⟩⟩, fun p => some (.inr p.1.1)⟩
noncomputable def sound_l1_L (N : Nat) : LoopS := { at_ := sound_l1_at, sta := sound_l1_st, exits := [([.c [1, 1, 0, 1, 0, 0, 1, 1, 0, 0, 1, 1, 0, 0], .c [1, 1, 0, 1, 0, 0, 1, 1, 0, 0, 1, 1, 0, 1], .b 1, .c [1, 1, 0, 1, 0, 0, 1, 1, 1], .l [1, 1, 0, 1, 0, 0], .b 0, .c [1, 1, 1]], ⟨[], ⟨[], []⟩⟩), ([.c [1, 1, 1, 0], .c [1, 1, 1, 1]], ⟨[5], ⟨[.sl (.int .i64)], []⟩⟩)], run := fun p k => (sound_l1 N N p.1.2.1 p.1.2.2.1 p.1.2.2.2.1 p.2.1.1 p.2.1.2.1 p.2.1.2.2.1).bind fun e => match e with | .inl x => k (.inl ((), ())) | .inr x => k (.inr (.inl ((x, ()), ()))) }
theorem sound_l1_eq (N n_ : Nat) (p : List Int) (u : Int) (u2 : Int) (t : List (Int × (Int × Bool))) (t2 : List (Int × (Int × Int))) (t3 : Int) : ev (Z := (Unit) ⊕ (List Int)) Try.prog (sound_sp N) sound_B [] [sound_l1_h (sound_l1 N n_), sound_l1_e0, sound_l1_e1] none 400 true sound_l1_at (stL sound_l1_st (((), p, u, u2, ()), ((t, t2, t3, ()), ()))) (stH sound_l1_st (((), p, u, u2, ()), ((t, t2, t3, ()), ()))) = sound_l1 N (n_ + 1) p u u2 t t2 t3 := by kernel_rfl
theorem sound_l1_ok (N : Nat) {top : Bool} : LoopOK Try.prog sound_B.c sound_B.n sound_B.m0 top (sound_l1_L N) := loop_of_ev (Z := (Unit) ⊕ (List Int)) (N := N) (fun m p => sound_l1 N m p.1.2.1 p.1.2.2.1 p.1.2.2.2.1 p.2.1.1 p.2.1.2.1 p.2.1.2.2.1) (fun e => match e with | .inl x => .inl ((), ()) | .inr x => .inr (.inl ((x, ()), ()))) (fun _ p k => bind_congr_ (sound_l1 N N p.1.2.1 p.1.2.2.1 p.1.2.2.2.1 p.2.1.1 p.2.1.2.1 p.2.1.2.2.1) _ _ (fun e => by rcases e with x | x <;> rfl)) (fun _ => rfl) (fun m z E Xc hE hX hrec hx => leaf_of_ev (B := sound_B) (loops := []) (leaves := [sound_l1_h (sound_l1 N m), sound_l1_e0, sound_l1_e1]) (sound_all N) mixed trivial hE hX ⟨hrec, (fun p hp => by obtain rfl := Option.some.inj hp; exact hx), (fun p hp => by obtain rfl := Option.some.inj hp; exact hx), trivial⟩ RetOK.no (fun p => sound_l1_eq N m p.1.2.1 p.1.2.2.1 p.1.2.2.2.1 p.2.1.1 p.2.1.2.1 p.2.1.2.2.1))
abbrev sound_st : Sta := ⟨[0, 1], ⟨[.agg [.sl (.pair (.int .i64) (.pair (.int .i64) .bool)), .sl (.pair (.int .i64) (.pair (.int .i64) (.int .i64))), .i .i64], .sl (.int .i64)], []⟩⟩
theorem sound_eq (N : Nat) (t : List (Int × (Int × Bool))) (t2 : List (Int × (Int × Int))) (t3 : Int) (l : List Int) : ev (Z := Bool) Try.prog (sound_sp N) sound_B [sound_l1_L N] [] (some sound_rt) 400 false [.c [0], .c [1]] (stL sound_st (((t, t2, t3, ()), l, ()), ())) (stH sound_st (((t, t2, t3, ()), l, ()), ())) = sound_S N t t2 t3 l := by kernel_rfl
noncomputable def sp_sound (N : Nat) : Spec := { f := 38, ins := ⟨[.agg [.sl (.pair (.int .i64) (.pair (.int .i64) .bool)), .sl (.pair (.int .i64) (.pair (.int .i64) (.int .i64))), .i .i64], .sl (.int .i64)], []⟩, outs := [⟨[.b], []⟩], run := fun p k => (sound_S N p.1.1.1 p.1.1.2.1 p.1.1.2.2.1 p.1.2.1).bind fun r => k ((r, ()), ()) }
theorem sp_sound_ok (N : Nat) : SpecOK Try.prog (sp_sound N) := fn_sound (B := sound_B) (loops := [sound_l1_L N]) (leaves := []) (fun p => sound_S N p.1.1.1 p.1.1.2.1 p.1.1.2.2.1 p.1.2.1) (fun r => ((r, ()), ())) sound_rt (fun _ _ _ => rfl) (fun r z h => by cases h; rfl) Try.func38 (by kernel_rfl) (by kernel_rfl) (by kernel_rfl) rfl rfl (by kernel_rfl) (fun args w => Sem.pv_run _ _ _ (by kernel_rfl) w) (sound_all N) mixed ⟨sound_l1_ok N, trivial⟩ (fun z E Xc hE hX hret => trivial) (fun p => sound_eq N p.1.1.1 p.1.1.2.1 p.1.1.2.2.1 p.1.2.1)

def lsure_l2 (N : Nat) : Nat → (List Int) → Int → (List Int) → Int → Int → (List Int) → Int → Int → (List (Int × (Int × Bool))) → (List (Int × (Int × Int))) → Int → Option ((Unit) ⊕ (List Int × List Int × Int × Int × (List (Int × (Int × Bool))) × (List (Int × (Int × Int))) × Int))
  | 0, _, _, _, _, _, _, _, _, _, _, _ => none
  | n_ + 1, p, from_, u, u2, u3, u4, u5, u6, t, t2, t3 =>
    br (decide (u6 < u5))
      (idx u4 u6 fun x_3 =>
      (lsays_S N t t2 t3 from_ x_3).bind fun x_4 =>
      br x_4
        (some (.inl ()))
        (chk (u6 + 1) <|
        lsure_l2 N n_ p from_ u u2 u3 u4 u5 (u6 + 1) t t2 t3))
      (some (.inr (p, u, u2, u3, t, t2, t3)))
def lsure_l1 (N : Nat) : Nat → (List Int) → (List Int) → Int → Int → (List (Int × (Int × Bool))) → (List (Int × (Int × Int))) → Int → Option ((Unit) ⊕ (List Int))
  | 0, _, _, _, _, _, _, _ => none
  | n_ + 1, p, u, u2, u3, t, t2, t3 =>
    br (decide (u3 < u2))
      (idx u u3 fun x_2 =>
      chk (u3 + 1) <|
      grd (decide ((0 : Int) ≤ (u3 + 1) ∧ (u3 + 1) ≤ (p.length : Int))) <|
      (lsure_l2 N N p x_2 u u2 u3 (p.drop ((u3 + 1).toNat)) ((p.drop ((u3 + 1).toNat)).length : Int) 0 t t2 t3).bind fun e => match e with
      | .inl _ =>
        some (.inl ())
      | .inr (p_5, u_6, u2_7, u3_8, t_9, t2_10, t3_11) =>
        chk (u3_8 + 1) <|
        lsure_l1 N n_ p_5 u_6 u2_7 (u3_8 + 1) t_9 t2_10 t3_11)
      (some (.inr p))
def lsure_S (N : Nat) (t : List (Int × (Int × Bool))) (t2 : List (Int × (Int × Int))) (t3 : Int) (l : List Int) : Option Bool :=
  (places_S N t t2 t3 l).bind fun x_1 =>
  (lsure_l1 N N x_1 x_1 (x_1.length : Int) 0 t t2 t3).bind fun e => match e with
  | .inl _ =>
    some false
  | .inr p_12 =>
    some (decide (1 < (p_12.length : Int)))
noncomputable def lsure_sp (N : Nat) : List Spec := [sp_lsays N, sp_places N]
theorem lsure_all (N : Nat) : AllP (SpecOK Try.prog) (lsure_sp N) := ⟨sp_lsays_ok N, sp_places_ok N, trivial⟩
noncomputable def lsure_c : Code := (Try.f48.body).getD .skip
noncomputable abbrev lsure_B : Body := { c := lsure_c, n := 38, res := [.tmp 4], outs := [⟨[.b], []⟩], m0 := 0 }
abbrev lsure_rt : altD lsure_B.outs → Option Bool := fun r => some r.1.1
abbrev lsure_l2_at : List PI := [.c [1, 1, 0, 1, 0, 0, 1, 1, 0, 0, 1, 1, 0, 0, 0], .c [1, 1, 0, 1, 0, 0, 1, 1, 0, 0, 1, 1, 0, 0, 1], .l [1, 1, 0, 1, 0, 0, 1, 1, 0, 0, 1, 1, 0, 0], .b 2, .b 1, .c [1, 1, 0, 1, 0, 0, 1, 1, 1], .l [1, 1, 0, 1, 0, 0], .b 0, .c [1, 1, 1]]
abbrev lsure_l2_st : Sta := ⟨[2, 5, 7, 13, 14, 15, 23, 24, 25], ⟨[.own 0 0, .sl (.int .i64), .i .i64, .sl (.int .i64), .i .i64, .i .i64, .sl (.int .i64), .i .i64, .i .i64], [.segs [.sl (.pair (.int .i64) (.pair (.int .i64) .bool)), .sl (.pair (.int .i64) (.pair (.int .i64) (.int .i64))), .i .i64]]⟩⟩
abbrev lsure_l2_h (rec : (List Int) → Int → (List Int) → Int → Int → (List Int) → Int → Int → (List (Int × (Int × Bool))) → (List (Int × (Int × Int))) → Int → Option ((Unit) ⊕ (List Int × List Int × Int × Int × (List (Int × (Int × Bool))) × (List (Int × (Int × Int))) × Int))) : Leaf ((Unit) ⊕ (List Int × List Int × Int × Int × (List (Int × (Int × Bool))) × (List (Int × (Int × Int))) × Int)) := ⟨lsure_l2_at, lsure_l2_st, fun p => rec p.1.2.1 p.1.2.2.1 p.1.2.2.2.1 p.1.2.2.2.2.1 p.1.2.2.2.2.2.1 p.1.2.2.2.2.2.2.1 p.1.2.2.2.2.2.2.2.1 p.1.2.2.2.2.2.2.2.2.1 p.2.1.1 p.2.1.2.1 p.2.1.2.2.1⟩
abbrev lsure_l2_e0 : Leaf ((Unit) ⊕ (List Int × List Int × Int × Int × (List (Int × (Int × Bool))) × (List (Int × (Int × Int))) × Int)) := ⟨[.c [1, 1, 0, 1, 0, 0, 1, 1, 0, 0, 1, 1, 0, 0, 1, 1, 0, 0, 1, 1, 0, 0], .c [1, 1, 0, 1, 0, 0, 1, 1, 0, 0, 1, 1, 0, 0, 1, 1, 0, 0, 1, 1, 0, 1], .b 3, .c [1, 1, 0, 1, 0, 0, 1, 1, 0, 0, 1, 1, 0, 0, 1, 1, 1], .l [1, 1, 0, 1, 0, 0, 1, 1, 0, 0, 1, 1, 0, 0], .b 2, .b 1, .c [1, 1, 0, 1, 0, 0, 1, 1, 1], .l [1, 1, 0, 1, 0, 0], .b 0, .c [1, 1, 1]], ⟨[], ⟨[], []⟩⟩, fun p => some (.inl ())⟩
abbrev lsure_l2_e1 : Leaf ((Unit) ⊕ (List Int × List Int × Int × Int × (List (Int × (Int × Bool))) × (List (Int × (Int × Int))) × Int)) := ⟨[.c [1, 1, 0, 1, 0, 0, 1, 1, 1], .l [1, 1, 0, 1, 0, 0], .b 0, .c [1, 1, 1]], ⟨[2, 5, 13, 14, 15], ⟨[.own 0 0, .sl (.int .i64), .sl (.int .i64), .i .i64, .i .i64], [.segs [.sl (.pair (.int .i64) (.pair (.int .i64) .bool)), .sl (.pair (.int .i64) (.pair (.int .i64) (.int .i64))), .i .i64]]⟩⟩, fun p => some (.inr (p.1.2.1, p.1.2.2.1, p.1.2.2.2.1, p.1.2.2.2.2.1, p.2.1.1, p.2.1.2.1, p.2.1.2.2.1))⟩
noncomputable def lsure_l2_L (N : Nat) : LoopS := { at_ := lsure_l2_at, sta := lsure_l2_st, exits := [([.c [1, 1, 0, 1, 0, 0, 1, 1, 0, 0, 1, 1, 0, 0, 1, 1, 0, 0, 1, 1, 0, 0], .c [1, 1, 0, 1, 0, 0, 1, 1, 0, 0, 1, 1, 0, 0, 1, 1, 0, 0, 1, 1, 0, 1], .b 3, .c [1, 1, 0, 1, 0, 0, 1, 1, 0, 0, 1, 1, 0, 0, 1, 1, 1], .l [1, 1, 0, 1, 0, 0, 1, 1, 0, 0, 1, 1, 0, 0], .b 2, .b 1, .c [1, 1, 0, 1, 0, 0, 1, 1, 1], .l [1, 1, 0, 1, 0, 0], .b 0, .c [1, 1, 1]], ⟨[], ⟨[], []⟩⟩), ([.c [1, 1, 0, 1, 0, 0, 1, 1, 1], .l [1, 1, 0, 1, 0, 0], .b 0, .c [1, 1, 1]], ⟨[2, 5, 13, 14, 15], ⟨[.own 0 0, .sl (.int .i64), .sl (.int .i64), .i .i64, .i .i64], [.segs [.sl (.pair (.int .i64) (.pair (.int .i64) .bool)), .sl (.pair (.int .i64) (.pair (.int .i64) (.int .i64))), .i .i64]]⟩⟩)], run := fun p k => (lsure_l2 N N p.1.2.1 p.1.2.2.1 p.1.2.2.2.1 p.1.2.2.2.2.1 p.1.2.2.2.2.2.1 p.1.2.2.2.2.2.2.1 p.1.2.2.2.2.2.2.2.1 p.1.2.2.2.2.2.2.2.2.1 p.2.1.1 p.2.1.2.1 p.2.1.2.2.1).bind fun e => match e with | .inl x => k (.inl ((), ())) | .inr x => k (.inr (.inl (((), x.1, x.2.1, x.2.2.1, x.2.2.2.1, ()), ((x.2.2.2.2.1, x.2.2.2.2.2.1, x.2.2.2.2.2.2, ()), ())))) }
theorem lsure_l2_eq (N n_ : Nat) (p : List Int) (from_ : Int) (u : List Int) (u2 : Int) (u3 : Int) (u4 : List Int) (u5 : Int) (u6 : Int) (t : List (Int × (Int × Bool))) (t2 : List (Int × (Int × Int))) (t3 : Int) : ev (Z := (Unit) ⊕ (List Int × List Int × Int × Int × (List (Int × (Int × Bool))) × (List (Int × (Int × Int))) × Int)) Try.prog (lsure_sp N) lsure_B [] [lsure_l2_h (lsure_l2 N n_), lsure_l2_e0, lsure_l2_e1] none 400 true lsure_l2_at (stL lsure_l2_st (((), p, from_, u, u2, u3, u4, u5, u6, ()), ((t, t2, t3, ()), ()))) (stH lsure_l2_st (((), p, from_, u, u2, u3, u4, u5, u6, ()), ((t, t2, t3, ()), ()))) = lsure_l2 N (n_ + 1) p from_ u u2 u3 u4 u5 u6 t t2 t3 := by kernel_rfl
theorem lsure_l2_ok (N : Nat) {top : Bool} : LoopOK Try.prog lsure_B.c lsure_B.n lsure_B.m0 top (lsure_l2_L N) := loop_of_ev (Z := (Unit) ⊕ (List Int × List Int × Int × Int × (List (Int × (Int × Bool))) × (List (Int × (Int × Int))) × Int)) (N := N) (fun m p => lsure_l2 N m p.1.2.1 p.1.2.2.1 p.1.2.2.2.1 p.1.2.2.2.2.1 p.1.2.2.2.2.2.1 p.1.2.2.2.2.2.2.1 p.1.2.2.2.2.2.2.2.1 p.1.2.2.2.2.2.2.2.2.1 p.2.1.1 p.2.1.2.1 p.2.1.2.2.1) (fun e => match e with | .inl x => .inl ((), ()) | .inr x => .inr (.inl (((), x.1, x.2.1, x.2.2.1, x.2.2.2.1, ()), ((x.2.2.2.2.1, x.2.2.2.2.2.1, x.2.2.2.2.2.2, ()), ())))) (fun _ p k => bind_congr_ (lsure_l2 N N p.1.2.1 p.1.2.2.1 p.1.2.2.2.1 p.1.2.2.2.2.1 p.1.2.2.2.2.2.1 p.1.2.2.2.2.2.2.1 p.1.2.2.2.2.2.2.2.1 p.1.2.2.2.2.2.2.2.2.1 p.2.1.1 p.2.1.2.1 p.2.1.2.2.1) _ _ (fun e => by rcases e with x | x <;> rfl)) (fun _ => rfl) (fun m z E Xc hE hX hrec hx => leaf_of_ev (B := lsure_B) (loops := []) (leaves := [lsure_l2_h (lsure_l2 N m), lsure_l2_e0, lsure_l2_e1]) (lsure_all N) mixed trivial hE hX ⟨hrec, (fun p hp => by obtain rfl := Option.some.inj hp; exact hx), (fun p hp => by obtain rfl := Option.some.inj hp; exact hx), trivial⟩ RetOK.no (fun p => lsure_l2_eq N m p.1.2.1 p.1.2.2.1 p.1.2.2.2.1 p.1.2.2.2.2.1 p.1.2.2.2.2.2.1 p.1.2.2.2.2.2.2.1 p.1.2.2.2.2.2.2.2.1 p.1.2.2.2.2.2.2.2.2.1 p.2.1.1 p.2.1.2.1 p.2.1.2.2.1))
abbrev lsure_l1_at : List PI := [.c [1, 1, 0, 1, 0, 0, 0], .c [1, 1, 0, 1, 0, 0, 1], .l [1, 1, 0, 1, 0, 0], .b 0, .c [1, 1, 1]]
abbrev lsure_l1_st : Sta := ⟨[2, 5, 13, 14, 15], ⟨[.own 0 0, .sl (.int .i64), .sl (.int .i64), .i .i64, .i .i64], [.segs [.sl (.pair (.int .i64) (.pair (.int .i64) .bool)), .sl (.pair (.int .i64) (.pair (.int .i64) (.int .i64))), .i .i64]]⟩⟩
abbrev lsure_l1_h (rec : (List Int) → (List Int) → Int → Int → (List (Int × (Int × Bool))) → (List (Int × (Int × Int))) → Int → Option ((Unit) ⊕ (List Int))) : Leaf ((Unit) ⊕ (List Int)) := ⟨lsure_l1_at, lsure_l1_st, fun p => rec p.1.2.1 p.1.2.2.1 p.1.2.2.2.1 p.1.2.2.2.2.1 p.2.1.1 p.2.1.2.1 p.2.1.2.2.1⟩
abbrev lsure_l1_e0 : Leaf ((Unit) ⊕ (List Int)) := ⟨[.c [1, 1, 0, 1, 0, 0, 1, 1, 0, 0, 1, 1, 0, 0, 1, 1, 0, 0, 1, 1, 0, 0], .c [1, 1, 0, 1, 0, 0, 1, 1, 0, 0, 1, 1, 0, 0, 1, 1, 0, 0, 1, 1, 0, 1], .b 3, .c [1, 1, 0, 1, 0, 0, 1, 1, 0, 0, 1, 1, 0, 0, 1, 1, 1], .l [1, 1, 0, 1, 0, 0, 1, 1, 0, 0, 1, 1, 0, 0], .b 2, .b 1, .c [1, 1, 0, 1, 0, 0, 1, 1, 1], .l [1, 1, 0, 1, 0, 0], .b 0, .c [1, 1, 1]], ⟨[], ⟨[], []⟩⟩, fun p => some (.inl ())⟩
abbrev lsure_l1_e1 : Leaf ((Unit) ⊕ (List Int)) := ⟨[.c [1, 1, 1, 0], .c [1, 1, 1, 1]], ⟨[5], ⟨[.sl (.int .i64)], []⟩⟩, fun p => some (.inr p.1.1)⟩
noncomputable def lsure_l1_L (N : Nat) : LoopS := { at_ := lsure_l1_at, sta := lsure_l1_st, exits := [([.c [1, 1, 0, 1, 0, 0, 1, 1, 0, 0, 1, 1, 0, 0, 1, 1, 0, 0, 1, 1, 0, 0], .c [1, 1, 0, 1, 0, 0, 1, 1, 0, 0, 1, 1, 0, 0, 1, 1, 0, 0, 1, 1, 0, 1], .b 3, .c [1, 1, 0, 1, 0, 0, 1, 1, 0, 0, 1, 1, 0, 0, 1, 1, 1], .l [1, 1, 0, 1, 0, 0, 1, 1, 0, 0, 1, 1, 0, 0], .b 2, .b 1, .c [1, 1, 0, 1, 0, 0, 1, 1, 1], .l [1, 1, 0, 1, 0, 0], .b 0, .c [1, 1, 1]], ⟨[], ⟨[], []⟩⟩), ([.c [1, 1, 1, 0], .c [1, 1, 1, 1]], ⟨[5], ⟨[.sl (.int .i64)], []⟩⟩)], run := fun p k => (lsure_l1 N N p.1.2.1 p.1.2.2.1 p.1.2.2.2.1 p.1.2.2.2.2.1 p.2.1.1 p.2.1.2.1 p.2.1.2.2.1).bind fun e => match e with | .inl x => k (.inl ((), ())) | .inr x => k (.inr (.inl ((x, ()), ()))) }
theorem lsure_l1_eq (N n_ : Nat) (p : List Int) (u : List Int) (u2 : Int) (u3 : Int) (t : List (Int × (Int × Bool))) (t2 : List (Int × (Int × Int))) (t3 : Int) : ev (Z := (Unit) ⊕ (List Int)) Try.prog (lsure_sp N) lsure_B [lsure_l2_L N] [lsure_l1_h (lsure_l1 N n_), lsure_l1_e0, lsure_l1_e1] none 400 true lsure_l1_at (stL lsure_l1_st (((), p, u, u2, u3, ()), ((t, t2, t3, ()), ()))) (stH lsure_l1_st (((), p, u, u2, u3, ()), ((t, t2, t3, ()), ()))) = lsure_l1 N (n_ + 1) p u u2 u3 t t2 t3 := by kernel_rfl
theorem lsure_l1_ok (N : Nat) {top : Bool} : LoopOK Try.prog lsure_B.c lsure_B.n lsure_B.m0 top (lsure_l1_L N) := loop_of_ev (Z := (Unit) ⊕ (List Int)) (N := N) (fun m p => lsure_l1 N m p.1.2.1 p.1.2.2.1 p.1.2.2.2.1 p.1.2.2.2.2.1 p.2.1.1 p.2.1.2.1 p.2.1.2.2.1) (fun e => match e with | .inl x => .inl ((), ()) | .inr x => .inr (.inl ((x, ()), ()))) (fun _ p k => bind_congr_ (lsure_l1 N N p.1.2.1 p.1.2.2.1 p.1.2.2.2.1 p.1.2.2.2.2.1 p.2.1.1 p.2.1.2.1 p.2.1.2.2.1) _ _ (fun e => by rcases e with x | x <;> rfl)) (fun _ => rfl) (fun m z E Xc hE hX hrec hx => leaf_of_ev (B := lsure_B) (loops := [lsure_l2_L N]) (leaves := [lsure_l1_h (lsure_l1 N m), lsure_l1_e0, lsure_l1_e1]) (lsure_all N) mixed ⟨lsure_l2_ok N, trivial⟩ hE hX ⟨hrec, (fun p hp => by obtain rfl := Option.some.inj hp; exact hx), (fun p hp => by obtain rfl := Option.some.inj hp; exact hx), trivial⟩ RetOK.no (fun p => lsure_l1_eq N m p.1.2.1 p.1.2.2.1 p.1.2.2.2.1 p.1.2.2.2.2.1 p.2.1.1 p.2.1.2.1 p.2.1.2.2.1))
abbrev lsure_st : Sta := ⟨[0, 1], ⟨[.agg [.sl (.pair (.int .i64) (.pair (.int .i64) .bool)), .sl (.pair (.int .i64) (.pair (.int .i64) (.int .i64))), .i .i64], .sl (.int .i64)], []⟩⟩
theorem lsure_eq (N : Nat) (t : List (Int × (Int × Bool))) (t2 : List (Int × (Int × Int))) (t3 : Int) (l : List Int) : ev (Z := Bool) Try.prog (lsure_sp N) lsure_B [lsure_l2_L N, lsure_l1_L N] [] (some lsure_rt) 400 false [.c [0], .c [1]] (stL lsure_st (((t, t2, t3, ()), l, ()), ())) (stH lsure_st (((t, t2, t3, ()), l, ()), ())) = lsure_S N t t2 t3 l := by kernel_rfl
noncomputable def sp_lsure (N : Nat) : Spec := { f := 48, ins := ⟨[.agg [.sl (.pair (.int .i64) (.pair (.int .i64) .bool)), .sl (.pair (.int .i64) (.pair (.int .i64) (.int .i64))), .i .i64], .sl (.int .i64)], []⟩, outs := [⟨[.b], []⟩], run := fun p k => (lsure_S N p.1.1.1 p.1.1.2.1 p.1.1.2.2.1 p.1.2.1).bind fun r => k ((r, ()), ()) }
theorem sp_lsure_ok (N : Nat) : SpecOK Try.prog (sp_lsure N) := fn_sound (B := lsure_B) (loops := [lsure_l2_L N, lsure_l1_L N]) (leaves := []) (fun p => lsure_S N p.1.1.1 p.1.1.2.1 p.1.1.2.2.1 p.1.2.1) (fun r => ((r, ()), ())) lsure_rt (fun _ _ _ => rfl) (fun r z h => by cases h; rfl) Try.func48 (by kernel_rfl) (by kernel_rfl) (by kernel_rfl) rfl rfl (by kernel_rfl) (fun args w => Sem.pv_run _ _ _ (by kernel_rfl) w) (lsure_all N) mixed ⟨lsure_l2_ok N, lsure_l1_ok N, trivial⟩ (fun z E Xc hE hX hret => trivial) (fun p => lsure_eq N p.1.1.1 p.1.1.2.1 p.1.1.2.2.1 p.1.2.1)

def tsure1_S (N : Nat) (at_ : Int) (u : (Int × (Int × Int))) : Option Bool :=
  br (decide (u.1 < at_))
    (br (decide (at_ ≤ u.2.1))
      (some true)
      (br (decide (u.2.2 < at_))
        (some (decide (at_ ≤ u.1)))
        (some false)))
    (br (decide (u.2.2 < at_))
      (some (decide (at_ ≤ u.1)))
      (some false))
noncomputable def tsure1_sp (N : Nat) : List Spec := []
theorem tsure1_all (N : Nat) : AllP (SpecOK Try.prog) (tsure1_sp N) := trivial
noncomputable def tsure1_c : Code := (Try.f47.body).getD .skip
noncomputable abbrev tsure1_B : Body := { c := tsure1_c, n := 28, res := [.tmp 3], outs := [⟨[.b], []⟩], m0 := 0 }
abbrev tsure1_rt : altD tsure1_B.outs → Option Bool := fun r => some r.1.1
abbrev tsure1_st : Sta := ⟨[0, 1], ⟨[.i .i64, .fe (.pair (.int .i64) (.pair (.int .i64) (.int .i64)))], []⟩⟩
theorem tsure1_eq (N : Nat) (at_ : Int) (u : (Int × (Int × Int))) : ev (Z := Bool) Try.prog (tsure1_sp N) tsure1_B [] [] (some tsure1_rt) 400 false [.c [0], .c [1]] (stL tsure1_st ((at_, u, ()), ())) (stH tsure1_st ((at_, u, ()), ())) = tsure1_S N at_ u := by kernel_rfl
noncomputable def sp_tsure1 (N : Nat) : Spec := { f := 47, ins := ⟨[.i .i64, .fe (.pair (.int .i64) (.pair (.int .i64) (.int .i64)))], []⟩, outs := [⟨[.b], []⟩], run := fun p k => (tsure1_S N p.1.1 p.1.2.1).bind fun r => k ((r, ()), ()) }
theorem sp_tsure1_ok (N : Nat) : SpecOK Try.prog (sp_tsure1 N) := fn_sound (B := tsure1_B) (loops := []) (leaves := []) (fun p => tsure1_S N p.1.1 p.1.2.1) (fun r => ((r, ()), ())) tsure1_rt (fun _ _ _ => rfl) (fun r z h => by cases h; rfl) Try.func47 (by kernel_rfl) (by kernel_rfl) (by kernel_rfl) rfl rfl (by kernel_rfl) (fun args w => Sem.pv_run _ _ _ (by kernel_rfl) w) (tsure1_all N) mixed trivial (fun z E Xc hE hX hret => trivial) (fun p => tsure1_eq N p.1.1 p.1.2.1)

def ixfts_l1 (N : Nat) : Nat → (List Int) → ((Int × (Int × Int))) → Int → Int → Option ((Int) ⊕ (Unit))
  | 0, _, _, _, _ => none
  | n_ + 1, s, f, u, u2 =>
    br (decide (u2 < u))
      (idx s u2 fun x_1 =>
      (tsure1_S N x_1 f).bind fun x_2 =>
      br x_2
        (some (.inl u2))
        (chk (u2 + 1) <|
        ixfts_l1 N n_ s f u (u2 + 1)))
      (some (.inr ()))
def ixfts_S (N : Nat) (s : List Int) (f : (Int × (Int × Int))) : Option Int :=
  (ixfts_l1 N N s f (s.length : Int) 0).bind fun e => match e with
  | .inl i_3 =>
    some i_3
  | .inr _ =>
    some (-1)
noncomputable def ixfts_sp (N : Nat) : List Spec := [sp_tsure1 N]
theorem ixfts_all (N : Nat) : AllP (SpecOK Try.prog) (ixfts_sp N) := ⟨sp_tsure1_ok N, trivial⟩
noncomputable def ixfts_c : Code := (Try.f113.body).getD .skip
noncomputable abbrev ixfts_B : Body := { c := ixfts_c, n := 19, res := [.tmp 4], outs := [⟨[.i .i64], []⟩], m0 := 0 }
abbrev ixfts_rt : altD ixfts_B.outs → Option Int := fun r => some r.1.1
abbrev ixfts_l1_at : List PI := [.c [1, 0, 1, 0, 0, 0], .c [1, 0, 1, 0, 0, 1], .l [1, 0, 1, 0, 0], .b 0, .c [1, 1]]
abbrev ixfts_l1_st : Sta := ⟨[0, 1, 7, 8], ⟨[.sl (.int .i64), .fn 47 [] [.fe (.pair (.int .i64) (.pair (.int .i64) (.int .i64)))], .i .i64, .i .i64], []⟩⟩
abbrev ixfts_l1_h (rec : (List Int) → ((Int × (Int × Int))) → Int → Int → Option ((Int) ⊕ (Unit))) : Leaf ((Int) ⊕ (Unit)) := ⟨ixfts_l1_at, ixfts_l1_st, fun p => rec p.1.1 p.1.2.1.2.1 p.1.2.2.1 p.1.2.2.2.1⟩
abbrev ixfts_l1_e0 : Leaf ((Int) ⊕ (Unit)) := ⟨[.c [1, 0, 1, 0, 0, 1, 1, 0, 0, 1, 1, 0, 0], .c [1, 0, 1, 0, 0, 1, 1, 0, 0, 1, 1, 0, 1], .b 1, .c [1, 0, 1, 0, 0, 1, 1, 1], .l [1, 0, 1, 0, 0], .b 0, .c [1, 1]], ⟨[5], ⟨[.i .i64], []⟩⟩, fun p => some (.inl p.1.1)⟩
abbrev ixfts_l1_e1 : Leaf ((Int) ⊕ (Unit)) := ⟨[.c [1, 1, 0], .c [1, 1, 1]], ⟨[], ⟨[], []⟩⟩, fun p => some (.inr ())⟩
noncomputable def ixfts_l1_L (N : Nat) : LoopS := { at_ := ixfts_l1_at, sta := ixfts_l1_st, exits := [([.c [1, 0, 1, 0, 0, 1, 1, 0, 0, 1, 1, 0, 0], .c [1, 0, 1, 0, 0, 1, 1, 0, 0, 1, 1, 0, 1], .b 1, .c [1, 0, 1, 0, 0, 1, 1, 1], .l [1, 0, 1, 0, 0], .b 0, .c [1, 1]], ⟨[5], ⟨[.i .i64], []⟩⟩), ([.c [1, 1, 0], .c [1, 1, 1]], ⟨[], ⟨[], []⟩⟩)], run := fun p k => (ixfts_l1 N N p.1.1 p.1.2.1.2.1 p.1.2.2.1 p.1.2.2.2.1).bind fun e => match e with | .inl x => k (.inl ((x, ()), ())) | .inr x => k (.inr (.inl ((), ()))) }
theorem ixfts_l1_eq (N n_ : Nat) (s : List Int) (f : (Int × (Int × Int))) (u : Int) (u2 : Int) : ev (Z := (Int) ⊕ (Unit)) Try.prog (ixfts_sp N) ixfts_B [] [ixfts_l1_h (ixfts_l1 N n_), ixfts_l1_e0, ixfts_l1_e1] none 400 true ixfts_l1_at (stL ixfts_l1_st ((s, ((), (f, ())), u, u2, ()), ())) (stH ixfts_l1_st ((s, ((), (f, ())), u, u2, ()), ())) = ixfts_l1 N (n_ + 1) s f u u2 := by kernel_rfl
theorem ixfts_l1_ok (N : Nat) {top : Bool} : LoopOK Try.prog ixfts_B.c ixfts_B.n ixfts_B.m0 top (ixfts_l1_L N) := loop_of_ev (Z := (Int) ⊕ (Unit)) (N := N) (fun m p => ixfts_l1 N m p.1.1 p.1.2.1.2.1 p.1.2.2.1 p.1.2.2.2.1) (fun e => match e with | .inl x => .inl ((x, ()), ()) | .inr x => .inr (.inl ((), ()))) (fun _ p k => bind_congr_ (ixfts_l1 N N p.1.1 p.1.2.1.2.1 p.1.2.2.1 p.1.2.2.2.1) _ _ (fun e => by rcases e with x | x <;> rfl)) (fun _ => rfl) (fun m z E Xc hE hX hrec hx => leaf_of_ev (B := ixfts_B) (loops := []) (leaves := [ixfts_l1_h (ixfts_l1 N m), ixfts_l1_e0, ixfts_l1_e1]) (ixfts_all N) mixed trivial hE hX ⟨hrec, (fun p hp => by obtain rfl := Option.some.inj hp; exact hx), (fun p hp => by obtain rfl := Option.some.inj hp; exact hx), trivial⟩ RetOK.no (fun p => ixfts_l1_eq N m p.1.1 p.1.2.1.2.1 p.1.2.2.1 p.1.2.2.2.1))
abbrev ixfts_st : Sta := ⟨[0, 1], ⟨[.sl (.int .i64), .fn 47 [] [.fe (.pair (.int .i64) (.pair (.int .i64) (.int .i64)))]], []⟩⟩
theorem ixfts_eq (N : Nat) (s : List Int) (f : (Int × (Int × Int))) : ev (Z := Int) Try.prog (ixfts_sp N) ixfts_B [ixfts_l1_L N] [] (some ixfts_rt) 400 false [.c [0], .c [1]] (stL ixfts_st ((s, ((), (f, ())), ()), ())) (stH ixfts_st ((s, ((), (f, ())), ()), ())) = ixfts_S N s f := by kernel_rfl
noncomputable def sp_ixfts (N : Nat) : Spec := { f := 113, ins := ⟨[.sl (.int .i64), .fn 47 [] [.fe (.pair (.int .i64) (.pair (.int .i64) (.int .i64)))]], []⟩, outs := [⟨[.i .i64], []⟩], run := fun p k => (ixfts_S N p.1.1 p.1.2.1.2.1).bind fun r => k ((r, ()), ()) }
theorem sp_ixfts_ok (N : Nat) : SpecOK Try.prog (sp_ixfts N) := fn_sound (B := ixfts_B) (loops := [ixfts_l1_L N]) (leaves := []) (fun p => ixfts_S N p.1.1 p.1.2.1.2.1) (fun r => ((r, ()), ())) ixfts_rt (fun _ _ _ => rfl) (fun r z h => by cases h; rfl) Try.func113 (by kernel_rfl) (by kernel_rfl) (by kernel_rfl) rfl rfl (by kernel_rfl) (fun args w => Sem.pv_run _ _ _ (by kernel_rfl) w) (ixfts_all N) mixed ⟨ixfts_l1_ok N, trivial⟩ (fun z E Xc hE hX hret => trivial) (fun p => ixfts_eq N p.1.1 p.1.2.1.2.1)

def cofts_S (N : Nat) (s : List Int) (f : (Int × (Int × Int))) : Option Bool :=
  (ixfts_S N s f).bind fun x_1 =>
  some (decide (0 ≤ x_1))
noncomputable def cofts_sp (N : Nat) : List Spec := [sp_ixfts N]
theorem cofts_all (N : Nat) : AllP (SpecOK Try.prog) (cofts_sp N) := ⟨sp_ixfts_ok N, trivial⟩
noncomputable def cofts_c : Code := (Try.f46.body).getD .skip
noncomputable abbrev cofts_B : Body := { c := cofts_c, n := 9, res := [.tmp 4], outs := [⟨[.b], []⟩], m0 := 0 }
abbrev cofts_rt : altD cofts_B.outs → Option Bool := fun r => some r.1.1
abbrev cofts_st : Sta := ⟨[0, 1], ⟨[.sl (.int .i64), .fn 47 [] [.fe (.pair (.int .i64) (.pair (.int .i64) (.int .i64)))]], []⟩⟩
theorem cofts_eq (N : Nat) (s : List Int) (f : (Int × (Int × Int))) : ev (Z := Bool) Try.prog (cofts_sp N) cofts_B [] [] (some cofts_rt) 400 false [.c [0], .c [1]] (stL cofts_st ((s, ((), (f, ())), ()), ())) (stH cofts_st ((s, ((), (f, ())), ()), ())) = cofts_S N s f := by kernel_rfl
noncomputable def sp_cofts (N : Nat) : Spec := { f := 46, ins := ⟨[.sl (.int .i64), .fn 47 [] [.fe (.pair (.int .i64) (.pair (.int .i64) (.int .i64)))]], []⟩, outs := [⟨[.b], []⟩], run := fun p k => (cofts_S N p.1.1 p.1.2.1.2.1).bind fun r => k ((r, ()), ()) }
theorem sp_cofts_ok (N : Nat) : SpecOK Try.prog (sp_cofts N) := fn_sound (B := cofts_B) (loops := []) (leaves := []) (fun p => cofts_S N p.1.1 p.1.2.1.2.1) (fun r => ((r, ()), ())) cofts_rt (fun _ _ _ => rfl) (fun r z h => by cases h; rfl) Try.func46 (by kernel_rfl) (by kernel_rfl) (by kernel_rfl) rfl rfl (by kernel_rfl) (fun args w => Sem.pv_run _ _ _ (by kernel_rfl) w) (cofts_all N) mixed trivial (fun z E Xc hE hX hret => trivial) (fun p => cofts_eq N p.1.1 p.1.2.1.2.1)

def tsure_j2 (N : Nat) (rec : (List Int) → Int → (List (Int × (Int × Bool))) → (List (Int × (Int × Int))) → Int → (List Int) → Int → Int → Option ((Unit) ⊕ ((Unit) ⊕ ((Unit) ⊕ ((Unit) ⊕ (Unit)))))) (first : List Int) (u : Int) (t : List (Int × (Int × Bool))) (t2 : List (Int × (Int × Int))) (t3 : Int) (q : List Int) (q2 : Int) (q3 : Int) : Option ((Unit) ⊕ ((Unit) ⊕ ((Unit) ⊕ ((Unit) ⊕ (Unit))))) :=
  chk (u + 1) <|
  rec first (u + 1) t t2 t3 q q2 q3
def tsure_j3 (N : Nat) (rec : (List Int) → (List Int) → Int → Int → (List Int) → Int → Int → (List (Int × (Int × Int))) → Int → Int → (List (Int × (Int × Bool))) → (List (Int × (Int × Int))) → Int → (List Int) → Int → Int → Int → Int → Option (List Int × List Int × Int × Int × List Int × Int × Int × (List (Int × (Int × Bool))) × (List (Int × (Int × Int))) × Int × List Int × Int × Int × Int × Int)) (first : List Int) (l : List Int) (turn : Int) (e : Int) (p : List Int) (apart : Int) (u : Int) (u2 : List (Int × (Int × Int))) (u3 : Int) (u4 : Int) (t : List (Int × (Int × Bool))) (t2 : List (Int × (Int × Int))) (t3 : Int) (q : List Int) (q2 : Int) (q3 : Int) (run : Int) (run2 : Int) : Option (List Int × List Int × Int × Int × List Int × Int × Int × (List (Int × (Int × Bool))) × (List (Int × (Int × Int))) × Int × List Int × Int × Int × Int × Int) :=
  chk (u4 + 1) <|
  rec first l turn e p apart u u2 u3 (u4 + 1) t t2 t3 q q2 q3 run run2
def tsure_l2 (N : Nat) : Nat → (List Int) → (List Int) → Int → Int → (List Int) → Int → Int → (List (Int × (Int × Int))) → Int → Int → (List (Int × (Int × Bool))) → (List (Int × (Int × Int))) → Int → (List Int) → Int → Int → Int → Int → Option (List Int × List Int × Int × Int × List Int × Int × Int × (List (Int × (Int × Bool))) × (List (Int × (Int × Int))) × Int × List Int × Int × Int × Int × Int)
  | 0, _, _, _, _, _, _, _, _, _, _, _, _, _, _, _, _, _, _ => none
  | n_ + 1, first, l, turn, e, p, apart, u, u2, u3, u4, t, t2, t3, q, q2, q3, run, run2 =>
    br (decide (u4 < u3))
      (idx u2 u4 fun x_25 =>
      br (decide (apart < 0))
        (chk ((p.length : Int) - 1) <|
        grd (decide ((0 : Int) ≤ 1 ∧ (1 : Int) ≤ ((p.length : Int) - 1) ∧ ((p.length : Int) - 1) ≤ (p.length : Int))) <|
        (cofts_S N ((p.take (((p.length : Int) - 1).toNat)).drop 1) (x_25.1, x_25.2.1, x_25.2.2)).bind fun x_26 =>
        br x_26
          (tsure_j3 N (tsure_l2 N n_) first l turn e p u4 u u2 u3 u4 t t2 t3 q q2 q3 run run2)
          (tsure_j3 N (tsure_l2 N n_) first l turn e p apart u u2 u3 u4 t t2 t3 q q2 q3 run run2))
        (tsure_j3 N (tsure_l2 N n_) first l turn e p apart u u2 u3 u4 t t2 t3 q q2 q3 run run2))
      (some ((first, l, turn, e, p, apart, u, t, t2, t3, q, q2, q3, run, run2)))
def tsure_j1 (N : Nat) (rec : (List Int) → Int → (List (Int × (Int × Bool))) → (List (Int × (Int × Int))) → Int → (List Int) → Int → Int → Option ((Unit) ⊕ ((Unit) ⊕ ((Unit) ⊕ ((Unit) ⊕ (Unit)))))) (first : List Int) (l : List Int) (u : Int) (t : List (Int × (Int × Bool))) (t2 : List (Int × (Int × Int))) (t3 : Int) (q : List Int) (q2 : Int) (q3 : Int) : Option ((Unit) ⊕ ((Unit) ⊕ ((Unit) ⊕ ((Unit) ⊕ (Unit))))) :=
  (astray_S N t t2 t3 l).bind fun (x_19, y_20, y_21, y_22) =>
  (sound_S N t t2 t3 l).bind fun x_23 =>
  br (!x_23)
    (br (!decide (y_22 = 8))
      (br (decide (0 < (l.length : Int)))
        (some (.inl ()))
        (tsure_j2 N (rec) first u t t2 t3 q q2 q3))
      (tsure_j2 N (rec) first u t t2 t3 q q2 q3))
    ((places_S N t t2 t3 l).bind fun x_24 =>
    (tsure_l2 N N first l x_19 y_22 x_24 (-1) u t2 (t2.length : Int) 0 t t2 t3 q q2 q3 y_20 y_21).bind fun (first_27, l_28, turn_29, e_30, p_31, apart_32, u_33, t_34, t2_35, t3_36, q_37, q2_38, q3_39, run_40, run2_41) =>
    br (!((decide (e_30 = 6)) == (decide (apart_32 < 0))))
      (some (.inr (.inl ())))
      (br (!((decide (e_30 = 0)) == (decide (0 ≤ apart_32))))
        (some (.inr (.inl ())))
        ((lsure_S N t_34 t2_35 t3_36 l_28).bind fun x_42 =>
        br (!(x_42 == (decide (apart_32 < 0))))
          (some (.inr (.inl ())))
          (br (!decide (e_30 = 0))
            (tsure_j2 N (rec) first_27 u_33 t_34 t2_35 t3_36 q_37 q2_38 q3_39)
            (br (!decide (turn_29 = apart_32))
              (some (.inr (.inr (.inl ()))))
              (br (decide (run_40 < 0))
                (some (.inr (.inr (.inl ()))))
                (br (decide (run2_41 < run_40))
                  (some (.inr (.inr (.inl ()))))
                  (br (decide ((l_28.length : Int) ≤ run2_41))
                    (some (.inr (.inr (.inl ()))))
                    (idx p_31 run_40 fun x_43 =>
                    chk (run2_41 + 1) <|
                    idx p_31 (run2_41 + 1) fun x_44 =>
                    chk (x_44 - 1) <|
                    (says__S N t_34 t2_35 t3_36 x_43 (x_44 - 1)).bind fun (x_45, y_46) =>
                    br (!decide (y_46 = 0))
                      (some (.inr (.inr (.inr (.inl ())))))
                      ((containsi_S N x_45 turn_29).bind fun x_47 =>
                      br (!x_47)
                        (some (.inr (.inr (.inr (.inl ())))))
                        (tsure_j2 N (rec) first_27 u_33 t_34 t2_35 t3_36 q_37 q2_38 q3_39)))))))))))
def tsure_l1 (N : Nat) : Nat → (List Int) → Int → (List (Int × (Int × Bool))) → (List (Int × (Int × Int))) → Int → (List Int) → Int → Int → Option ((Unit) ⊕ ((Unit) ⊕ ((Unit) ⊕ ((Unit) ⊕ (Unit)))))
  | 0, _, _, _, _, _, _, _, _ => none
  | n_ + 1, first, u, t, t2, t3, q, q2, q3 =>
    br (decide (u < 10))
      (br (decide (0 < u))
        ((tried_S N t t2 t3 q q2 q3).bind fun (x_15, y_16, y_17, y_18) =>
        tsure_j1 N (tsure_l1 N n_) first x_15 u t t2 t3 y_16 y_17 y_18)
        (tsure_j1 N (tsure_l1 N n_) first first u t t2 t3 q q2 q3))
      (some (.inr (.inr (.inr (.inr ())))))
def tsure_S (N : Nat) (numbers : List Int) (tries : List Int) : Option Bool :=
  (hang_S N numbers).bind fun (x_1, y_2, y_3) =>
  (made_S N 9 3 x_1 y_2 y_3).bind fun (x_4, y_5, y_6, y_7, y_8, y_9) =>
  (hang_S N tries).bind fun (x_10, y_11, y_12) =>
  (fewest_S N x_4 y_5 y_6).bind fun (x_13, y_14) =>
  (tsure_l1 N N x_13 0 x_4 y_5 y_6 x_10 y_11 y_12).bind fun e => match e with
  | .inl _ =>
    some false
  | .inr (.inl _) =>
    some false
  | .inr (.inr (.inl _)) =>
    some false
  | .inr (.inr (.inr (.inl _))) =>
    some false
  | .inr (.inr (.inr (.inr _))) =>
    (awake_S N).bind fun x_48 =>
    some x_48
noncomputable def tsure_sp (N : Nat) : List Spec := [sp_hang N, sp_says_ N, sp_containsi N, sp_astray N, sp_fewest N, sp_awake N, sp_made N, sp_tried N, sp_places N, sp_sound N, sp_lsure N, sp_cofts N]
theorem tsure_all (N : Nat) : AllP (SpecOK Try.prog) (tsure_sp N) := ⟨sp_hang_ok N, sp_says__ok N, sp_containsi_ok N, sp_astray_ok N, sp_fewest_ok N, sp_awake_ok N, sp_made_ok N, sp_tried_ok N, sp_places_ok N, sp_sound_ok N, sp_lsure_ok N, sp_cofts_ok N, trivial⟩
noncomputable def tsure_c : Code := (Try.f7.body).getD .skip
noncomputable abbrev tsure_B : Body := { c := tsure_c, n := 153, res := [.tmp 4], outs := [⟨[.b], []⟩], m0 := 0 }
abbrev tsure_rt : altD tsure_B.outs → Option Bool := fun r => some r.1.1
abbrev tsure_l1_at : List PI := [.c [1, 1, 1, 1, 0, 1, 0, 0, 0], .c [1, 1, 1, 1, 0, 1, 0, 0, 1], .l [1, 1, 1, 1, 0, 1, 0, 0], .b 0, .c [1, 1, 1, 1, 1]]
abbrev tsure_l1_st : Sta := ⟨[5, 6, 7, 30], ⟨[.own 0 0, .own 1 0, .sl (.int .i64), .i .i64], [.segs [.sl (.pair (.int .i64) (.pair (.int .i64) .bool)), .sl (.pair (.int .i64) (.pair (.int .i64) (.int .i64))), .i .i64], .segs [.sl (.int .u8), .i .i64, .i .u32]]⟩⟩
abbrev tsure_l1_h (rec : (List Int) → Int → (List (Int × (Int × Bool))) → (List (Int × (Int × Int))) → Int → (List Int) → Int → Int → Option ((Unit) ⊕ ((Unit) ⊕ ((Unit) ⊕ ((Unit) ⊕ (Unit)))))) : Leaf ((Unit) ⊕ ((Unit) ⊕ ((Unit) ⊕ ((Unit) ⊕ (Unit))))) := ⟨tsure_l1_at, tsure_l1_st, fun p => rec p.1.2.2.1 p.1.2.2.2.1 p.2.1.1 p.2.1.2.1 p.2.1.2.2.1 p.2.2.1.1 p.2.2.1.2.1 p.2.2.1.2.2.1⟩
abbrev tsure_l1_e0 : Leaf ((Unit) ⊕ ((Unit) ⊕ ((Unit) ⊕ ((Unit) ⊕ (Unit))))) := ⟨[.c [1, 1, 1, 1, 0, 1, 0, 0, 1, 1, 0, 0, 1, 1, 1, 1, 0, 1, 0, 0, 1, 0, 0], .c [1, 1, 1, 1, 0, 1, 0, 0, 1, 1, 0, 0, 1, 1, 1, 1, 0, 1, 0, 0, 1, 0, 1], .c [1, 1, 1, 1, 0, 1, 0, 0, 1, 1, 0, 0, 1, 1, 1, 1, 0, 1, 0, 1], .c [1, 1, 1, 1, 0, 1, 0, 0, 1, 1, 0, 0, 1, 1, 1, 1, 1], .b 1, .c [1, 1, 1, 1, 0, 1, 0, 0, 1, 1, 1], .l [1, 1, 1, 1, 0, 1, 0, 0], .b 0, .c [1, 1, 1, 1, 1]], ⟨[], ⟨[], []⟩⟩, fun p => some (.inl ())⟩
abbrev tsure_l1_e1 : Leaf ((Unit) ⊕ ((Unit) ⊕ ((Unit) ⊕ ((Unit) ⊕ (Unit))))) := ⟨[.c [1, 1, 1, 1, 0, 1, 0, 0, 1, 1, 0, 0, 1, 1, 1, 1, 1, 1, 1, 1, 0, 1, 0, 0], .c [1, 1, 1, 1, 0, 1, 0, 0, 1, 1, 0, 0, 1, 1, 1, 1, 1, 1, 1, 1, 0, 1, 0, 1], .c [1, 1, 1, 1, 0, 1, 0, 0, 1, 1, 0, 0, 1, 1, 1, 1, 1, 1, 1, 1, 1], .b 1, .c [1, 1, 1, 1, 0, 1, 0, 0, 1, 1, 1], .l [1, 1, 1, 1, 0, 1, 0, 0], .b 0, .c [1, 1, 1, 1, 1]], ⟨[], ⟨[], []⟩⟩, fun p => some (.inr (.inl ()))⟩
abbrev tsure_l1_e2 : Leaf ((Unit) ⊕ ((Unit) ⊕ ((Unit) ⊕ ((Unit) ⊕ (Unit))))) := ⟨[.c [1, 1, 1, 1, 0, 1, 0, 0, 1, 1, 0, 0, 1, 1, 1, 1, 1, 1, 1, 1, 1, 1, 0, 1, 0, 0], .c [1, 1, 1, 1, 0, 1, 0, 0, 1, 1, 0, 0, 1, 1, 1, 1, 1, 1, 1, 1, 1, 1, 0, 1, 0, 1], .c [1, 1, 1, 1, 0, 1, 0, 0, 1, 1, 0, 0, 1, 1, 1, 1, 1, 1, 1, 1, 1, 1, 1], .b 1, .c [1, 1, 1, 1, 0, 1, 0, 0, 1, 1, 1], .l [1, 1, 1, 1, 0, 1, 0, 0], .b 0, .c [1, 1, 1, 1, 1]], ⟨[], ⟨[], []⟩⟩, fun p => some (.inr (.inr (.inl ())))⟩
abbrev tsure_l1_e3 : Leaf ((Unit) ⊕ ((Unit) ⊕ ((Unit) ⊕ ((Unit) ⊕ (Unit))))) := ⟨[.c [1, 1, 1, 1, 0, 1, 0, 0, 1, 1, 0, 0, 1, 1, 1, 1, 1, 1, 1, 1, 1, 1, 1, 1, 1, 0, 0], .c [1, 1, 1, 1, 0, 1, 0, 0, 1, 1, 0, 0, 1, 1, 1, 1, 1, 1, 1, 1, 1, 1, 1, 1, 1, 0, 1], .b 1, .c [1, 1, 1, 1, 0, 1, 0, 0, 1, 1, 1], .l [1, 1, 1, 1, 0, 1, 0, 0], .b 0, .c [1, 1, 1, 1, 1]], ⟨[], ⟨[], []⟩⟩, fun p => some (.inr (.inr (.inr (.inl ()))))⟩
abbrev tsure_l1_e4 : Leaf ((Unit) ⊕ ((Unit) ⊕ ((Unit) ⊕ ((Unit) ⊕ (Unit))))) := ⟨[.c [1, 1, 1, 1, 1, 0], .c [1, 1, 1, 1, 1, 1]], ⟨[], ⟨[], []⟩⟩, fun p => some (.inr (.inr (.inr (.inr ()))))⟩
abbrev tsure_j2_at : List PI := [.c [1, 1, 1, 1, 0, 1, 0, 0, 1, 1, 1], .l [1, 1, 1, 1, 0, 1, 0, 0], .b 0, .c [1, 1, 1, 1, 1]]
abbrev tsure_j2_st : Sta := ⟨[5, 6, 7, 30], ⟨[.own 0 0, .own 1 0, .sl (.int .i64), .i .i64], [.segs [.sl (.pair (.int .i64) (.pair (.int .i64) .bool)), .sl (.pair (.int .i64) (.pair (.int .i64) (.int .i64))), .i .i64], .segs [.sl (.int .u8), .i .i64, .i .u32]]⟩⟩
abbrev tsure_j2_k (N : Nat) (rec : (List Int) → Int → (List (Int × (Int × Bool))) → (List (Int × (Int × Int))) → Int → (List Int) → Int → Int → Option ((Unit) ⊕ ((Unit) ⊕ ((Unit) ⊕ ((Unit) ⊕ (Unit)))))) : Leaf ((Unit) ⊕ ((Unit) ⊕ ((Unit) ⊕ ((Unit) ⊕ (Unit))))) := ⟨tsure_j2_at, tsure_j2_st, fun p => tsure_j2 N rec p.1.2.2.1 p.1.2.2.2.1 p.2.1.1 p.2.1.2.1 p.2.1.2.2.1 p.2.2.1.1 p.2.2.1.2.1 p.2.2.1.2.2.1⟩
theorem tsure_j2_eq (N : Nat) (rec : (List Int) → Int → (List (Int × (Int × Bool))) → (List (Int × (Int × Int))) → Int → (List Int) → Int → Int → Option ((Unit) ⊕ ((Unit) ⊕ ((Unit) ⊕ ((Unit) ⊕ (Unit)))))) (first : List Int) (u : Int) (t : List (Int × (Int × Bool))) (t2 : List (Int × (Int × Int))) (t3 : Int) (q : List Int) (q2 : Int) (q3 : Int) : ev (Z := (Unit) ⊕ ((Unit) ⊕ ((Unit) ⊕ ((Unit) ⊕ (Unit))))) Try.prog (tsure_sp N) tsure_B [] [tsure_l1_h rec, tsure_l1_e0, tsure_l1_e1, tsure_l1_e2, tsure_l1_e3, tsure_l1_e4] none 400 true tsure_j2_at (stL tsure_j2_st (((), (), first, u, ()), ((t, t2, t3, ()), (q, q2, q3, ()), ()))) (stH tsure_j2_st (((), (), first, u, ()), ((t, t2, t3, ()), (q, q2, q3, ()), ()))) = tsure_j2 N rec first u t t2 t3 q q2 q3 := by kernel_rfl
theorem tsure_j2_lf (N : Nat) (rec : (List Int) → Int → (List (Int × (Int × Bool))) → (List (Int × (Int × Int))) → Int → (List Int) → Int → Int → Option ((Unit) ⊕ ((Unit) ⊕ ((Unit) ⊕ ((Unit) ⊕ (Unit)))))) {z : (Unit) ⊕ ((Unit) ⊕ ((Unit) ⊕ ((Unit) ⊕ (Unit))))} {top : Bool} {E : EE} {Xc : Ctx} (hE : EOK tsure_B.m0 E) (hX : CxOK top Xc) (hrec : LeafOK Try.prog tsure_B.c tsure_B.n tsure_B.m0 E Xc z (tsure_l1_h rec)) (h0 : LeafOK Try.prog tsure_B.c tsure_B.n tsure_B.m0 E Xc z tsure_l1_e0) (h1 : LeafOK Try.prog tsure_B.c tsure_B.n tsure_B.m0 E Xc z tsure_l1_e1) (h2 : LeafOK Try.prog tsure_B.c tsure_B.n tsure_B.m0 E Xc z tsure_l1_e2) (h3 : LeafOK Try.prog tsure_B.c tsure_B.n tsure_B.m0 E Xc z tsure_l1_e3) (h4 : LeafOK Try.prog tsure_B.c tsure_B.n tsure_B.m0 E Xc z tsure_l1_e4) : LeafOK Try.prog tsure_B.c tsure_B.n tsure_B.m0 E Xc z (tsure_j2_k N rec) := leaf_of_ev (B := tsure_B) (loops := []) (leaves := [tsure_l1_h rec, tsure_l1_e0, tsure_l1_e1, tsure_l1_e2, tsure_l1_e3, tsure_l1_e4]) (tsure_all N) mixed trivial hE hX ⟨hrec, h0, h1, h2, h3, h4, trivial⟩ RetOK.no (fun p => tsure_j2_eq N rec p.1.2.2.1 p.1.2.2.2.1 p.2.1.1 p.2.1.2.1 p.2.1.2.2.1 p.2.2.1.1 p.2.2.1.2.1 p.2.2.1.2.2.1)
abbrev tsure_l2_at : List PI := [.c [1, 1, 1, 1, 0, 1, 0, 0, 1, 1, 0, 0, 1, 1, 1, 1, 1, 1, 1, 0, 1, 0, 0, 0], .c [1, 1, 1, 1, 0, 1, 0, 0, 1, 1, 0, 0, 1, 1, 1, 1, 1, 1, 1, 0, 1, 0, 0, 1], .l [1, 1, 1, 1, 0, 1, 0, 0, 1, 1, 0, 0, 1, 1, 1, 1, 1, 1, 1, 0, 1, 0, 0], .b 2, .c [1, 1, 1, 1, 0, 1, 0, 0, 1, 1, 0, 0, 1, 1, 1, 1, 1, 1, 1, 1], .b 1, .c [1, 1, 1, 1, 0, 1, 0, 0, 1, 1, 1], .l [1, 1, 1, 1, 0, 1, 0, 0], .b 0, .c [1, 1, 1, 1, 1]]
abbrev tsure_l2_st : Sta := ⟨[5, 6, 7, 10, 11, 12, 13, 14, 15, 30, 61, 62, 63], ⟨[.own 0 0, .own 1 0, .sl (.int .i64), .sl (.int .i64), .i .i64, .own 2 0, .i .i64, .sl (.int .i64), .i .i64, .i .i64, .sl (.pair (.int .i64) (.pair (.int .i64) (.int .i64))), .i .i64, .i .i64], [.segs [.sl (.pair (.int .i64) (.pair (.int .i64) .bool)), .sl (.pair (.int .i64) (.pair (.int .i64) (.int .i64))), .i .i64], .segs [.sl (.int .u8), .i .i64, .i .u32], .segs [.i .i64, .i .i64]]⟩⟩
abbrev tsure_l2_h (rec : (List Int) → (List Int) → Int → Int → (List Int) → Int → Int → (List (Int × (Int × Int))) → Int → Int → (List (Int × (Int × Bool))) → (List (Int × (Int × Int))) → Int → (List Int) → Int → Int → Int → Int → Option (List Int × List Int × Int × Int × List Int × Int × Int × (List (Int × (Int × Bool))) × (List (Int × (Int × Int))) × Int × List Int × Int × Int × Int × Int)) : Leaf (List Int × List Int × Int × Int × List Int × Int × Int × (List (Int × (Int × Bool))) × (List (Int × (Int × Int))) × Int × List Int × Int × Int × Int × Int) := ⟨tsure_l2_at, tsure_l2_st, fun p => rec p.1.2.2.1 p.1.2.2.2.1 p.1.2.2.2.2.1 p.1.2.2.2.2.2.2.1 p.1.2.2.2.2.2.2.2.1 p.1.2.2.2.2.2.2.2.2.1 p.1.2.2.2.2.2.2.2.2.2.1 p.1.2.2.2.2.2.2.2.2.2.2.1 p.1.2.2.2.2.2.2.2.2.2.2.2.1 p.1.2.2.2.2.2.2.2.2.2.2.2.2.1 p.2.1.1 p.2.1.2.1 p.2.1.2.2.1 p.2.2.1.1 p.2.2.1.2.1 p.2.2.1.2.2.1 p.2.2.2.1.1 p.2.2.2.1.2.1⟩
abbrev tsure_l2_e0 : Leaf (List Int × List Int × Int × Int × List Int × Int × Int × (List (Int × (Int × Bool))) × (List (Int × (Int × Int))) × Int × List Int × Int × Int × Int × Int) := ⟨[.c [1, 1, 1, 1, 0, 1, 0, 0, 1, 1, 0, 0, 1, 1, 1, 1, 1, 1, 1, 1, 0, 0], .c [1, 1, 1, 1, 0, 1, 0, 0, 1, 1, 0, 0, 1, 1, 1, 1, 1, 1, 1, 1, 0, 1], .c [1, 1, 1, 1, 0, 1, 0, 0, 1, 1, 0, 0, 1, 1, 1, 1, 1, 1, 1, 1, 1], .b 1, .c [1, 1, 1, 1, 0, 1, 0, 0, 1, 1, 1], .l [1, 1, 1, 1, 0, 1, 0, 0], .b 0, .c [1, 1, 1, 1, 1]], ⟨[5, 6, 7, 10, 11, 12, 13, 14, 15, 30], ⟨[.own 0 0, .own 1 0, .sl (.int .i64), .sl (.int .i64), .i .i64, .own 2 0, .i .i64, .sl (.int .i64), .i .i64, .i .i64], [.segs [.sl (.pair (.int .i64) (.pair (.int .i64) .bool)), .sl (.pair (.int .i64) (.pair (.int .i64) (.int .i64))), .i .i64], .segs [.sl (.int .u8), .i .i64, .i .u32], .segs [.i .i64, .i .i64]]⟩⟩, fun p => some ((p.1.2.2.1, p.1.2.2.2.1, p.1.2.2.2.2.1, p.1.2.2.2.2.2.2.1, p.1.2.2.2.2.2.2.2.1, p.1.2.2.2.2.2.2.2.2.1, p.1.2.2.2.2.2.2.2.2.2.1, p.2.1.1, p.2.1.2.1, p.2.1.2.2.1, p.2.2.1.1, p.2.2.1.2.1, p.2.2.1.2.2.1, p.2.2.2.1.1, p.2.2.2.1.2.1))⟩
abbrev tsure_j3_at : List PI := [.c [1, 1, 1, 1, 0, 1, 0, 0, 1, 1, 0, 0, 1, 1, 1, 1, 1, 1, 1, 0, 1, 0, 0, 1, 1, 1], .l [1, 1, 1, 1, 0, 1, 0, 0, 1, 1, 0, 0, 1, 1, 1, 1, 1, 1, 1, 0, 1, 0, 0], .b 2, .c [1, 1, 1, 1, 0, 1, 0, 0, 1, 1, 0, 0, 1, 1, 1, 1, 1, 1, 1, 1], .b 1, .c [1, 1, 1, 1, 0, 1, 0, 0, 1, 1, 1], .l [1, 1, 1, 1, 0, 1, 0, 0], .b 0, .c [1, 1, 1, 1, 1]]
abbrev tsure_j3_st : Sta := ⟨[5, 6, 7, 10, 11, 12, 13, 14, 15, 30, 61, 62, 63], ⟨[.own 0 0, .own 1 0, .sl (.int .i64), .sl (.int .i64), .i .i64, .own 2 0, .i .i64, .sl (.int .i64), .i .i64, .i .i64, .sl (.pair (.int .i64) (.pair (.int .i64) (.int .i64))), .i .i64, .i .i64], [.segs [.sl (.pair (.int .i64) (.pair (.int .i64) .bool)), .sl (.pair (.int .i64) (.pair (.int .i64) (.int .i64))), .i .i64], .segs [.sl (.int .u8), .i .i64, .i .u32], .segs [.i .i64, .i .i64]]⟩⟩
abbrev tsure_j3_k (N : Nat) (rec : (List Int) → (List Int) → Int → Int → (List Int) → Int → Int → (List (Int × (Int × Int))) → Int → Int → (List (Int × (Int × Bool))) → (List (Int × (Int × Int))) → Int → (List Int) → Int → Int → Int → Int → Option (List Int × List Int × Int × Int × List Int × Int × Int × (List (Int × (Int × Bool))) × (List (Int × (Int × Int))) × Int × List Int × Int × Int × Int × Int)) : Leaf (List Int × List Int × Int × Int × List Int × Int × Int × (List (Int × (Int × Bool))) × (List (Int × (Int × Int))) × Int × List Int × Int × Int × Int × Int) := ⟨tsure_j3_at, tsure_j3_st, fun p => tsure_j3 N rec p.1.2.2.1 p.1.2.2.2.1 p.1.2.2.2.2.1 p.1.2.2.2.2.2.2.1 p.1.2.2.2.2.2.2.2.1 p.1.2.2.2.2.2.2.2.2.1 p.1.2.2.2.2.2.2.2.2.2.1 p.1.2.2.2.2.2.2.2.2.2.2.1 p.1.2.2.2.2.2.2.2.2.2.2.2.1 p.1.2.2.2.2.2.2.2.2.2.2.2.2.1 p.2.1.1 p.2.1.2.1 p.2.1.2.2.1 p.2.2.1.1 p.2.2.1.2.1 p.2.2.1.2.2.1 p.2.2.2.1.1 p.2.2.2.1.2.1⟩
theorem tsure_j3_eq (N : Nat) (rec : (List Int) → (List Int) → Int → Int → (List Int) → Int → Int → (List (Int × (Int × Int))) → Int → Int → (List (Int × (Int × Bool))) → (List (Int × (Int × Int))) → Int → (List Int) → Int → Int → Int → Int → Option (List Int × List Int × Int × Int × List Int × Int × Int × (List (Int × (Int × Bool))) × (List (Int × (Int × Int))) × Int × List Int × Int × Int × Int × Int)) (first : List Int) (l : List Int) (turn : Int) (e : Int) (p : List Int) (apart : Int) (u : Int) (u2 : List (Int × (Int × Int))) (u3 : Int) (u4 : Int) (t : List (Int × (Int × Bool))) (t2 : List (Int × (Int × Int))) (t3 : Int) (q : List Int) (q2 : Int) (q3 : Int) (run : Int) (run2 : Int) : ev (Z := List Int × List Int × Int × Int × List Int × Int × Int × (List (Int × (Int × Bool))) × (List (Int × (Int × Int))) × Int × List Int × Int × Int × Int × Int) Try.prog (tsure_sp N) tsure_B [] [tsure_l2_h rec, tsure_l2_e0] none 400 true tsure_j3_at (stL tsure_j3_st (((), (), first, l, turn, (), e, p, apart, u, u2, u3, u4, ()), ((t, t2, t3, ()), (q, q2, q3, ()), (run, run2, ()), ()))) (stH tsure_j3_st (((), (), first, l, turn, (), e, p, apart, u, u2, u3, u4, ()), ((t, t2, t3, ()), (q, q2, q3, ()), (run, run2, ()), ()))) = tsure_j3 N rec first l turn e p apart u u2 u3 u4 t t2 t3 q q2 q3 run run2 := by kernel_rfl
theorem tsure_j3_lf (N : Nat) (rec : (List Int) → (List Int) → Int → Int → (List Int) → Int → Int → (List (Int × (Int × Int))) → Int → Int → (List (Int × (Int × Bool))) → (List (Int × (Int × Int))) → Int → (List Int) → Int → Int → Int → Int → Option (List Int × List Int × Int × Int × List Int × Int × Int × (List (Int × (Int × Bool))) × (List (Int × (Int × Int))) × Int × List Int × Int × Int × Int × Int)) {z : List Int × List Int × Int × Int × List Int × Int × Int × (List (Int × (Int × Bool))) × (List (Int × (Int × Int))) × Int × List Int × Int × Int × Int × Int} {top : Bool} {E : EE} {Xc : Ctx} (hE : EOK tsure_B.m0 E) (hX : CxOK top Xc) (hrec : LeafOK Try.prog tsure_B.c tsure_B.n tsure_B.m0 E Xc z (tsure_l2_h rec)) (h0 : LeafOK Try.prog tsure_B.c tsure_B.n tsure_B.m0 E Xc z tsure_l2_e0) : LeafOK Try.prog tsure_B.c tsure_B.n tsure_B.m0 E Xc z (tsure_j3_k N rec) := leaf_of_ev (B := tsure_B) (loops := []) (leaves := [tsure_l2_h rec, tsure_l2_e0]) (tsure_all N) mixed trivial hE hX ⟨hrec, h0, trivial⟩ RetOK.no (fun p => tsure_j3_eq N rec p.1.2.2.1 p.1.2.2.2.1 p.1.2.2.2.2.1 p.1.2.2.2.2.2.2.1 p.1.2.2.2.2.2.2.2.1 p.1.2.2.2.2.2.2.2.2.1 p.1.2.2.2.2.2.2.2.2.2.1 p.1.2.2.2.2.2.2.2.2.2.2.1 p.1.2.2.2.2.2.2.2.2.2.2.2.1 p.1.2.2.2.2.2.2.2.2.2.2.2.2.1 p.2.1.1 p.2.1.2.1 p.2.1.2.2.1 p.2.2.1.1 p.2.2.1.2.1 p.2.2.1.2.2.1 p.2.2.2.1.1 p.2.2.2.1.2.1)
noncomputable def tsure_l2_L (N : Nat) : LoopS := { at_ := tsure_l2_at, sta := tsure_l2_st, exits := [([.c [1, 1, 1, 1, 0, 1, 0, 0, 1, 1, 0, 0, 1, 1, 1, 1, 1, 1, 1, 1, 0, 0], .c [1, 1, 1, 1, 0, 1, 0, 0, 1, 1, 0, 0, 1, 1, 1, 1, 1, 1, 1, 1, 0, 1], .c [1, 1, 1, 1, 0, 1, 0, 0, 1, 1, 0, 0, 1, 1, 1, 1, 1, 1, 1, 1, 1], .b 1, .c [1, 1, 1, 1, 0, 1, 0, 0, 1, 1, 1], .l [1, 1, 1, 1, 0, 1, 0, 0], .b 0, .c [1, 1, 1, 1, 1]], ⟨[5, 6, 7, 10, 11, 12, 13, 14, 15, 30], ⟨[.own 0 0, .own 1 0, .sl (.int .i64), .sl (.int .i64), .i .i64, .own 2 0, .i .i64, .sl (.int .i64), .i .i64, .i .i64], [.segs [.sl (.pair (.int .i64) (.pair (.int .i64) .bool)), .sl (.pair (.int .i64) (.pair (.int .i64) (.int .i64))), .i .i64], .segs [.sl (.int .u8), .i .i64, .i .u32], .segs [.i .i64, .i .i64]]⟩⟩)], run := fun p k => (tsure_l2 N N p.1.2.2.1 p.1.2.2.2.1 p.1.2.2.2.2.1 p.1.2.2.2.2.2.2.1 p.1.2.2.2.2.2.2.2.1 p.1.2.2.2.2.2.2.2.2.1 p.1.2.2.2.2.2.2.2.2.2.1 p.1.2.2.2.2.2.2.2.2.2.2.1 p.1.2.2.2.2.2.2.2.2.2.2.2.1 p.1.2.2.2.2.2.2.2.2.2.2.2.2.1 p.2.1.1 p.2.1.2.1 p.2.1.2.2.1 p.2.2.1.1 p.2.2.1.2.1 p.2.2.1.2.2.1 p.2.2.2.1.1 p.2.2.2.1.2.1).bind fun e => k (.inl (((), (), e.1, e.2.1, e.2.2.1, (), e.2.2.2.1, e.2.2.2.2.1, e.2.2.2.2.2.1, e.2.2.2.2.2.2.1, ()), ((e.2.2.2.2.2.2.2.1, e.2.2.2.2.2.2.2.2.1, e.2.2.2.2.2.2.2.2.2.1, ()), (e.2.2.2.2.2.2.2.2.2.2.1, e.2.2.2.2.2.2.2.2.2.2.2.1, e.2.2.2.2.2.2.2.2.2.2.2.2.1, ()), (e.2.2.2.2.2.2.2.2.2.2.2.2.2.1, e.2.2.2.2.2.2.2.2.2.2.2.2.2.2, ()), ()))) }
theorem tsure_l2_eq (N n_ : Nat) (first : List Int) (l : List Int) (turn : Int) (e : Int) (p : List Int) (apart : Int) (u : Int) (u2 : List (Int × (Int × Int))) (u3 : Int) (u4 : Int) (t : List (Int × (Int × Bool))) (t2 : List (Int × (Int × Int))) (t3 : Int) (q : List Int) (q2 : Int) (q3 : Int) (run : Int) (run2 : Int) : ev (Z := List Int × List Int × Int × Int × List Int × Int × Int × (List (Int × (Int × Bool))) × (List (Int × (Int × Int))) × Int × List Int × Int × Int × Int × Int) Try.prog (tsure_sp N) tsure_B [] [tsure_l2_h (tsure_l2 N n_), tsure_l2_e0, tsure_j3_k N (tsure_l2 N n_)] none 400 true tsure_l2_at (stL tsure_l2_st (((), (), first, l, turn, (), e, p, apart, u, u2, u3, u4, ()), ((t, t2, t3, ()), (q, q2, q3, ()), (run, run2, ()), ()))) (stH tsure_l2_st (((), (), first, l, turn, (), e, p, apart, u, u2, u3, u4, ()), ((t, t2, t3, ()), (q, q2, q3, ()), (run, run2, ()), ()))) = tsure_l2 N (n_ + 1) first l turn e p apart u u2 u3 u4 t t2 t3 q q2 q3 run run2 := by kernel_rfl
theorem tsure_l2_ok (N : Nat) {top : Bool} : LoopOK Try.prog tsure_B.c tsure_B.n tsure_B.m0 top (tsure_l2_L N) := loop_of_ev (Z := List Int × List Int × Int × Int × List Int × Int × Int × (List (Int × (Int × Bool))) × (List (Int × (Int × Int))) × Int × List Int × Int × Int × Int × Int) (N := N) (fun m p => tsure_l2 N m p.1.2.2.1 p.1.2.2.2.1 p.1.2.2.2.2.1 p.1.2.2.2.2.2.2.1 p.1.2.2.2.2.2.2.2.1 p.1.2.2.2.2.2.2.2.2.1 p.1.2.2.2.2.2.2.2.2.2.1 p.1.2.2.2.2.2.2.2.2.2.2.1 p.1.2.2.2.2.2.2.2.2.2.2.2.1 p.1.2.2.2.2.2.2.2.2.2.2.2.2.1 p.2.1.1 p.2.1.2.1 p.2.1.2.2.1 p.2.2.1.1 p.2.2.1.2.1 p.2.2.1.2.2.1 p.2.2.2.1.1 p.2.2.2.1.2.1) (fun e => .inl (((), (), e.1, e.2.1, e.2.2.1, (), e.2.2.2.1, e.2.2.2.2.1, e.2.2.2.2.2.1, e.2.2.2.2.2.2.1, ()), ((e.2.2.2.2.2.2.2.1, e.2.2.2.2.2.2.2.2.1, e.2.2.2.2.2.2.2.2.2.1, ()), (e.2.2.2.2.2.2.2.2.2.2.1, e.2.2.2.2.2.2.2.2.2.2.2.1, e.2.2.2.2.2.2.2.2.2.2.2.2.1, ()), (e.2.2.2.2.2.2.2.2.2.2.2.2.2.1, e.2.2.2.2.2.2.2.2.2.2.2.2.2.2, ()), ()))) (fun _ _ _ => rfl) (fun _ => rfl) (fun m z E Xc hE hX hrec hx => leaf_of_ev (B := tsure_B) (loops := []) (leaves := [tsure_l2_h (tsure_l2 N m), tsure_l2_e0, tsure_j3_k N (tsure_l2 N m)]) (tsure_all N) mixed trivial hE hX ⟨hrec, (fun p hp => by obtain rfl := Option.some.inj hp; exact hx), tsure_j3_lf N _ hE hX hrec (fun p hp => by obtain rfl := Option.some.inj hp; exact hx), trivial⟩ RetOK.no (fun p => tsure_l2_eq N m p.1.2.2.1 p.1.2.2.2.1 p.1.2.2.2.2.1 p.1.2.2.2.2.2.2.1 p.1.2.2.2.2.2.2.2.1 p.1.2.2.2.2.2.2.2.2.1 p.1.2.2.2.2.2.2.2.2.2.1 p.1.2.2.2.2.2.2.2.2.2.2.1 p.1.2.2.2.2.2.2.2.2.2.2.2.1 p.1.2.2.2.2.2.2.2.2.2.2.2.2.1 p.2.1.1 p.2.1.2.1 p.2.1.2.2.1 p.2.2.1.1 p.2.2.1.2.1 p.2.2.1.2.2.1 p.2.2.2.1.1 p.2.2.2.1.2.1))
abbrev tsure_j1_at : List PI := [.c [1, 1, 1, 1, 0, 1, 0, 0, 1, 1, 0, 0, 1, 1, 1, 0], .c [1, 1, 1, 1, 0, 1, 0, 0, 1, 1, 0, 0, 1, 1, 1, 1], .b 1, .c [1, 1, 1, 1, 0, 1, 0, 0, 1, 1, 1], .l [1, 1, 1, 1, 0, 1, 0, 0], .b 0, .c [1, 1, 1, 1, 1]]
abbrev tsure_j1_st : Sta := ⟨[5, 6, 7, 10, 30], ⟨[.own 0 0, .own 1 0, .sl (.int .i64), .sl (.int .i64), .i .i64], [.segs [.sl (.pair (.int .i64) (.pair (.int .i64) .bool)), .sl (.pair (.int .i64) (.pair (.int .i64) (.int .i64))), .i .i64], .segs [.sl (.int .u8), .i .i64, .i .u32]]⟩⟩
abbrev tsure_j1_k (N : Nat) (rec : (List Int) → Int → (List (Int × (Int × Bool))) → (List (Int × (Int × Int))) → Int → (List Int) → Int → Int → Option ((Unit) ⊕ ((Unit) ⊕ ((Unit) ⊕ ((Unit) ⊕ (Unit)))))) : Leaf ((Unit) ⊕ ((Unit) ⊕ ((Unit) ⊕ ((Unit) ⊕ (Unit))))) := ⟨tsure_j1_at, tsure_j1_st, fun p => tsure_j1 N rec p.1.2.2.1 p.1.2.2.2.1 p.1.2.2.2.2.1 p.2.1.1 p.2.1.2.1 p.2.1.2.2.1 p.2.2.1.1 p.2.2.1.2.1 p.2.2.1.2.2.1⟩
theorem tsure_j1_eq (N : Nat) (rec : (List Int) → Int → (List (Int × (Int × Bool))) → (List (Int × (Int × Int))) → Int → (List Int) → Int → Int → Option ((Unit) ⊕ ((Unit) ⊕ ((Unit) ⊕ ((Unit) ⊕ (Unit)))))) (first : List Int) (l : List Int) (u : Int) (t : List (Int × (Int × Bool))) (t2 : List (Int × (Int × Int))) (t3 : Int) (q : List Int) (q2 : Int) (q3 : Int) : ev (Z := (Unit) ⊕ ((Unit) ⊕ ((Unit) ⊕ ((Unit) ⊕ (Unit))))) Try.prog (tsure_sp N) tsure_B [tsure_l2_L N] [tsure_l1_h rec, tsure_l1_e0, tsure_l1_e1, tsure_l1_e2, tsure_l1_e3, tsure_l1_e4, tsure_j2_k N rec] none 400 true tsure_j1_at (stL tsure_j1_st (((), (), first, l, u, ()), ((t, t2, t3, ()), (q, q2, q3, ()), ()))) (stH tsure_j1_st (((), (), first, l, u, ()), ((t, t2, t3, ()), (q, q2, q3, ()), ()))) = tsure_j1 N rec first l u t t2 t3 q q2 q3 := by kernel_rfl
theorem tsure_j1_lf (N : Nat) (rec : (List Int) → Int → (List (Int × (Int × Bool))) → (List (Int × (Int × Int))) → Int → (List Int) → Int → Int → Option ((Unit) ⊕ ((Unit) ⊕ ((Unit) ⊕ ((Unit) ⊕ (Unit)))))) {z : (Unit) ⊕ ((Unit) ⊕ ((Unit) ⊕ ((Unit) ⊕ (Unit))))} {top : Bool} {E : EE} {Xc : Ctx} (hE : EOK tsure_B.m0 E) (hX : CxOK top Xc) (hrec : LeafOK Try.prog tsure_B.c tsure_B.n tsure_B.m0 E Xc z (tsure_l1_h rec)) (h0 : LeafOK Try.prog tsure_B.c tsure_B.n tsure_B.m0 E Xc z tsure_l1_e0) (h1 : LeafOK Try.prog tsure_B.c tsure_B.n tsure_B.m0 E Xc z tsure_l1_e1) (h2 : LeafOK Try.prog tsure_B.c tsure_B.n tsure_B.m0 E Xc z tsure_l1_e2) (h3 : LeafOK Try.prog tsure_B.c tsure_B.n tsure_B.m0 E Xc z tsure_l1_e3) (h4 : LeafOK Try.prog tsure_B.c tsure_B.n tsure_B.m0 E Xc z tsure_l1_e4) : LeafOK Try.prog tsure_B.c tsure_B.n tsure_B.m0 E Xc z (tsure_j1_k N rec) := leaf_of_ev (B := tsure_B) (loops := [tsure_l2_L N]) (leaves := [tsure_l1_h rec, tsure_l1_e0, tsure_l1_e1, tsure_l1_e2, tsure_l1_e3, tsure_l1_e4, tsure_j2_k N rec]) (tsure_all N) mixed ⟨tsure_l2_ok N, trivial⟩ hE hX ⟨hrec, h0, h1, h2, h3, h4, tsure_j2_lf N rec hE hX hrec h0 h1 h2 h3 h4, trivial⟩ RetOK.no (fun p => tsure_j1_eq N rec p.1.2.2.1 p.1.2.2.2.1 p.1.2.2.2.2.1 p.2.1.1 p.2.1.2.1 p.2.1.2.2.1 p.2.2.1.1 p.2.2.1.2.1 p.2.2.1.2.2.1)
noncomputable def tsure_l1_L (N : Nat) : LoopS := { at_ := tsure_l1_at, sta := tsure_l1_st, exits := [([.c [1, 1, 1, 1, 0, 1, 0, 0, 1, 1, 0, 0, 1, 1, 1, 1, 0, 1, 0, 0, 1, 0, 0], .c [1, 1, 1, 1, 0, 1, 0, 0, 1, 1, 0, 0, 1, 1, 1, 1, 0, 1, 0, 0, 1, 0, 1], .c [1, 1, 1, 1, 0, 1, 0, 0, 1, 1, 0, 0, 1, 1, 1, 1, 0, 1, 0, 1], .c [1, 1, 1, 1, 0, 1, 0, 0, 1, 1, 0, 0, 1, 1, 1, 1, 1], .b 1, .c [1, 1, 1, 1, 0, 1, 0, 0, 1, 1, 1], .l [1, 1, 1, 1, 0, 1, 0, 0], .b 0, .c [1, 1, 1, 1, 1]], ⟨[], ⟨[], []⟩⟩), ([.c [1, 1, 1, 1, 0, 1, 0, 0, 1, 1, 0, 0, 1, 1, 1, 1, 1, 1, 1, 1, 0, 1, 0, 0], .c [1, 1, 1, 1, 0, 1, 0, 0, 1, 1, 0, 0, 1, 1, 1, 1, 1, 1, 1, 1, 0, 1, 0, 1], .c [1, 1, 1, 1, 0, 1, 0, 0, 1, 1, 0, 0, 1, 1, 1, 1, 1, 1, 1, 1, 1], .b 1, .c [1, 1, 1, 1, 0, 1, 0, 0, 1, 1, 1], .l [1, 1, 1, 1, 0, 1, 0, 0], .b 0, .c [1, 1, 1, 1, 1]], ⟨[], ⟨[], []⟩⟩), ([.c [1, 1, 1, 1, 0, 1, 0, 0, 1, 1, 0, 0, 1, 1, 1, 1, 1, 1, 1, 1, 1, 1, 0, 1, 0, 0], .c [1, 1, 1, 1, 0, 1, 0, 0, 1, 1, 0, 0, 1, 1, 1, 1, 1, 1, 1, 1, 1, 1, 0, 1, 0, 1], .c [1, 1, 1, 1, 0, 1, 0, 0, 1, 1, 0, 0, 1, 1, 1, 1, 1, 1, 1, 1, 1, 1, 1], .b 1, .c [1, 1, 1, 1, 0, 1, 0, 0, 1, 1, 1], .l [1, 1, 1, 1, 0, 1, 0, 0], .b 0, .c [1, 1, 1, 1, 1]], ⟨[], ⟨[], []⟩⟩), ([.c [1, 1, 1, 1, 0, 1, 0, 0, 1, 1, 0, 0, 1, 1, 1, 1, 1, 1, 1, 1, 1, 1, 1, 1, 1, 0, 0], .c [1, 1, 1, 1, 0, 1, 0, 0, 1, 1, 0, 0, 1, 1, 1, 1, 1, 1, 1, 1, 1, 1, 1, 1, 1, 0, 1], .b 1, .c [1, 1, 1, 1, 0, 1, 0, 0, 1, 1, 1], .l [1, 1, 1, 1, 0, 1, 0, 0], .b 0, .c [1, 1, 1, 1, 1]], ⟨[], ⟨[], []⟩⟩), ([.c [1, 1, 1, 1, 1, 0], .c [1, 1, 1, 1, 1, 1]], ⟨[], ⟨[], []⟩⟩)], run := fun p k => (tsure_l1 N N p.1.2.2.1 p.1.2.2.2.1 p.2.1.1 p.2.1.2.1 p.2.1.2.2.1 p.2.2.1.1 p.2.2.1.2.1 p.2.2.1.2.2.1).bind fun e => match e with | .inl x => k (.inl ((), ())) | .inr (.inl x) => k (.inr (.inl ((), ()))) | .inr (.inr (.inl x)) => k (.inr (.inr (.inl ((), ())))) | .inr (.inr (.inr (.inl x))) => k (.inr (.inr (.inr (.inl ((), ()))))) | .inr (.inr (.inr (.inr x))) => k (.inr (.inr (.inr (.inr (.inl ((), ())))))) }
theorem tsure_l1_eq (N n_ : Nat) (first : List Int) (u : Int) (t : List (Int × (Int × Bool))) (t2 : List (Int × (Int × Int))) (t3 : Int) (q : List Int) (q2 : Int) (q3 : Int) : ev (Z := (Unit) ⊕ ((Unit) ⊕ ((Unit) ⊕ ((Unit) ⊕ (Unit))))) Try.prog (tsure_sp N) tsure_B [tsure_l2_L N] [tsure_l1_h (tsure_l1 N n_), tsure_l1_e0, tsure_l1_e1, tsure_l1_e2, tsure_l1_e3, tsure_l1_e4, tsure_j2_k N (tsure_l1 N n_), tsure_j1_k N (tsure_l1 N n_)] none 400 true tsure_l1_at (stL tsure_l1_st (((), (), first, u, ()), ((t, t2, t3, ()), (q, q2, q3, ()), ()))) (stH tsure_l1_st (((), (), first, u, ()), ((t, t2, t3, ()), (q, q2, q3, ()), ()))) = tsure_l1 N (n_ + 1) first u t t2 t3 q q2 q3 := by kernel_rfl
theorem tsure_l1_ok (N : Nat) {top : Bool} : LoopOK Try.prog tsure_B.c tsure_B.n tsure_B.m0 top (tsure_l1_L N) := loop_of_ev (Z := (Unit) ⊕ ((Unit) ⊕ ((Unit) ⊕ ((Unit) ⊕ (Unit))))) (N := N) (fun m p => tsure_l1 N m p.1.2.2.1 p.1.2.2.2.1 p.2.1.1 p.2.1.2.1 p.2.1.2.2.1 p.2.2.1.1 p.2.2.1.2.1 p.2.2.1.2.2.1) (fun e => match e with | .inl x => .inl ((), ()) | .inr (.inl x) => .inr (.inl ((), ())) | .inr (.inr (.inl x)) => .inr (.inr (.inl ((), ()))) | .inr (.inr (.inr (.inl x))) => .inr (.inr (.inr (.inl ((), ())))) | .inr (.inr (.inr (.inr x))) => .inr (.inr (.inr (.inr (.inl ((), ())))))) (fun _ p k => bind_congr_ (tsure_l1 N N p.1.2.2.1 p.1.2.2.2.1 p.2.1.1 p.2.1.2.1 p.2.1.2.2.1 p.2.2.1.1 p.2.2.1.2.1 p.2.2.1.2.2.1) _ _ (fun e => by rcases e with x | x | x | x | x <;> rfl)) (fun _ => rfl) (fun m z E Xc hE hX hrec hx => leaf_of_ev (B := tsure_B) (loops := [tsure_l2_L N]) (leaves := [tsure_l1_h (tsure_l1 N m), tsure_l1_e0, tsure_l1_e1, tsure_l1_e2, tsure_l1_e3, tsure_l1_e4, tsure_j2_k N (tsure_l1 N m), tsure_j1_k N (tsure_l1 N m)]) (tsure_all N) mixed ⟨tsure_l2_ok N, trivial⟩ hE hX ⟨hrec, (fun p hp => by obtain rfl := Option.some.inj hp; exact hx), (fun p hp => by obtain rfl := Option.some.inj hp; exact hx), (fun p hp => by obtain rfl := Option.some.inj hp; exact hx), (fun p hp => by obtain rfl := Option.some.inj hp; exact hx), (fun p hp => by obtain rfl := Option.some.inj hp; exact hx), tsure_j2_lf N _ hE hX hrec (fun p hp => by obtain rfl := Option.some.inj hp; exact hx) (fun p hp => by obtain rfl := Option.some.inj hp; exact hx) (fun p hp => by obtain rfl := Option.some.inj hp; exact hx) (fun p hp => by obtain rfl := Option.some.inj hp; exact hx) (fun p hp => by obtain rfl := Option.some.inj hp; exact hx), tsure_j1_lf N _ hE hX hrec (fun p hp => by obtain rfl := Option.some.inj hp; exact hx) (fun p hp => by obtain rfl := Option.some.inj hp; exact hx) (fun p hp => by obtain rfl := Option.some.inj hp; exact hx) (fun p hp => by obtain rfl := Option.some.inj hp; exact hx) (fun p hp => by obtain rfl := Option.some.inj hp; exact hx), trivial⟩ RetOK.no (fun p => tsure_l1_eq N m p.1.2.2.1 p.1.2.2.2.1 p.2.1.1 p.2.1.2.1 p.2.1.2.2.1 p.2.2.1.1 p.2.2.1.2.1 p.2.2.1.2.2.1))
abbrev tsure_st : Sta := ⟨[0, 1], ⟨[.sl (.int .u8), .sl (.int .u8)], []⟩⟩
theorem tsure_eq (N : Nat) (numbers : List Int) (tries : List Int) : ev (Z := Bool) Try.prog (tsure_sp N) tsure_B [tsure_l2_L N, tsure_l1_L N] [] (some tsure_rt) 400 false [.c [0], .c [1]] (stL tsure_st ((numbers, tries, ()), ())) (stH tsure_st ((numbers, tries, ()), ())) = tsure_S N numbers tries := by kernel_rfl
noncomputable def sp_tsure (N : Nat) : Spec := { f := 7, ins := ⟨[.sl (.int .u8), .sl (.int .u8)], []⟩, outs := [⟨[.b], []⟩], run := fun p k => (tsure_S N p.1.1 p.1.2.1).bind fun r => k ((r, ()), ()) }
theorem sp_tsure_ok (N : Nat) : SpecOK Try.prog (sp_tsure N) := fn_sound (B := tsure_B) (loops := [tsure_l2_L N, tsure_l1_L N]) (leaves := []) (fun p => tsure_S N p.1.1 p.1.2.1) (fun r => ((r, ()), ())) tsure_rt (fun _ _ _ => rfl) (fun r z h => by cases h; rfl) Try.func7 (by kernel_rfl) (by kernel_rfl) (by kernel_rfl) rfl rfl (by kernel_rfl) (fun args w => Sem.pv_run _ _ _ (by kernel_rfl) w) (tsure_all N) mixed ⟨tsure_l2_ok N, tsure_l1_ok N, trivial⟩ (fun z E Xc hE hX hret => trivial) (fun p => tsure_eq N p.1.1 p.1.2.1)

end Go.Proofs.Ytfamlpbdhhikdaa

namespace Go.Proofs.Ytfamlpbdhhikdaa
set_option linter.all false
open Go

end Go.Proofs.Ytfamlpbdhhikdaa

namespace Go.Proofs.Ytfamlpbdhhikdaa
set_option linter.all false
open Go

section
variable {R : Nat → Nat → Bool} {m : Nat}
end
/-! ### The program of the reference -/
section
variable {N : Nat} (hN : 110 ≤ N)
include hN
end
section
variable {ws : List Wd} {ts : List Tn} {br_ : Int}
theorem good_wrong : ∀ (l : List Int) (p : Nat) (i : Int), (∀ x ∈ l, 1 ≤ x ∧ x ≤ 12) → (p : Int) + l.sum = ws.length → (goodB (rightR ws ts br_) ws.length p l = true ↔ wrongF ws ts br_ l p i = none)
  | [], p, i, _, hs => by simp [goodB, wrongF]; simp at hs; omega
  | x :: l, p, i, h, hs => by
    have hx := h x (by simp)
    have hge := sum_ge (l := l) (fun y hy => h y (by simp [hy]))
    rw [List.sum_cons] at hs
    have ih := good_wrong l (p + x.toNat) (i + 1) (fun y hy => h y (by simp [hy])) (by omega)
    rw [good_cons, wrongF]
    unfold rightR
    cases (faultR ws ts br_ p (p + x.toNat)).2
    · rw [if_neg (by simp), ← ih]
      unfold rightR
      simp only [Bool.not_false, true_and]
      exact ⟨fun h => h.2, fun h => ⟨⟨by omega, by omega⟩, h⟩⟩
    · simp
theorem good_read {l : List Int} (hm : ws.length ≤ 12) : ∀ {p : Nat}, goodB (rightR ws ts br_) ws.length p l = true → (∀ x ∈ l, 1 ≤ x ∧ x ≤ 12) ∧ (p : Int) + l.sum = ws.length := by
  induction l with
  | nil => intro p h; have := good_nil.1 h; simp; omega
  | cons x l ih =>
    intro p h
    obtain ⟨⟨b1, b2⟩, _, b4⟩ := good_cons.1 h
    obtain ⟨c1, c2⟩ := ih b4
    refine ⟨fun y hy => ?_, by rw [List.sum_cons]; omega⟩
    rcases List.mem_cons.1 hy with rfl | hy
    · omega
    · exact c1 y hy
variable {N : Nat} (hN : 1030 ≤ N)
include hN
end
/-! ### The fewest breaths -/
section
variable {N : Nat} {l : List (List Int)} (hl : l.length ≤ 100000) (h1 : ∀ x ∈ l, 1 ≤ x.length)
include hl h1
end
end Go.Proofs.Ytfamlpbdhhikdaa

namespace Go.Proofs.Ytfamlpbdhhikdaa
set_option linter.all false
open Go

section
variable {N : Nat} {l : List (List Int)} {ws : List Wd} {ts : List Tn} {br_ : Int} {O : List Int}
end
section
variable {R : Nat → Nat → Bool} {m : Nat}
end
section
variable {N : Nat} {ws : List Wd} {ts : List Tn} {br_ : Int} (hF : TFine ws ts br_) (hN : 1030 ≤ N) (hm : ws.length ≤ 10)
include hF hm hN
end
/-- The fewest breaths: what is told. -/
theorem fewest_v {N : Nat} (hN : 110 ≤ N) {ws : List Wd} {ts : List Tn} {br_ : Int} (hw : ws.length ≤ 1000000) (ht : ts.length ≤ 1000000) :
    (checkT ws ts br_ ≠ 0 ∧ fewest_S N ws ts br_ = some ([], checkT ws ts br_)) ∨ (checkT ws ts br_ = 0 ∧
      ((∃ l, fewest_S N ws ts br_ = some (l, 0) ∧ goodB (rightR ws ts br_) ws.length 0 l = true ∧ IsMin (rightR ws ts br_) ws.length 0 l.length) ∨
       (fewest_S N ws ts br_ = some ([], 6) ∧ ∀ l, goodB (rightR ws ts br_) ws.length 0 l = false))) := by
  unfold fewest_S
  rw [opened_v (by omega) hw ht]
  by_cases c : checkT ws ts br_ = 0
  · refine .inr ⟨c, ?_⟩
    have hF := tfine_of c
    have := hF.t
    rw [if_pos c]
    simp only [Option.bind_some]
    rw [br_nd trivial]
    rcases fewestr_v (N := N) hN (d := (ws, ts, br_)) (r := (ws, ts, br_)) (R := rightR ws ts br_) (m := ws.length) rfl ⟨hF.n0, hF.n⟩ (fun a b h1 h2 => right_v hN hF.okW (by omega) (by omega) h2) with ⟨l, e, h1, h2⟩ | ⟨e, h1⟩
    · rw [e]; exact .inl ⟨l, rfl, h1, h2⟩
    · rw [e]; exact .inr ⟨rfl, h1⟩
  · refine .inl ⟨c, ?_⟩
    rw [if_neg c]
    simp only [Option.bind_some]
    rw [br_nnd c]
end Go.Proofs.Ytfamlpbdhhikdaa

namespace Go.Proofs.Ytfamlpbdhhikdaa
set_option linter.all false
open Go

/-- Right breaths that end at no place that a turn parts. -/
def partP (s : Int) (x : Tn) : Bool := (decide (x.1 < s) && decide (s ≤ x.2.1)) || (decide (x.2.2 < s) && decide (s ≤ x.1))
section
variable {ws : List Wd} {ts : List Tn} {br_ : Int}
variable {N : Nat} (hN : 110 ≤ N) (hF : TFine ws ts br_)
include hN hF
end
/-! ### Sure readings -/
section
variable {ws : List Wd} {ts : List Tn} {br_ : Int} {N : Nat} (hN : 110 ≤ N) (hF : TFine ws ts br_)
include hN hF
end
/-! ### No run of a sure reading says a turn otherwise -/
def runsOK (p : Int → Int → Bool) : Int → List Int → Prop
  | _, [] => True
  | f, x :: r => (∀ s ∈ psums f (x :: r), p f s = false) ∧ runsOK p (f + x) r
theorem inF_none {q : Int → Bool} : ∀ (r : List Int) (to b : Int), inF q r to b = none ↔ ∀ s ∈ psums to r, q s = false
  | [], to, b => by simp [inF, psums]
  | x :: r, to, b => by
    have ih := inF_none (q := q) r (to + x) (b + 1)
    simp only [inF, psums, List.mem_cons, forall_eq_or_imp]
    cases q (to + x)
    · rw [if_neg (by simp), ih]; simp
    · simp
theorem outF_none {p : Int → Int → Bool} : ∀ (r : List Int) (f a : Int), outF p r f a = none ↔ runsOK p f r
  | [], f, a => by simp [outF, runsOK]
  | x :: r, f, a => by
    have ih := outF_none (p := p) r (f + x) (a + 1)
    rw [outF, runsOK, ← inF_none (x :: r) f a, ← ih]
    cases inF (p f) (x :: r) f a <;> simp
theorem trnF_none {l : List Int} : ∀ (ts : List Tn) (k : Int), trnF l ts k = none ↔ ∀ x ∈ ts, runsOK (fun a b => turnP a b x) 0 l
  | [], k => by simp [trnF]
  | x :: r, k => by
    have ih := trnF_none (l := l) r (k + 1)
    rw [trnF]
    simp only [List.mem_cons, forall_eq_or_imp]
    rw [← ih, ← outF_none l 0 0]
    cases outF (fun a b => turnP a b x) l 0 0 <;> simp
theorem psums_last {R : Nat → Nat → Bool} {m : Nat} : ∀ {l : List Int} {a : Nat}, goodB R m a l = true → l ≠ [] → (m : Int) ∈ psums a l
  | [], a, _, hn => absurd rfl hn
  | x :: l, a, h, _ => by
    obtain ⟨⟨b1, b2⟩, b3, b4⟩ := good_cons.1 h
    have e : (a : Int) + x = ((a + x.toNat : Nat) : Int) := by omega
    rw [psums, e, List.mem_cons]
    by_cases c : l = []
    · subst c; have := good_nil.1 b4; exact .inl (by omega)
    · exact .inr (psums_last b4 c)
theorem psums_le {R : Nat → Nat → Bool} {m : Nat} : ∀ {l : List Int} {a : Nat}, goodB R m a l = true → ∀ s ∈ psums a l, (a : Int) < s ∧ s ≤ m
  | [], a, _, s, hs => by simp [psums] at hs
  | x :: l, a, h, s, hs => by
    obtain ⟨⟨b1, b2⟩, b3, b4⟩ := good_cons.1 h
    have e : (a : Int) + x = ((a + x.toNat : Nat) : Int) := by omega
    rw [psums, e, List.mem_cons] at hs
    rcases hs with rfl | hs
    · omega
    · have := psums_le b4 s hs; omega
theorem runs_end {R : Nat → Nat → Bool} {m : Nat} {p : Int → Int → Bool} : ∀ {l : List Int} {a : Nat}, goodB R m a l = true → runsOK p a l → ∀ s ∈ psums a l, s < m → p s m = false
  | [], a, _, _, s, hs, _ => by simp [psums] at hs
  | x :: l, a, h, hr, s, hs, hm => by
    obtain ⟨⟨b1, b2⟩, b3, b4⟩ := good_cons.1 h
    have e : (a : Int) + x = ((a + x.toNat : Nat) : Int) := by omega
    rw [runsOK, e] at hr
    rw [psums, e, List.mem_cons] at hs
    rcases hs with rfl | hs
    · cases l with
      | nil => have := good_nil.1 b4; omega
      | cons y l =>
        rw [runsOK] at hr
        exact hr.2.1 _ (psums_last b4 (by simp))
    · exact runs_end b4 hr.2 s hs hm
section
variable {ws : List Wd} {ts : List Tn} {br_ : Int}
theorem runs_ok {R : Nat → Nat → Bool} {x : Tn} (hx : (0 ≤ x.1 ∧ x.1 < ws.length) ∧ (0 ≤ x.2.1 ∧ x.2.1 < ws.length) ∧ (0 ≤ x.2.2 ∧ x.2.2 < ws.length) ∧ x.2.1 ≤ x.2.2 ∧ ¬ (x.2.1 ≤ x.1 ∧ x.1 ≤ x.2.2)) : ∀ {l : List Int} {a : Nat}, goodB R ws.length a l = true → (a = 0 ∨ partP a x = false) → (∀ s ∈ psums a l, s < ws.length → partP s x = false) → runsOK (fun a b => turnP a b x) a l
  | [], a, _, _, _ => trivial
  | y :: l, a, h, ha, hs => by
    obtain ⟨⟨b1, b2⟩, b3, b4⟩ := good_cons.1 h
    have e : (a : Int) + y = ((a + y.toNat : Nat) : Int) := by omega
    refine ⟨fun s h1 => ?_, ?_⟩
    · have hb := psums_le h s h1
      have h2 := hs s h1
      show turnP a s x = false
      cases ht : turnP a s x
      · rfl
      · exfalso
        simp only [turnP, Bool.and_eq_true, decide_eq_true_eq, Bool.not_eq_true', decide_eq_false_iff_not] at ht
        obtain ⟨⟨t1, t2⟩, t3⟩ := ht
        by_cases c : x.1 < a
        · rcases ha with rfl | ha
          · omega
          · simp [partP] at ha; omega
        · have h3 := h2 (by omega)
          simp [partP] at h3; omega
    · rw [e]
      by_cases c : a + y.toNat = ws.length
      · cases l with
        | nil => trivial
        | cons z l => have := (good_cons.1 b4).1; omega
      · refine runs_ok hx b4 (.inr ?_) (fun s h1 => hs s ?_)
        · rw [← e]
          exact hs _ (by rw [psums]; simp) (by omega)
        · rw [psums, e, List.mem_cons]; exact .inr h1
end
end Go.Proofs.Ytfamlpbdhhikdaa

namespace Go.Proofs.Ytfamlpbdhhikdaa
set_option linter.all false
open Go

section
variable {N : Nat} {ws : List Wd} {ts : List Tn} {br_ : Int} (hN : 110 ≤ N) (hF : TFine ws ts br_)
include hN hF
end
section
variable {N : Nat} {ws : List Wd} {ts : List Tn} {br_ : Int} (hF : TFine ws ts br_) (hN : 1030 ≤ N) (hm : ws.length ≤ 10)
include hF hm hN
end
end Go.Proofs.Ytfamlpbdhhikdaa

namespace Go.Proofs.Ytfamlpbdhhikdaa
set_option linter.all false
open Go

/-! ### Bells -/
theorem wrap32 (x : Int) : 0 ≤ IntKind.u32.wrap x ∧ IntKind.u32.wrap x < 4294967296 := by
  have := wrap_inR .u32 x
  have h1 : IntKind.u32.min = 0 := by decide
  have h2 : IntKind.u32.max = 4294967295 := by decide
  unfold inR at this
  rw [h1, h2] at this
  omega
def Bell (b : List Int) (b2 : Int) : Prop := b.length ≤ 9223372036854775807 ∧ 0 ≤ b2 ∧ b2 ≤ b.length
abbrev BellR (b : List Int) (r : List Int × Int × Int) : Prop := r.1 = b ∧ Bell b r.2.1
theorem and_small (n : Nat) : 0 ≤ IntKind.i64.wrap ((n &&& 65535 : Nat) : Int) ∧ IntKind.i64.wrap ((n &&& 65535 : Nat) : Int) ≤ 65535 := by
  have : n &&& 65535 ≤ 65535 := Nat.and_le_right
  rw [wrap64 (by omega)]
  omega
theorem fdiv_nonneg {x : Int} (h : 0 ≤ x) : 0 ≤ Int.fdiv x (2 ^ 7) := by
  rw [Int.fdiv_eq_ediv_of_nonneg _ (by decide)]
  exact Int.ediv_nonneg h (by decide)
theorem ring_j1_ok (N : Nat) {b : List Int} {b2 b3 : Int} (hb : b.length ≤ 9223372036854775807) (h0 : 0 ≤ b2) (h1 : b2 < b.length ∨ b.length = 0 ∧ b2 = 0) : Ok (ring_j1 N b b2 b3) fun r => (0 ≤ r.1 ∧ r.1 ≤ 65535) ∧ BellR b r.2 := by
  unfold ring_j1
  refine Ok.brd (fun h => ?_) (fun h => ?_)
  · refine Ok.idx h0 (by omega) (fun a _ _ => Ok.chk (by omega) (Ok.grd ?_ (Ok.grd ?_ (Ok.some ?_))))
    · simp only [decide_eq_true_eq]; exact ⟨(wrap32 _).1, fdiv_nonneg (wrap32 _).1⟩
    · simp only [decide_eq_true_eq]; exact ⟨Int.natCast_nonneg _, by decide⟩
    · exact ⟨and_small _, rfl, hb, by dsimp only; omega, by dsimp only; omega⟩
  · refine Ok.grd ?_ (Ok.grd ?_ (Ok.some ?_))
    · simp only [decide_eq_true_eq]; exact ⟨(wrap32 _).1, fdiv_nonneg (wrap32 _).1⟩
    · simp only [decide_eq_true_eq]; exact ⟨Int.natCast_nonneg _, by decide⟩
    · exact ⟨and_small _, rfl, hb, by dsimp only; omega, by dsimp only; omega⟩
theorem ring_ok (N : Nat) {b : List Int} {b2 b3 : Int} (hb : Bell b b2) : Ok (ring_S N b b2 b3) fun r => (0 ≤ r.1 ∧ r.1 ≤ 65535) ∧ BellR b r.2 := by
  obtain ⟨h1, h2, h3⟩ := hb
  unfold ring_S
  refine Ok.brd (fun h => ring_j1_ok N h1 (by omega) (by omega)) (fun h => ring_j1_ok N h1 h2 (by omega))
theorem stroke_ok (N : Nat) {n : Int} {b : List Int} {b2 b3 : Int} (hb : Bell b b2) (hn : -1000000 ≤ n ∧ n ≤ 1000000) : Ok (stroke_S N n b b2 b3) fun r => (0 ≤ r.1 ∧ r.1 ≤ max 0 n) ∧ BellR b r.2 := by
  unfold stroke_S
  refine Ok.bind (ring_ok N hb) (fun r hr => ?_)
  obtain ⟨x, c, c2, c3⟩ := r
  refine Ok.chk (by omega) (Ok.grd (by simp only [Bool.not_eq_true', decide_eq_false_iff_not]; omega) (Ok.some ⟨?_, hr.2⟩))
  obtain ⟨⟨h1, h2⟩, _⟩ := hr
  dsimp only at *
  have hm : 0 < max 1 (n + 1) := by omega
  have := Int.tmod_lt_of_pos x hm
  have := Int.tmod_nonneg (max 1 (n + 1)) h1
  omega
theorem strike_ok (N : Nat) {lo hi : Int} {b : List Int} {b2 b3 : Int} (hb : Bell b b2) (hn : (-1000 ≤ lo ∧ lo ≤ 1000) ∧ -1000 ≤ hi ∧ hi ≤ 1000) : Ok (strike_S N lo hi b b2 b3) fun r => (lo ≤ r.1 ∧ r.1 ≤ max lo hi) ∧ BellR b r.2 := by
  unfold strike_S
  refine Ok.chk (by omega) (Ok.bind (stroke_ok N hb (by omega)) (fun r hr => ?_))
  obtain ⟨x, c, c2, c3⟩ := r
  obtain ⟨h, h2⟩ := hr
  dsimp only at *
  refine Ok.chk (by omega) (Ok.some ⟨by dsimp only; omega, h2⟩)
theorem seldom_ok (N : Nat) {n : Int} {b : List Int} {b2 b3 : Int} (hb : Bell b b2) (hn : -1000 ≤ n ∧ n ≤ 1000) : Ok (seldom_S N n b b2 b3) fun r => BellR b r.2 := by
  unfold seldom_S
  refine Ok.chk (by omega) (Ok.bind (stroke_ok N hb (by omega)) (fun r hr => ?_))
  obtain ⟨x, c, c2, c3⟩ := r
  exact Ok.some hr.2

/-! ### Texts that are made -/
theorem checkT_of {ws : List Wd} {ts : List Tn} {br_ : Int} (h : TFine ws ts br_) : checkT ws ts br_ = 0 := by
  have h1 := h.n0; have h2 := h.n; have h3 := h.t; have h4 := h.b0; have h5 := h.b1
  have e1 : ws.all okw = true := by
    rw [List.all_eq_true]
    intro w hw
    have := h.w w hw
    simp [okw]; omega
  have e2 : ts.all (ok2 ws.length) = true := by
    rw [List.all_eq_true]
    intro x hx
    have := h.x x hx
    simp only [ok2, inT, Bool.and_eq_true, decide_eq_true_eq]; omega
  have e3 : ts.all ok3 = true := by
    rw [List.all_eq_true]
    intro x hx
    have := h.x x hx
    simp only [ok3, decide_eq_true_eq]; omega
  have e4 : ts.all ok4 = true := by
    rw [List.all_eq_true]
    intro x hx
    have := h.x x hx
    simp only [ok4, Bool.not_eq_true', decide_eq_false_iff_not]; omega
  unfold checkT
  rw [if_neg (by omega), if_neg (by omega), if_neg (by omega), if_neg (by simp [e1]), if_neg (by simp [e2]), if_neg (by simp [e3]), if_neg (by simp [e4])]
abbrev BelR (b : List Int) (c : List Int) (c2 : Int) : Prop := c = b ∧ Bell b c2
def okWd (w : Wd) : Prop := (1 ≤ w.1 ∧ w.1 ≤ 9) ∧ 0 ≤ w.2.1 ∧ w.2.1 ≤ 20
def okTn (m : Nat) (x : Tn) : Prop := (0 ≤ x.1 ∧ x.1 < m) ∧ (0 ≤ x.2.1 ∧ x.2.1 < m) ∧ (0 ≤ x.2.2 ∧ x.2.2 < m) ∧ x.2.1 ≤ x.2.2 ∧ ¬ (x.2.1 ≤ x.1 ∧ x.1 ≤ x.2.2)
section
variable {N : Nat} {b : List Int}
theorem made_l1_p {turns u g t : Int} (hu : 0 ≤ u ∧ u ≤ 100) : ∀ (n k : Nat) (b2 b3 : Int) (W : List Wd), u < n + k → (k : Int) ≤ u → Bell b b2 → W.length = k → (∀ w ∈ W, okWd w) →
    Ok (made_l1 N n turns u k b b2 b3 g t W) fun z => z.1 = turns ∧ BelR b z.2.1 z.2.2.1 ∧ z.2.2.2.2.1 = g ∧ z.2.2.2.2.2.1 = t ∧ (z.2.2.2.2.2.2.length : Int) = u ∧ ∀ w ∈ z.2.2.2.2.2.2, okWd w
  | 0, k, b2, b3, W, h, _, _, _, _ => by omega
  | n + 1, k, b2, b3, W, h, hk, hb, hW, hw => by
    unfold made_l1
    refine Ok.brd (fun c => ?_) (fun c => Ok.some ⟨rfl, ⟨rfl, hb⟩, rfl, rfl, by dsimp only; omega, hw⟩)
    refine Ok.bind (strike_ok N hb (by omega)) ?_
    rintro ⟨x, c1, c2, c3⟩ ⟨hx, hc, hb1⟩
    dsimp only at hx hc hb1 ⊢
    obtain rfl := hc.symm
    refine Ok.bind (stroke_ok N hb1 (by omega)) ?_
    rintro ⟨y, d1, d2, d3⟩ ⟨hy, hc, hb2⟩
    dsimp only at hy hc hb2 ⊢
    obtain rfl := hc.symm
    refine Ok.bind (seldom_ok N hb2 (by omega)) ?_
    rintro ⟨z, e1, e2, e3⟩ ⟨hc, hb3⟩
    dsimp only at hc hb3 ⊢
    obtain rfl := hc.symm
    refine Ok.lim (by simp; omega) (Ok.chk (by omega) ?_)
    have := made_l1_p (turns := turns) (g := g) (t := t) hu n (k + 1) e2 e3 (W ++ [(x, y, !z)]) (by omega) (by omega) hb3 (by simp [hW]) (fun w hm => by
      rcases List.mem_append.1 hm with hm | hm
      · exact hw w hm
      · simp at hm; subst hm; exact ⟨by dsimp only; omega, by dsimp only; omega, by dsimp only; omega⟩)
    rw [show ((k + 1 : Nat) : Int) = (k : Int) + 1 by omega] at this
    exact this
theorem made_l2_p {u g t : Int} {W : List Wd} (hu : u ≤ 100) (hW : W.length ≤ 100) : ∀ (n k : Nat) (b2 b3 : Int) (X : List Tn), u < n + k → 0 < n → Bell b b2 → X.length ≤ k → k ≤ 1000 → (∀ x ∈ X, okTn W.length x) → ((X.length : Int) ≤ max u 0) →
    Ok (made_l2 N n u k b b2 b3 g t W X) fun z => BelR b z.1 z.2.1 ∧ z.2.2.2.1 = g ∧ z.2.2.2.2.1 = t ∧ z.2.2.2.2.2.1 = W ∧ ((z.2.2.2.2.2.2.length : Int) ≤ max u 0) ∧ ∀ x ∈ z.2.2.2.2.2.2, okTn W.length x
  | 0, k, b2, b3, X, h, h0, _, _, _, _, _ => by omega
  | n + 1, k, b2, b3, X, h, h0, hb, hX, hk, hx, hl => by
    unfold made_l2
    refine Ok.brd (fun c => ?_) (fun c => Ok.some ⟨⟨rfl, hb⟩, rfl, rfl, rfl, hl, hx⟩)
    refine Ok.brd (fun c => Ok.some ⟨⟨rfl, hb⟩, rfl, rfl, rfl, hl, hx⟩) (fun c2 => ?_)
    refine Ok.chk (by omega) (Ok.bind (stroke_ok N hb (by omega)) ?_)
    rintro ⟨lo, c1, c2', c3⟩ ⟨hlo, hc, hb1⟩
    dsimp only at hlo hc hb1 ⊢
    obtain rfl := hc.symm
    refine Ok.chk (by omega) (Ok.bind (stroke_ok N hb1 (by omega)) ?_)
    rintro ⟨y, d1, d2, d3⟩ ⟨hy, hc, hb2⟩
    dsimp only at hy hc hb2 ⊢
    obtain rfl := hc.symm
    refine Ok.chk (by omega) (Ok.chk (by omega) (Ok.bind (stroke_ok N hb2 (by omega)) ?_))
    rintro ⟨w, e1, e2, e3⟩ ⟨hw, hc, hb3⟩
    dsimp only at hw hc hb3 ⊢
    obtain rfl := hc.symm
    have hj : ∀ X', made_j1 N (made_l2 N n) u k b e2 e3 g t W X' = made_l2 N n u ((k + 1 : Nat) : Int) b e2 e3 g t W X' := fun X' => by
      unfold made_j1
      rw [chk_eq (by omega)]; rfl
    simp only [hj]
    have put : (w < lo ∨ min ((W.length : Int) - 1) (lo + y) < w) → Ok (lim (X.length + [(w, lo, min ((W.length : Int) - 1) (lo + y))].length) <| made_l2 N n u ((k + 1 : Nat) : Int) b e2 e3 g t W (X ++ [(w, lo, min ((W.length : Int) - 1) (lo + y))])) fun z => BelR b z.1 z.2.1 ∧ z.2.2.2.1 = g ∧ z.2.2.2.2.1 = t ∧ z.2.2.2.2.2.1 = W ∧ ((z.2.2.2.2.2.2.length : Int) ≤ max u 0) ∧ ∀ x ∈ z.2.2.2.2.2.2, okTn W.length x := fun hc => by
      refine Ok.lim (by simp; omega) ?_
      exact made_l2_p hu hW n (k + 1) e2 e3 _ (by omega) (by omega) hb3 (by simp; omega) (by omega) (fun x hm => by
        rcases List.mem_append.1 hm with hm | hm
        · exact hx x hm
        · simp at hm; subst hm
          unfold okTn; dsimp only; omega) (by simp; omega)
    refine Ok.brd (fun q => put (.inl q)) (fun q => Ok.brd (fun q2 => put (.inr q2)) (fun q2 => ?_))
    exact made_l2_p hu hW n (k + 1) e2 e3 X (by omega) (by omega) hb3 (by omega) (by omega) hx hl
theorem made_v (hN : 110 ≤ N) {words turns b2 b3 : Int} (hw : 1 ≤ words ∧ words ≤ 12) (ht : 0 ≤ turns ∧ turns ≤ 6) (hb : Bell b b2) :
    Ok (made_S N words turns b b2 b3) fun z => TFine z.1 z.2.1 z.2.2.1 ∧ (z.1.length : Int) ≤ words ∧ BelR b z.2.2.2.1 z.2.2.2.2.1 := by
  unfold made_S
  refine Ok.bind (strike_ok N hb (by omega)) ?_
  rintro ⟨x, c1, c2, c3⟩ ⟨hx, hc, hb1⟩
  dsimp only at hx hc hb1 ⊢
  obtain rfl := hc.symm
  refine Ok.bind (strike_ok N hb1 (by omega)) ?_
  rintro ⟨m, d1, d2, d3⟩ ⟨hm, hc, hb2⟩
  dsimp only at hm hc hb2 ⊢
  obtain rfl := hc.symm
  have e1 := made_l1_p (N := N) (turns := turns) (g := 0) (t := x) (u := m) (by omega) N 0 d2 d3 [] (by omega) (by omega) hb2 rfl (fun w h => by cases h)
  simp only [Int.natCast_zero] at e1
  refine Ok.bind e1 ?_
  rintro ⟨t', f1, f2, f3, g', x', W⟩ ⟨q1, ⟨q2, hb3⟩, q3, q4, hl, hW⟩
  dsimp only at q1 q2 q3 q4 hb3 hl hW ⊢
  obtain rfl := q1.symm
  obtain rfl := q2.symm
  obtain rfl := q3.symm
  obtain rfl := q4.symm
  refine Ok.bind (stroke_ok N hb3 (by omega)) ?_
  rintro ⟨k, h1, h2, h3⟩ ⟨hk, hc, hb4⟩
  dsimp only at hk hc hb4 ⊢
  obtain rfl := hc.symm
  have e2 := made_l2_p (N := N) (u := k) (g := 0) (t := x) (W := W) (by omega) (by omega) N 0 h2 h3 [] (by omega) (by omega) hb4 (by simp) (by omega) (fun x h => by cases h) (by simp; omega)
  simp only [Int.natCast_zero] at e2
  refine Ok.bind e2 ?_
  rintro ⟨i1, i2, i3, g'', x'', W', X⟩ ⟨⟨q2, hb5⟩, q3, q4, q5, hl2, hX⟩
  dsimp only at q2 q3 q4 q5 hb5 hl2 hX ⊢
  obtain rfl := q2.symm
  obtain rfl := q3.symm
  obtain rfl := q4.symm
  obtain rfl := q5.symm
  refine Ok.some ⟨⟨by dsimp only; omega, by dsimp only; omega, by dsimp only; omega, by dsimp only; omega, by dsimp only; omega, hW, hX⟩, by dsimp only; omega, rfl, hb5⟩
/-! ### Readings that are tried -/
theorem tried_l1_p {often : Int} (ho : 1 ≤ often ∧ often ≤ 3) {ws : List Wd} {ts : List Tn} {br_ : Int} (hw : 1 ≤ ws.length ∧ ws.length ≤ 12) : ∀ (n k : Nat) (x : Int) (b2 b3 : Int) (O : List Int), ws.length < n + k → k ≤ ws.length → Bell b b2 → O.length ≤ k → (∀ y ∈ O, 1 ≤ y ∧ y ≤ 12) → O.sum + x = k → 0 ≤ x ∧ x ≤ k → (k = ws.length → x = 0) →
    Ok (tried_l1 N n x often ws ws.length k b b2 b3 ws ts br_ O) fun z => BelR b z.1 z.2.1 ∧ (∀ y ∈ z.2.2.2, 1 ≤ y ∧ y ≤ 12) ∧ z.2.2.2.sum = ws.length
  | 0, k, x, b2, b3, O, h, _, _, _, _, _, _, _ => by omega
  | n + 1, k, x, b2, b3, O, h, hk, hb, hO, h12, hs, hx, hend => by
    unfold tried_l1
    refine Ok.brd (fun c => ?_) (fun c => Ok.some ⟨⟨rfl, hb⟩, h12, by have := hend (by omega); dsimp only; omega⟩)
    have c' : k < ws.length := by omega
    have hj : ∀ x' b b2 b3 O', tried_j1 N (tried_l1 N n) x' often ws ws.length k b b2 b3 ws ts br_ O' = tried_l1 N n x' often ws ws.length ((k + 1 : Nat) : Int) b b2 b3 ws ts br_ O' := fun x' b b2 b3 O' => by
      unfold tried_j1
      rw [chk_eq (by omega)]; rfl
    simp only [hj]
    refine Ok.idx (by omega) (by omega) (fun w _ _ => Ok.chk (by omega) (Ok.chk (by omega) ?_))
    have put : ∀ c2 c3, Bell b c2 → Ok (lim (O.length + [x + 1].length) <| tried_l1 N n 0 often ws ws.length ((k + 1 : Nat) : Int) b c2 c3 ws ts br_ (O ++ [x + 1])) fun z => BelR b z.1 z.2.1 ∧ (∀ y ∈ z.2.2.2, 1 ≤ y ∧ y ≤ 12) ∧ z.2.2.2.sum = ws.length := fun c2 c3 hc => by
      refine Ok.lim (by simp; omega) ?_
      exact tried_l1_p ho hw n (k + 1) 0 c2 c3 _ (by omega) (by omega) hc (by simp; omega) (fun y hy => by
        rcases List.mem_append.1 hy with hy | hy
        · exact h12 y hy
        · simp at hy; subst hy; omega) (by simp; omega) (by omega) (fun _ => rfl)
    have go : ∀ c2 c3, Bell b c2 → ¬ (k : Int) = (ws.length : Int) - 1 → Ok (tried_l1 N n (x + 1) often ws ws.length ((k + 1 : Nat) : Int) b c2 c3 ws ts br_ O) fun z => BelR b z.1 z.2.1 ∧ (∀ y ∈ z.2.2.2, 1 ≤ y ∧ y ≤ 12) ∧ z.2.2.2.sum = ws.length := fun c2 c3 hc hne =>
      tried_l1_p ho hw n (k + 1) (x + 1) c2 c3 O (by omega) (by omega) hc (by omega) h12 (by omega) (by omega) (fun e => by omega)
    have last : ∀ c2 c3, Bell b c2 → ¬ (k : Int) = (ws.length : Int) - 1 → Ok ((seldom_S N 12 b c2 c3).bind fun (x_14, y_15, y_16, y_17) => br x_14 (lim (O.length + [x + 1].length) <| tried_l1 N n 0 often ws ws.length ((k + 1 : Nat) : Int) y_15 y_16 y_17 ws ts br_ (O ++ [x + 1])) (tried_l1 N n (x + 1) often ws ws.length ((k + 1 : Nat) : Int) y_15 y_16 y_17 ws ts br_ O)) fun z => BelR b z.1 z.2.1 ∧ (∀ y ∈ z.2.2.2, 1 ≤ y ∧ y ≤ 12) ∧ z.2.2.2.sum = ws.length := fun c2 c3 hc hne => by
      refine Ok.bind (seldom_ok N hc (by omega)) ?_
      rintro ⟨z, e1, e2, e3⟩ ⟨hc, hb3⟩
      dsimp only at hc hb3 ⊢
      obtain rfl := hc.symm
      exact Ok.br (fun _ => put e2 e3 hb3) (fun _ => go e2 e3 hb3 hne)
    refine Ok.brd (fun _ => put b2 b3 hb) (fun hne => Ok.br (fun _ => ?_) (fun _ => last b2 b3 hb hne))
    refine Ok.bind (seldom_ok N hb (by omega)) ?_
    rintro ⟨z, e1, e2, e3⟩ ⟨hc, hb3⟩
    dsimp only at hc hb3 ⊢
    obtain rfl := hc.symm
    exact Ok.br (fun _ => put e2 e3 hb3) (fun _ => last e2 e3 hb3 hne)
theorem tried_v (hN : 110 ≤ N) {ws : List Wd} {ts : List Tn} {br_ b2 b3 : Int} (hw : 1 ≤ ws.length ∧ ws.length ≤ 12) (hb : Bell b b2) :
    Ok (tried_S N ws ts br_ b b2 b3) fun z => ((∀ y ∈ z.1, 1 ≤ y ∧ y ≤ 12) ∧ z.1.sum = ws.length) ∧ BelR b z.2.1 z.2.2.1 := by
  unfold tried_S
  refine Ok.bind (strike_ok N hb (by omega)) ?_
  rintro ⟨x, c1, c2, c3⟩ ⟨hx, hc, hb1⟩
  dsimp only at hx hc hb1 ⊢
  obtain rfl := hc.symm
  have e := tried_l1_p (N := N) (often := x) (by omega) (ws := ws) (ts := ts) (br_ := br_) hw N 0 0 c2 c3 [] (by omega) (by omega) hb1 (by simp) (fun y h => by cases h) (by simp) (by omega) (fun _ => rfl)
  simp only [Int.natCast_zero] at e
  refine Ok.bind e ?_
  rintro ⟨d1, d2, d3, O⟩ ⟨⟨q2, hb2⟩, h1, h2⟩
  dsimp only at q2 hb2 h1 h2 ⊢
  obtain rfl := q2.symm
  exact Ok.some ⟨⟨h1, h2⟩, rfl, hb2⟩
end
end Go.Proofs.Ytfamlpbdhhikdaa

namespace Go.Proofs.Ytfamlpbdhhikdaa
set_option linter.all false
open Go

theorem ixfls_gen (N : Nat) (a b : Int) : ∀ (n : Nat) (l : List Tn) (u u2 : Int), ixfls_l1 N n l a b u u2 = ixL (fun x => lsays1_S N x.1 x.2.1 x.2.2 a b) n l u u2
  | 0, _, _, _ => rfl
  | n + 1, l, u, u2 => by unfold ixfls_l1 ixL; simp only [ixfls_gen N a b n]
section
variable {N : Nat} {ws : List Wd} {ts : List Tn} {br_ : Int}
theorem lsays_v (ht : ts.length ≤ 1000) (hN : ts.length < N) (a b : Int) : lsays_S N ws ts br_ a b = some (ts.any (turnP a b)) := by
  have h := ixS_any (f := fun x : Tn => lsays1_S N x.1 x.2.1 x.2.2 a b) (p := turnP a b) (s := ts) (N := N) (fun x _ => by
    unfold lsays1_S turnP
    by_cases h1 : a ≤ x.2.1 <;> by_cases h2 : x.2.2 < b <;> by_cases h3 : x.1 < a <;> by_cases h4 : b ≤ x.1 <;> simp [br, h1, h2, h3, h4] <;> omega) (by omega) hN
  unfold lsays_S cofls_S ixfls_S
  unfold ixS at h
  rw [ixfls_gen]
  rw [show ∀ (o : Option Bool), (o.bind fun x => some x) = o from fun o => by cases o <;> rfl]
  exact h
theorem turnL_any (a b : Int) : decide (0 < ((turnL ts a b).length : Int)) = ts.any (turnP a b) := by
  rw [Bool.eq_iff_iff, decide_eq_true_eq, List.any_eq_true]
  constructor
  · intro h
    obtain ⟨x, hx⟩ := List.exists_mem_of_length_pos (l := turnL ts a b) (by omega)
    unfold turnL turnK at hx
    simp only [List.mem_map, List.mem_filter, List.mem_range] at hx
    obtain ⟨i, ⟨hi, hp⟩, _⟩ := hx
    exact ⟨_, getD_mem hi, hp⟩
  · rintro ⟨x, hx, hp⟩
    obtain ⟨i, hi, rfl⟩ := List.getElem_of_mem hx
    have : (i : Int) ∈ turnL ts a b := mem_turnK.2 ⟨hi, by simpa [List.getD, hi] using hp⟩
    have := List.length_pos_of_mem this
    omega
theorem rightR_eq (a b : Nat) : rightR ws ts br_ a b = (decide (sylR ws a b ≤ br_) && (stopR ws a && (stopR ws b && !(ts.any (turnP a b))))) := by
  unfold rightR faultR
  rw [turnL_any]
  by_cases c : br_ < sylR ws a b
  · rw [if_pos c, decide_eq_false (by omega)]; rfl
  · rw [if_neg c, decide_eq_true (by omega)]
    cases stopR ws a <;> cases stopR ws b <;> simp
theorem fits_l1_p {f t : Int} {u : List Wd} (hu : u.length ≤ 100) (hw : ∀ w ∈ u, 0 ≤ w.1 ∧ w.1 ≤ 1000) : ∀ (n k : Nat) (s : Int), u.length < n + k → k ≤ u.length → 0 ≤ s ∧ s ≤ 1000 * k → fits_l1 N n f t s u u.length k ws ts br_ = some (f, t, s + ((u.drop k).map (·.1)).sum, ws, ts, br_)
  | 0, k, s, h, hk, _ => by omega
  | n + 1, k, s, h, hk, hs => by
    unfold fits_l1
    by_cases hlt : k < u.length
    · rw [br_dec (by omega), idx_eq (by omega) (gets hlt (0, 0, false))]
      have hm := hw _ (getD_mem (d := (0, 0, false)) hlt)
      rw [drop_cons hlt (0, 0, false)]
      generalize u.getD k (0, 0, false) = x at *
      rw [chk_eq (by omega), chk_eq (by omega)]
      have := fits_l1_p (f := f) (t := t) hu hw n (k + 1) (s + x.1) (by omega) (by omega) (by omega)
      rw [show ((k + 1 : Nat) : Int) = (k : Int) + 1 by omega] at this
      rw [this]
      simp only [List.map_cons, List.sum_cons, Int.add_assoc]
    · rw [br_ndec (by omega), List.drop_of_length_le (by omega)]
      simp
variable (hN : 110 ≤ N) (hF : TFine ws ts br_)
include hN hF
theorem fits_v {a b : Nat} (hab : a < b) (hb : b ≤ ws.length) : fits_S N ws ts br_ a b = some (rightR ws ts br_ a b) := by
  have hn := hF.n; have ht := hF.t
  obtain ⟨h1, h2⟩ := okW_iff.1 hF.okW
  have hl : ((ws.take b).drop a).length ≤ 100 := by simp only [List.length_drop, List.length_take]; omega
  have e := fits_l1_p (N := N) (ws := ws) (ts := ts) (br_ := br_) (f := (a : Int)) (t := (b : Int)) (u := (ws.take b).drop a) hl (take_drop_mem h2 _ _) N 0 0 (by omega) (by omega) (by omega)
  simp only [Int.natCast_zero, List.drop_zero, Int.zero_add] at e
  have hst : ∀ p : Nat, 1 ≤ p → p ≤ ws.length → ws[((p : Int) - 1).toNat]? = some (ws.getD (p - 1) (0, 0, false)) := fun p h3 h4 => by
    rw [show (p : Int) - 1 = ((p - 1 : Nat) : Int) by omega]
    exact gets (l := ws) (by omega) _
  unfold fits_S
  rw [grd_eq (by simp; omega)]
  simp only [Int.toNat_natCast]
  rw [e]
  simp only [Option.bind_some]
  rw [rightR_eq, lsays_v (by omega) (by omega)]
  simp only [Option.bind_some]
  change br (decide (sylR ws a b ≤ br_)) _ _ = _
  by_cases c : sylR ws a b ≤ br_
  rotate_left
  · rw [br_ndec c, decide_eq_false c]; rfl
  rw [br_dec c, decide_eq_true c]
  by_cases c1 : a = 0
  · subst c1
    rw [br_dec (by omega)]
    by_cases c2 : b = ws.length
    · rw [br_dec (by omega)]; simp [stopR, c2]
    · rw [br_ndec (by omega), chk_eq (by omega), idx_eq (by omega) (hst b (by omega) hb)]
      have : stopR ws b = (ws.getD (b - 1) (0, 0, false)).2.2 := by
        unfold stopR; simp [c2, show ¬ b = 0 by omega]
      rw [← this]
      cases stopR ws b <;> simp [br, stopR]
  · rw [br_ndec (by omega), chk_eq (by omega), idx_eq (by omega) (hst a (by omega) (by omega))]
    have ea : stopR ws a = (ws.getD (a - 1) (0, 0, false)).2.2 := by
      unfold stopR; simp [show ¬ a = ws.length by omega, c1]
    rw [← ea]
    cases stopR ws a
    · rfl
    rw [br_true]
    by_cases c2 : b = ws.length
    · rw [br_dec (by omega)]; simp [stopR, c2]
    · rw [br_ndec (by omega), chk_eq (by omega), idx_eq (by omega) (hst b (by omega) hb)]
      have : stopR ws b = (ws.getD (b - 1) (0, 0, false)).2.2 := by
        unfold stopR; simp [c2, show ¬ b = 0 by omega]
      rw [← this]
      cases stopR ws b <;> simp [br]
omit hN hF
/-! ### Places -/
/-- A reading of a text. -/
def readB (m : Nat) (l : List Int) : Bool := l.all (fun x => decide (1 ≤ x)) && decide (l.sum = m)
theorem sum_nonneg {l : List Int} (h : l.all (fun x => decide (1 ≤ x)) = true) : (l.length : Int) ≤ l.sum := by
  induction l with
  | nil => simp
  | cons a l ih =>
    simp only [List.all_cons, Bool.and_eq_true, decide_eq_true_eq] at h
    have := ih h.2
    rw [List.sum_cons, List.length_cons]; omega
theorem psums_len : ∀ (l : List Int) (a : Int), (psums a l).length = l.length
  | [], _ => rfl
  | x :: l, a => by rw [psums, List.length_cons, psums_len l, List.length_cons]
theorem places_l1_p (hn : ws.length ≤ 1000) {l : List Int} (hl : l.length ≤ 100000) : ∀ (n k a : Nat) (O : List Int), l.length < n + k → k ≤ l.length → O.length = k + 1 → O.getD k 0 = a → k ≤ a → a ≤ ws.length →
    places_l1 N n l l.length k ws ts br_ O = some (if ((l.drop k).all (fun x => decide (1 ≤ x)) && decide ((a : Int) + (l.drop k).sum ≤ ws.length)) = true then .inr (ws, ts, br_, O ++ psums a (l.drop k)) else .inl ())
  | 0, k, a, O, h, _, _, _, _, _ => by omega
  | n + 1, k, a, O, h, hk, hO, ha, hka, han => by
    by_cases c : k < l.length
    · have g := gets c 0
      have hd := drop_cons c 0
      rw [hd]
      generalize l.getD k 0 = x at *
      have gO : ((O.length : Int) - 1).toNat = k := by omega
      rw [places_l1, br_dec (by omega), idx_eq (by omega) g, chk_eq (by omega), rng_eq (by omega), gO, get_get 0 (by omega), ha]
      by_cases d : x < 1
      · rw [br_dec d, List.all_cons, decide_eq_false (by omega)]; rfl
      · rw [br_ndec d, chk_eq (by omega)]
        by_cases e : (ws.length : Int) - a < x
        · rw [br_dec e, if_neg]
          intro hc
          simp only [Bool.and_eq_true, decide_eq_true_eq, List.all_cons, List.sum_cons] at hc
          obtain ⟨⟨_, h5⟩, h6⟩ := hc
          have h7 := sum_nonneg h5
          have h8 := of_decide_eq_true h6
          omega
        · obtain ⟨y, rfl⟩ : ∃ y : Nat, x = y := ⟨x.toNat, (Int.toNat_of_nonneg (by omega)).symm⟩
          have ih := places_l1_p hn hl n (k + 1) (a + y) (O ++ [((a + y : Nat) : Int)]) (by omega) (by omega) (by simp [hO]) (by
            have : (O ++ [((a + y : Nat) : Int)])[k + 1]? = some ((a + y : Nat) : Int) := by rw [← hO]; simp
            rw [List.getD_eq_getElem?_getD, this]; rfl) (by omega) (by omega)
          rw [show ((k + 1 : Nat) : Int) = (k : Int) + 1 by omega, show ((a + y : Nat) : Int) = (a : Int) + y by omega] at ih
          rw [br_ndec e, chk_eq (by omega), rng_eq (by omega), get_get 0 (by omega), ha, chk_eq (by omega), lim_eq (by simp; omega), chk_eq (by omega), ih, List.all_cons, decide_eq_true (show 1 ≤ (y : Int) by omega), Bool.true_and, List.sum_cons, psums, Int.add_assoc, List.append_assoc]
          rfl
    · rw [places_l1, br_ndec (by omega), List.drop_of_length_le (by omega)]
      simp [psums]; omega
theorem last_psums : ∀ (l : List Int) (a : Int), (a :: psums a l).getD l.length 0 = a + l.sum
  | [], a => by simp [psums, List.getD]
  | x :: l, a => by
    have := last_psums l (a + x)
    rw [psums, List.length_cons, List.getD_cons_succ, this, List.sum_cons]; omega
theorem places_v (hn : ws.length ≤ 1000) {l : List Int} (hl : l.length ≤ 1000) (hN : l.length < N) : places_S N ws ts br_ l = some (if readB ws.length l = true then 0 :: psums 0 l else []) := by
  have e := places_l1_p (N := N) (ts := ts) (br_ := br_) hn (l := l) (by omega) N 0 0 [0] (by omega) (by omega) rfl rfl (by omega) (by omega)
  simp only [Int.natCast_zero, List.drop_zero, Int.zero_add] at e
  unfold places_S readB
  rw [e]
  cases c : l.all (fun x => decide (1 ≤ x))
  · rfl
  simp only [Bool.true_and, decide_eq_true_eq]
  by_cases d : l.sum ≤ ws.length
  · rw [if_pos d]
    simp only [Option.bind_some]
    have hlen : ([(0 : Int)] ++ psums 0 l).length = l.length + 1 := by simp [psums_len]
    have hlast := last_psums l 0
    have gi : (((([(0 : Int)] ++ psums 0 l).length : Nat) : Int) - 1).toNat = l.length := by omega
    rw [chk_eq (by omega), rng_eq (by omega), gi, get_get 0 (by omega), show ([(0 : Int)] ++ psums 0 l) = 0 :: psums 0 l from rfl, hlast, Int.zero_add]
    by_cases f : l.sum = ws.length
    · rw [br_nd f, if_pos f]
    · rw [br_nnd f, if_neg f]
  · rw [if_neg d, if_neg (by omega)]; rfl
/-! ### Right readings -/
theorem good_readB (hm : ws.length ≤ 12) {R : Nat → Nat → Bool} : ∀ {l : List Int} {p : Nat}, goodB R ws.length p l = true → l.all (fun x => decide (1 ≤ x)) = true ∧ (p : Int) + l.sum = ws.length
  | [], p, h => by have := good_nil.1 h; simp; omega
  | x :: l, p, h => by
    obtain ⟨⟨b1, b2⟩, _, b4⟩ := good_cons.1 h
    obtain ⟨c1, c2⟩ := good_readB hm b4
    refine ⟨?_, by rw [List.sum_cons]; omega⟩
    rw [List.all_cons, c1, decide_eq_true b1]; rfl
include hN hF
theorem sound_l1_p {l P : List Int} {u : Int} (hl : l.length ≤ 1000) (hu : u = l.length) : ∀ (n k a : Nat), l.length < n + k → k ≤ l.length → P.drop k = (a : Int) :: psums a (l.drop k) → (l.drop k).all (fun x => decide (1 ≤ x)) = true → (a : Int) + (l.drop k).sum = ws.length →
    sound_l1 N n P u k ws ts br_ = some (if goodB (rightR ws ts br_) ws.length a (l.drop k) = true then .inr P else .inl ())
  | 0, k, a, h, _, _, _, _ => by omega
  | n + 1, k, a, h, hk, hP, h1, hs => by
    have hn := hF.n
    by_cases c : k < l.length
    · have hd := drop_cons c 0
      rw [hd] at hP h1 hs ⊢
      have hge : ((l.drop (k + 1)).length : Int) ≤ (l.drop (k + 1)).sum := by
        rw [List.all_cons, Bool.and_eq_true] at h1
        exact sum_nonneg h1.2
      generalize l.getD k 0 = x at *
      simp only [List.all_cons, Bool.and_eq_true, decide_eq_true_eq] at h1
      rw [List.sum_cons] at hs
      rw [psums] at hP
      obtain ⟨y, rfl⟩ : ∃ y : Nat, x = y := ⟨x.toNat, (Int.toNat_of_nonneg (by omega)).symm⟩
      have g0 : P[((k : Nat) : Int).toNat]? = some (a : Int) := by
        have := congrArg (fun L => L[0]?) hP
        simpa using this
      have g1 : P[(((k : Nat) : Int) + 1).toNat]? = some ((a : Int) + y) := by
        have := congrArg (fun L => L[1]?) hP
        rw [show (((k : Nat) : Int) + 1).toNat = k + 1 by omega]
        simpa using this
      have hP2 : P.drop (k + 1) = ((a + y : Nat) : Int) :: psums ((a + y : Nat) : Int) (l.drop (k + 1)) := by
        have := congrArg (fun L => L.drop 1) hP
        simpa [List.drop_drop] using this
      have ih := sound_l1_p hl hu n (k + 1) (a + y) (by omega) (by omega) hP2 h1.2 (by omega)
      rw [show ((k + 1 : Nat) : Int) = (k : Int) + 1 by omega] at ih
      rw [sound_l1, br_dec (by omega), idx_eq (by omega) g0, chk_eq (by omega), idx_eq (by omega) g1, show (a : Int) + y = ((a + y : Nat) : Int) by omega, fits_v hN hF (by omega) (by omega)]
      simp only [Option.bind_some]
      have eg : goodB (rightR ws ts br_) ws.length a ((y : Int) :: l.drop (k + 1)) = (rightR ws ts br_ a (a + y) && goodB (rightR ws ts br_) ws.length (a + y) (l.drop (k + 1))) := by
        rw [goodB, Int.toNat_natCast, decide_eq_true h1.1, decide_eq_true (show a + y ≤ ws.length by omega)]; rfl
      rw [eg]
      cases hr : rightR ws ts br_ a (a + y)
      · rfl
      · rw [Bool.not_true, br_false, chk_eq (by omega), ih]; rfl
    · have hd : l.drop k = [] := List.drop_of_length_le (by omega)
      rw [hd] at hs ⊢
      rw [sound_l1, br_ndec (by omega), if_pos]
      rw [good_nil]; simp at hs; omega
theorem sound_v {l : List Int} (hl : l.length ≤ 100) : sound_S N ws ts br_ l = some (goodB (rightR ws ts br_) ws.length 0 l) := by
  have hn := hF.n; have hn0 := hF.n0
  unfold sound_S
  rw [places_v (by omega) (by omega) (by omega)]
  simp only [Option.bind_some]
  by_cases c : readB ws.length l = true
  · rw [if_pos c]
    unfold readB at c
    simp only [Bool.and_eq_true, decide_eq_true_eq] at c
    have hpl := psums_len l 0
    have hlen : (0 :: psums 0 l).length = l.length + 1 := by simp [psums_len]
    have e : ((((0 : Int) :: psums 0 l).length : Nat) : Int) - 1 = l.length := by omega
    rw [chk_eq (by omega), e, grd_eq (by simp; omega)]
    have e2 : (max 0 (l.length : Int)).toNat = l.length := by omega
    rw [e2]
    have e1 := sound_l1_p hN hF (l := l) (P := 0 :: psums 0 l) (u := (((((0 : Int) :: psums 0 l).take l.length).length : Nat) : Int)) (by omega) (by rw [List.length_take]; omega) N 0 0 (by omega) (by omega) (by simp) (by simpa using c.1) (by simpa using c.2)
    simp only [Int.natCast_zero, List.drop_zero] at e1
    rw [e1]
    cases hg : goodB (rightR ws ts br_) ws.length 0 l
    · rfl
    · simp only [if_true, Option.bind_some]
      have : l ≠ [] := fun e => by subst e; have := good_nil.1 hg; omega
      have := List.length_pos_iff.2 this
      rw [decide_eq_true (by omega)]
  · rw [if_neg c]
    have e1 : sound_l1 N N [] 0 0 ws ts br_ = some (.inr []) := by
      obtain ⟨M, rfl⟩ : ∃ M, N = M + 1 := ⟨N - 1, by omega⟩
      rw [sound_l1, br_ndec (by omega)]
    simp only [List.length_nil, Int.natCast_zero]
    rw [chk_eq (by omega), grd_eq (by decide)]
    simp only [List.take_nil, List.length_nil, Int.natCast_zero]
    rw [e1]
    cases hg : goodB (rightR ws ts br_) ws.length 0 l
    · rfl
    · exfalso
      refine c ?_
      obtain ⟨h1, h2⟩ := good_readB (by omega) hg
      unfold readB
      rw [h1, decide_eq_true (by simpa using h2)]; rfl
end
end Go.Proofs.Ytfamlpbdhhikdaa

namespace Go.Proofs.Ytfamlpbdhhikdaa
set_option linter.all false
open Go

section
variable {N : Nat} {ws : List Wd} {ts : List Tn} {br_ : Int} (hN : 110 ≤ N) (hF : TFine ws ts br_)
include hN hF
end
end Go.Proofs.Ytfamlpbdhhikdaa

namespace Go.Proofs.Ytfamlpbdhhikdaa
set_option linter.all false
open Go

/-! ### Runs that no turn is said otherwise by -/
def runsAll (ts : List Tn) : Int → List Int → Bool
  | _, [] => true
  | f, x :: r => !((psums f (x :: r)).any fun s => ts.any (turnP f s)) && runsAll ts (f + x) r
theorem runsAll_iff {ts : List Tn} : ∀ (l : List Int) (f : Int), runsAll ts f l = true ↔ ∀ x ∈ ts, runsOK (fun a b => turnP a b x) f l
  | [], f => by simp [runsAll, runsOK]
  | y :: r, f => by
    have ih := runsAll_iff (ts := ts) r (f + y)
    rw [runsAll, Bool.and_eq_true, ih]
    simp only [Bool.not_eq_true', List.any_eq_false]
    constructor
    · rintro ⟨h1, h2⟩ x hx
      refine ⟨fun s hs => ?_, h2 x hx⟩
      have h3 := h1 s hs
      rw [Bool.not_eq_true, List.any_eq_false] at h3
      simpa using h3 x hx
    · intro h
      refine ⟨fun s hs => ?_, fun x hx => (h x hx).2⟩
      rw [Bool.not_eq_true, List.any_eq_false]
      intro x hx
      have := (h x hx).1 s hs
      simpa using this
theorem runsAll_trn {ts : List Tn} {l : List Int} : runsAll ts 0 l = (trnF l ts 0).isNone := by
  rw [Bool.eq_iff_iff, runsAll_iff, Option.isNone_iff_eq_none, trnF_none]
section
variable {N : Nat} {ws : List Wd} {ts : List Tn} {br_ : Int} (hN : 110 ≤ N) (ht : ts.length ≤ 100)
include hN ht
theorem lsure_l2_p {P u : List Int} {f u2 u3 : Int} {Q : List Int} (hQ : Q.length ≤ 1000) : ∀ (n k : Nat), Q.length < n + k → k ≤ Q.length →
    lsure_l2 N n P f u u2 u3 Q Q.length k ws ts br_ = some (if ((Q.drop k).any fun s => ts.any (turnP f s)) = true then .inl () else .inr (P, u, u2, u3, ws, ts, br_))
  | 0, k, h, _ => by omega
  | n + 1, k, h, hk => by
    by_cases c : k < Q.length
    · have g := gets c 0
      rw [drop_cons c 0, List.any_cons]
      generalize Q.getD k 0 = x at *
      have ih := lsure_l2_p (P := P) (u := u) (f := f) (u2 := u2) (u3 := u3) hQ n (k + 1) (by omega) (by omega)
      rw [show ((k + 1 : Nat) : Int) = (k : Int) + 1 by omega] at ih
      rw [lsure_l2, br_dec (by omega), idx_eq (by omega) g, lsays_v (by omega) (by omega)]
      simp only [Option.bind_some]
      cases ts.any (turnP f x)
      · rw [br_false, chk_eq (by omega), ih, Bool.false_or]
      · rfl
    · rw [lsure_l2, br_ndec (by omega), List.drop_of_length_le (by omega)]; rfl
theorem lsure_l1_p {l P : List Int} (hl : l.length ≤ 900) (hNl : l.length + 2 < N) (hPl : P.length = l.length + 1) : ∀ (n k : Nat) (a : Int), l.length + 1 < n + k → k ≤ l.length → P.drop k = a :: psums a (l.drop k) →
    lsure_l1 N n P P P.length k ws ts br_ = some (if runsAll ts a (l.drop k) = true then .inr P else .inl ())
  | 0, k, a, h, _, _ => by omega
  | n + 1, k, a, h, hk, hP => by
    have g0 : P[((k : Nat) : Int).toNat]? = some a := by
      have := congrArg (fun L => L[0]?) hP
      simpa using this
    have hP1 : P.drop (k + 1) = psums a (l.drop k) := by
      have := congrArg (fun L => L.drop 1) hP
      simpa [List.drop_drop] using this
    have e2 := lsure_l2_p (ws := ws) (br_ := br_) hN ht (P := P) (u := P) (f := a) (u2 := (P.length : Int)) (u3 := (k : Int)) (Q := P.drop (k + 1)) (by simp; omega) N 0 (by simp; omega) (by omega)
    simp only [Int.natCast_zero, List.drop_zero] at e2
    rw [lsure_l1, br_dec (by omega), idx_eq (by omega) g0, chk_eq (by omega), grd_eq (by simp; omega), show ((k : Int) + 1).toNat = k + 1 by omega, e2, hP1]
    by_cases c : k < l.length
    · have hd := drop_cons c 0
      rw [hd] at hP hP1 ⊢
      generalize l.getD k 0 = x at *
      rw [psums] at hP
      have hP2 : P.drop (k + 1) = (a + x) :: psums (a + x) (l.drop (k + 1)) := by rw [hP1, psums]
      have ih := lsure_l1_p hl hNl hPl n (k + 1) (a + x) (by omega) (by omega) hP2
      rw [show ((k + 1 : Nat) : Int) = (k : Int) + 1 by omega] at ih
      rw [runsAll]
      cases (psums a (x :: l.drop (k + 1))).any fun s => ts.any (turnP a s)
      · simp only [Bool.false_eq_true, if_false, Option.bind_some, Bool.not_false, Bool.true_and]
        rw [chk_eq (by omega), ih]
      · rfl
    · have hd : l.drop k = [] := List.drop_of_length_le (by omega)
      rw [hd]
      simp only [psums, List.any_nil, Bool.false_eq_true, if_false, Option.bind_some, runsAll, if_true]
      obtain ⟨M, rfl⟩ : ∃ M, n = M + 1 := ⟨n - 1, by omega⟩
      rw [chk_eq (by omega), lsure_l1, br_ndec (by omega)]
theorem lsure_v {l : List Int} (hl : l.length ≤ 100) (hn : ws.length ≤ 12) (h1 : 1 ≤ ws.length) {R : Nat → Nat → Bool} (hg : goodB R ws.length 0 l = true) : lsure_S N ws ts br_ l = some (trnF l ts 0).isNone := by
  obtain ⟨g1, g2⟩ := good_readB (by omega) hg
  have c : readB ws.length l = true := by
    unfold readB
    rw [g1, decide_eq_true (by simpa using g2)]; rfl
  have hpl := psums_len l 0
  have e1 := lsure_l1_p (ws := ws) (br_ := br_) hN ht (l := l) (P := 0 :: psums 0 l) (by omega) (by omega) (by simp [hpl]) N 0 0 (by omega) (by omega) (by simp)
  simp only [Int.natCast_zero, List.drop_zero] at e1
  have : l ≠ [] := fun e => by subst e; have := good_nil.1 hg; omega
  have := List.length_pos_iff.2 this
  unfold lsure_S
  rw [places_v (by omega) (by omega) (by omega), if_pos c]
  simp only [Option.bind_some]
  rw [e1, runsAll_trn]
  cases (trnF l ts 0).isNone
  · rfl
  · simp only [if_true, Option.bind_some]
    rw [decide_eq_true (by simp [hpl]; omega)]
end
/-! ### Turns that are parted -/
theorem psums_init {R : Nat → Nat → Bool} {m : Nat} : ∀ {l : List Int} {a : Nat}, goodB R m a l = true → ∀ s, s ∈ (psums a l).take (l.length - 1) ↔ s ∈ psums a l ∧ s < m
  | [], a, _, s => by simp [psums]
  | x :: l, a, h, s => by
    obtain ⟨⟨b1, b2⟩, b3, b4⟩ := good_cons.1 h
    have e : (a : Int) + x = ((a + x.toNat : Nat) : Int) := by omega
    have ih := psums_init b4 s
    rw [psums, e]
    cases l with
    | nil =>
      have := good_nil.1 b4
      simp [psums]; omega
    | cons y l =>
      have hb := psums_le b4 _ (psums_last b4 (by simp))
      rw [show (x :: y :: l).length - 1 = ((y :: l).length - 1) + 1 by simp, List.take_succ_cons, List.mem_cons, List.mem_cons, ih]
      constructor
      · rintro (rfl | h1)
        · exact ⟨.inl rfl, by omega⟩
        · exact ⟨.inr h1.1, h1.2⟩
      · rintro ⟨rfl | h1, h2⟩
        · exact .inl rfl
        · exact .inr ⟨h1, h2⟩
theorem ixfts_gen (N : Nat) (x : Tn) : ∀ (n : Nat) (l : List Int) (u u2 : Int), ixfts_l1 N n l x u u2 = ixL (fun s => tsure1_S N s x) n l u u2
  | 0, _, _, _ => rfl
  | n + 1, l, u, u2 => by unfold ixfts_l1 ixL; simp only [ixfts_gen N x n]
theorem cofts_v {N : Nat} {l : List Int} {x : Tn} (hl : l.length ≤ 1000) (hN : l.length < N) : cofts_S N l x = some (l.any fun s => partP s x) := by
  have h := ixS_any (f := fun s : Int => tsure1_S N s x) (p := fun s => partP s x) (s := l) (N := N) (fun s _ => by
    unfold tsure1_S partP
    by_cases h1 : x.1 < s <;> by_cases h2 : s ≤ x.2.1 <;> by_cases h3 : x.2.2 < s <;> by_cases h4 : s ≤ x.1 <;> simp [br, h1, h2, h3, h4]) (by omega) hN
  unfold cofts_S ixfts_S
  unfold ixS at h
  rw [ixfts_gen]
  exact h
/-- The first turn that is parted. -/
def apartF (I : List Int) : List Tn → Int → Int
  | [], _ => -1
  | x :: r, k => if (I.any fun s => partP s x) = true then k else apartF I r (k + 1)
section
variable {ws : List Wd} {ts : List Tn} {br_ : Int}
theorem runs_iff {R : Nat → Nat → Bool} {x : Tn} (hx : okTn ws.length x) {l : List Int} (h : goodB R ws.length 0 l = true) (hl : l ≠ []) : runsOK (fun a b => turnP a b x) 0 l ↔ (((psums 0 l).take (l.length - 1)).any fun s => partP s x) = false := by
  rw [List.any_eq_false]
  constructor
  · intro h2 s hs
    obtain ⟨hs, hl⟩ := (psums_init h s).1 hs
    rw [Bool.not_eq_true]
    have hb := psums_le h s hs
    have e1 := runs_end h h2 s hs hl
    cases l with
    | nil => simp [psums] at hs
    | cons y l =>
      have e2 := h2.1 s hs
      cases hp : partP s x
      · rfl
      · exfalso
        unfold okTn at hx
        simp only [partP, Bool.or_eq_true, Bool.and_eq_true, decide_eq_true_eq] at hp
        simp only [turnP] at e1 e2
        simp at e1 e2
        omega
  · intro hs
    refine runs_ok hx h (.inl rfl) (fun s h1 h2 => ?_)
    have := hs s ((psums_init h s).2 ⟨h1, h2⟩)
    simpa using this
theorem inF_some {q : Int → Bool} : ∀ (r : List Int) (to b c : Int), inF q r to b = some c → ∃ j : Nat, c = b + j ∧ j < r.length ∧ q (to + (r.take (j + 1)).sum) = true
  | [], to, b, c, h => by simp [inF] at h
  | x :: r, to, b, c, h => by
    rw [inF] at h
    split at h
    · rename_i hq
      cases h
      exact ⟨0, by omega, by simp, by simpa using hq⟩
    · obtain ⟨j, h1, h2, h3⟩ := inF_some r _ _ _ h
      exact ⟨j + 1, by omega, by simp; omega, by rw [List.take_succ_cons, List.sum_cons, ← Int.add_assoc]; exact h3⟩
theorem outF_some {p : Int → Int → Bool} : ∀ (r : List Int) (f a : Int) (u v : Int), outF p r f a = some (u, v) → ∃ i j : Nat, u = a + i ∧ v = a + j ∧ i ≤ j ∧ j < r.length ∧ p (f + (r.take i).sum) (f + (r.take (j + 1)).sum) = true
  | [], f, a, u, v, h => by simp [outF] at h
  | x :: r, f, a, u, v, h => by
    rw [outF] at h
    cases hi : inF (p f) (x :: r) f a with
    | some b =>
      rw [hi] at h
      cases h
      obtain ⟨j, h1, h2, h3⟩ := inF_some _ _ _ _ hi
      exact ⟨0, j, by omega, by omega, by omega, h2, by simpa using h3⟩
    | none =>
      rw [hi] at h
      obtain ⟨i, j, h1, h2, h3, h4, h5⟩ := outF_some r _ _ _ _ h
      refine ⟨i + 1, j + 1, by omega, by omega, by omega, by simp; omega, ?_⟩
      rw [List.take_succ_cons, List.sum_cons, List.take_succ_cons, List.sum_cons, ← Int.add_assoc, ← Int.add_assoc]
      exact h5
theorem trn_apart {R : Nat → Nat → Bool} {l : List Int} (h : goodB R ws.length 0 l = true) (hl : l ≠ []) : ∀ (X : List Tn) (k : Nat), (∀ x ∈ X, okTn ws.length x) →
    match trnF l X k with
    | some (t, u, v) => apartF ((psums 0 l).take (l.length - 1)) X k = t ∧ ∃ (i : Nat) (a b : Nat), t = ((k + i : Nat) : Int) ∧ i < X.length ∧ u = a ∧ v = b ∧ a ≤ b ∧ b < l.length ∧ turnP ((l.take a).sum) ((l.take (b + 1)).sum) (X.getD i (0, 0, 0)) = true
    | none => apartF ((psums 0 l).take (l.length - 1)) X k = -1
  | [], k, _ => rfl
  | x :: X, k, hX => by
    have hr := runs_iff (hX x (by simp)) h hl
    rw [← outF_none l 0 0] at hr
    have ih := trn_apart h hl X (k + 1) (fun y hy => hX y (by simp [hy]))
    rw [show ((k + 1 : Nat) : Int) = (k : Int) + 1 by omega] at ih
    rw [trnF, apartF]
    cases ho : outF (fun a b => turnP a b x) l 0 0 with
    | some ab =>
      obtain ⟨u, v⟩ := ab
      rw [ho] at hr
      dsimp only
      refine ⟨?_, ?_⟩
      · rw [if_pos]
        cases hp : (((psums 0 l).take (l.length - 1)).any fun s => partP s x)
        · have := hr.2 hp; cases this
        · rfl
      · obtain ⟨i, j, h1, h2, h3, h4, h5⟩ := outF_some _ _ _ _ _ ho
        exact ⟨0, i, j, by omega, by simp, by omega, by omega, h3, h4, by simpa using h5⟩
    | none =>
      rw [ho] at hr
      dsimp only
      rw [if_neg (by rw [hr.1 rfl]; simp)]
      cases ht : trnF l X ((k : Int) + 1) with
      | none => rw [ht] at ih; exact ih
      | some q =>
        obtain ⟨t, u, v⟩ := q
        rw [ht] at ih
        obtain ⟨h1, i, a, b, h2, h3, h4⟩ := ih
        exact ⟨h1, i + 1, a, b, by omega, by simp; omega, by simpa using h4⟩
end
theorem psums_getD : ∀ (l : List Int) (f : Int) (k : Nat), k ≤ l.length → (f :: psums f l)[k]? = some (f + (l.take k).sum)
  | l, f, 0, _ => by simp
  | [], f, k + 1, h => by simp at h
  | x :: l, f, k + 1, h => by
    have := psums_getD l (f + x) k (by simp at h; omega)
    rw [psums, List.getElem?_cons_succ, this, List.take_succ_cons, List.sum_cons, Int.add_assoc]
theorem take_sum_lt {l : List Int} (h : ∀ x ∈ l, 1 ≤ x ∧ x ≤ 12) : ∀ (a b : Nat), a < b → b ≤ l.length → (l.take a).sum < (l.take b).sum := by
  intro a b hab hb
  have e : l.take b = l.take a ++ (l.take b).drop a := by
    have := List.take_append_drop a (l.take b)
    rw [List.take_take, show min a b = a by omega] at this
    exact this.symm
  have h2 : ∀ x ∈ (l.take b).drop a, 1 ≤ x ∧ x ≤ 12 := fun x hx => h x (List.mem_of_mem_take (List.mem_of_mem_drop hx))
  have := sum_ge h2
  rw [e, List.sum_append]
  simp only [List.length_drop, List.length_take] at this
  omega
theorem take_sum_nonneg {l : List Int} (h : ∀ x ∈ l, 1 ≤ x ∧ x ≤ 12) (a : Nat) : 0 ≤ (l.take a).sum := by
  have := sum_ge (l := l.take a) (fun x hx => h x (List.mem_of_mem_take hx))
  omega
section
variable {N : Nat} {ws : List Wd} {ts : List Tn} {br_ : Int} (hN : 110 ≤ N) (hF : TFine ws ts br_)
include hN hF
theorem tsure_l2_p {first l P q : List Int} {turn e u q2 q3 run run2 : Int} (hl : 1 ≤ l.length ∧ l.length ≤ 100) (hP : P = 0 :: psums 0 l) : ∀ (n k : Nat) (ap : Int), ts.length < n + k → k ≤ ts.length → (ap = -1 ∨ 0 ≤ ap) →
    tsure_l2 N n first l turn e P ap u ts ts.length k ws ts br_ q q2 q3 run run2 = some (first, l, turn, e, P, (if ap < 0 then apartF ((psums 0 l).take (l.length - 1)) (ts.drop k) k else ap), u, ws, ts, br_, q, q2, q3, run, run2)
  | 0, k, ap, h, _, _ => by omega
  | n + 1, k, ap, h, hk, hap => by
    have ht := hF.t
    have hpl := psums_len l 0
    have hPl : P.length = l.length + 1 := by subst hP; simp [hpl]
    by_cases c : k < ts.length
    · have g := gets c (0, 0, 0)
      rw [drop_cons c (0, 0, 0), apartF]
      generalize ts.getD k (0, 0, 0) = x at *
      have ih := fun ap h => tsure_l2_p (first := first) (q := q) (turn := turn) (e := e) (u := u) (q2 := q2) (q3 := q3) (run := run) (run2 := run2) hl hP n (k + 1) ap (by omega) (by omega) h
      have hj : ∀ ap, tsure_j3 N (tsure_l2 N n) first l turn e P ap u ts ts.length k ws ts br_ q q2 q3 run run2 = tsure_l2 N n first l turn e P ap u ts ts.length ((k + 1 : Nat) : Int) ws ts br_ q q2 q3 run run2 := fun ap => by
        unfold tsure_j3
        rw [chk_eq (by omega)]; rfl
      rw [tsure_l2, br_dec (by omega), idx_eq (by omega) g]
      simp only [hj]
      by_cases d : ap < 0
      · rw [br_dec d, chk_eq (by omega), grd_eq (by simp; omega)]
        have e1 : (P.take (((P.length : Int) - 1).toNat)).drop 1 = (psums 0 l).take (l.length - 1) := by
          rw [hPl, show (((l.length + 1 : Nat) : Int) - 1).toNat = (l.length - 1) + 1 by omega, hP, List.take_succ_cons]; rfl
        rw [e1, cofts_v (by simp; omega) (by simp; omega), if_pos d]
        simp only [Option.bind_some]
        cases hp : ((psums 0 l).take (l.length - 1)).any fun s => partP s (x.1, x.2.1, x.2.2)
        · have := ih ap hap
          rw [if_pos d] at this
          rw [br_false, this, if_neg (by simpa using hp)]
          rfl
        · have := ih (k : Int) (.inr (by omega))
          rw [if_neg (by omega)] at this
          rw [br_true, this, if_pos (by simpa using hp)]
      · have := ih ap hap
        rw [if_neg d] at this
        rw [br_ndec d, this, if_neg d]
    · rw [tsure_l2, br_ndec (by omega), List.drop_of_length_le (by omega)]
      rcases hap with rfl | hap
      · rfl
      · rw [if_neg (by omega)]
end
end Go.Proofs.Ytfamlpbdhhikdaa

namespace Go.Proofs.Ytfamlpbdhhikdaa
set_option linter.all false
open Go

section
variable {N : Nat} {ws : List Wd} {ts : List Tn} {br_ : Int} (hN : 110 ≤ N) (hF : TFine ws ts br_)
include hN hF
theorem tsure_j1_p {rec : List Int → Int → List Wd → List Tn → Int → List Int → Int → Int → Option (Unit ⊕ (Unit ⊕ (Unit ⊕ (Unit ⊕ Unit))))} {first l q : List Int} {u q2 q3 : Int} (hl : l = [] ∨ ((∀ x ∈ l, 1 ≤ x ∧ x ≤ 12) ∧ l.sum = ws.length)) :
    tsure_j1 N rec first l u ws ts br_ q q2 q3 = tsure_j2 N rec first u ws ts br_ q q2 q3 := by
  have hn := hF.n; have hn0 := hF.n0; have ht := hF.t
  have c0 := checkT_of hF
  have hlen : l.length ≤ 12 := by
    rcases hl with rfl | ⟨h1, h2⟩
    · simp
    · have := sum_ge h1; omega
  unfold tsure_j1
  rw [astray_v hN (by omega) (by omega) (by omega), sound_v hN hF (by omega)]
  simp only [Option.bind_some]
  by_cases hg : goodB (rightR ws ts br_) ws.length 0 l = true
  rotate_left
  · rw [Bool.not_eq_true] at hg
    rw [hg, Bool.not_false, br_true]
    rcases hl with rfl | ⟨h1, h2⟩
    · by_cases d : (astrayR ws ts br_ []).2.2.2 = 8
      · rw [br_nd d]
      · rw [br_nnd d, br_ndec (by simp)]
    · have hr : readE ws ts br_ l = 0 := by
        unfold readE
        rw [if_neg (by simpa using c0), if_neg (by simpa [in12] using h1), if_neg (by simpa using h2)]
      have hw : (wrongF ws ts br_ l 0 0).isSome = true := by
        cases hw : wrongF ws ts br_ l 0 0 with
        | some _ => rfl
        | none =>
          have := (good_wrong (ws := ws) (ts := ts) (br_ := br_) l 0 0 h1 (by simpa using h2)).2 hw
          rw [this] at hg; cases hg
      have e8 : (astrayR ws ts br_ l).2.2.2 = 8 := by
        unfold astrayR
        rw [if_neg (by simpa using hr), if_pos hw]
      rw [br_nd e8]
  · obtain ⟨h1, h2⟩ := good_read (by omega) hg
    have hne : l ≠ [] := fun e => by subst e; have := good_nil.1 hg; omega
    have hpos := List.length_pos_iff.2 hne
    have h2' : l.sum = ws.length := by simpa using h2
    have hr : readE ws ts br_ l = 0 := by
      unfold readE
      rw [if_neg (by simpa using c0), if_neg (by simpa [in12] using h1), if_neg (by simpa using h2')]
    have hw : wrongF ws ts br_ l 0 0 = none := (good_wrong (ws := ws) (ts := ts) (br_ := br_) l 0 0 h1 (by simpa using h2')).1 hg
    have hrb : readB ws.length l = true := by
      obtain ⟨g1, g2⟩ := good_readB (by omega) hg
      unfold readB
      rw [g1, decide_eq_true (by simpa using g2)]; rfl
    have ea : astrayR ws ts br_ l = match trnF l ts 0 with | some (t, a, b) => (t, a, b, 0) | none => (0, 0, 0, 6) := by
      unfold astrayR
      rw [if_neg (by simpa using hr), hw]; rfl
    rw [hg, Bool.not_true, br_false, places_v (by omega) (by omega) (by omega), if_pos hrb]
    simp only [Option.bind_some]
    rw [ea]
    have ta := trn_apart hg hne ts 0 hF.x
    simp only [Int.natCast_zero] at ta
    cases hq : trnF l ts 0 with
    | none =>
      rw [hq] at ta
      dsimp only at ta ⊢
      have el := tsure_l2_p hN hF (first := first) (l := l) (q := q) (turn := 0) (e := 6) (u := u) (q2 := q2) (q3 := q3) (run := 0) (run2 := 0) ⟨hpos, by omega⟩ rfl N 0 (-1) (by omega) (by omega) (.inl rfl)
      simp only [Int.natCast_zero, List.drop_zero] at el
      rw [if_pos (by omega), ta] at el
      rw [el]
      simp only [Option.bind_some]
      rw [lsure_v hN (by omega) (by omega) hn hn0 hg, hq]
      rfl
    | some tuv =>
      obtain ⟨t, a, b⟩ := tuv
      rw [hq] at ta
      dsimp only at ta ⊢
      obtain ⟨ta, i, x, y, rfl, hi, rfl, rfl, hxy, hy, hp⟩ := ta
      rw [Nat.zero_add] at ta ⊢
      have el := tsure_l2_p hN hF (first := first) (l := l) (q := q) (turn := (i : Int)) (e := 0) (u := u) (q2 := q2) (q3 := q3) (run := (x : Int)) (run2 := (y : Int)) ⟨hpos, by omega⟩ rfl N 0 (-1) (by omega) (by omega) (.inl rfl)
      simp only [Int.natCast_zero, List.drop_zero] at el
      rw [if_pos (by omega), ta] at el
      rw [el]
      simp only [Option.bind_some]
      rw [lsure_v hN (by omega) (by omega) hn hn0 hg, hq]
      simp only [Option.bind_some, Option.isNone_some]
      have s1 := take_sum_lt h1 x (y + 1) (by omega) (by omega)
      have s0 := take_sum_nonneg h1 x
      have s2 : (l.take (y + 1)).sum ≤ ws.length := by
        by_cases c : y + 1 = l.length
        · rw [c, List.take_of_length_le (Nat.le_refl _)]; omega
        · have := take_sum_lt h1 (y + 1) l.length (by omega) (by omega)
          rw [List.take_of_length_le (Nat.le_refl _)] at this; omega
      have gx := psums_getD l 0 x (by omega)
      have gy := psums_getD l 0 (y + 1) (by omega)
      rw [Int.zero_add] at gx gy
      rw [decide_eq_false (show ¬ ((0 : Int) = 6) by omega), decide_eq_false (show ¬ ((i : Int) < 0) by omega), decide_eq_true trivial, decide_eq_true (show 0 ≤ (i : Int) by omega)]
      simp only [beq_self_eq_true, Bool.not_true, br_false]
      rw [br_ndec (by omega), br_ndec (by omega), br_ndec (by omega), idx_eq (a := (l.take x).sum) (by omega) (by simpa using gx), chk_eq (by omega), idx_eq (a := (l.take (y + 1)).sum) (by omega) (by rw [show ((y : Int) + 1).toNat = y + 1 by omega]; exact gy), chk_eq (by omega), says_v hN (by omega) (by omega)]
      simp only [Option.bind_some]
      have es : saysR ws ts br_ (l.take x).sum ((l.take (y + 1)).sum - 1) = (turnL ts (l.take x).sum ((l.take (y + 1)).sum), 0) := by
        unfold saysR
        rw [if_neg (by simpa using c0), if_neg (by simp only [inT, Bool.not_eq_false, decide_eq_true_eq]; omega), if_neg (by simp only [inT, Bool.not_eq_false, decide_eq_true_eq]; omega), if_neg (by omega), Int.sub_add_cancel]
      rw [es]
      dsimp only
      have hlen2 := turnK_len ts (l.take x).sum ((l.take (y + 1)).sum) ts.length
      have hcon : (turnL ts (l.take x).sum ((l.take (y + 1)).sum)).contains (i : Int) = true := by
        rw [List.contains_iff_mem]
        exact mem_turnK.2 ⟨hi, hp⟩
      rw [br_nd (by first | trivial | rfl), containsi_v (by unfold turnL; omega) (by unfold turnL; omega)]
      simp only [Option.bind_some]
      rw [hcon]; rfl
theorem tsure_l1_p {b first : List Int} (hf : first = [] ∨ ((∀ x ∈ first, 1 ≤ x ∧ x ≤ 12) ∧ first.sum = ws.length)) : ∀ (n i : Nat) (b2 b3 : Int), 10 < n + i → i ≤ 10 → Bell b b2 → tsure_l1 N n first i ws ts br_ b b2 b3 = some (.inr (.inr (.inr (.inr ()))))
  | 0, i, b2, b3, h, _, _ => by omega
  | n + 1, i, b2, b3, h, hi, hb => by
    have hn := hF.n; have hn0 := hF.n0
    have j2 : ∀ c c2 c3, tsure_j2 N (tsure_l1 N n) first i ws ts br_ c c2 c3 = tsure_l1 N n first ((i + 1 : Nat) : Int) ws ts br_ c c2 c3 := fun c c2 c3 => by
      unfold tsure_j2
      rw [chk_eq (by omega)]; rfl
    unfold tsure_l1
    by_cases c : (i : Int) < 10
    rotate_left
    · rw [br_ndec c]
    rw [br_dec c]
    by_cases d : (0 : Int) < i
    · obtain ⟨⟨o, c1, c2, c3⟩, eo, ⟨ho1, ho2⟩, hc, hb2⟩ := tried_v (N := N) hN (ws := ws) (ts := ts) (br_ := br_) (b2 := b2) (b3 := b3) ⟨hn0, hn⟩ hb
      dsimp only at ho1 ho2 hc hb2
      obtain rfl := hc.symm
      rw [br_dec d, eo]
      simp only [Option.bind_some]
      rw [tsure_j1_p hN hF (.inr ⟨ho1, ho2⟩), j2]
      exact tsure_l1_p hf n (i + 1) c2 c3 (by omega) (by omega) hb2
    · rw [br_ndec d, tsure_j1_p hN hF hf, j2]
      exact tsure_l1_p hf n (i + 1) b2 b3 (by omega) (by omega) hb
end
theorem tsure_true {ns qs : List Int} (h1 : Ty.inB (.sl (.int .u8)) ns) (h2 : Ty.inB (.sl (.int .u8)) qs) : tsure_S 1100 ns qs = some true := by
  have aw : ((awake_S 1100).bind fun x => some x) = some true := by rw [awake_v]; rfl
  have l1 : ns.length ≤ 9223372036854775807 := h1.1
  have l2 : qs.length ≤ 9223372036854775807 := h2.1
  unfold tsure_S hang_S
  simp only [Option.bind_some]
  obtain ⟨⟨ws, ts, br_, b, b2, b3⟩, em, hF, hm, hb⟩ := made_v (N := 1100) (b := ns) (by omega) (words := 9) (turns := 3) (b2 := 0) (b3 := 0) (by omega) (by omega) ⟨l1, by omega, by omega⟩
  dsimp only at hF hm hb
  rw [em]
  simp only [Option.bind_some]
  have hn := hF.n; have ht := hF.t
  have c0 := checkT_of hF
  have hq : Bell qs 0 := ⟨l2, by omega, by omega⟩
  have fin : ∀ first : List Int, (first = [] ∨ ((∀ x ∈ first, 1 ≤ x ∧ x ≤ 12) ∧ first.sum = ws.length)) → tsure_l1 1100 1100 first 0 ws ts br_ qs 0 0 = some (.inr (.inr (.inr (.inr ())))) := fun first hf => by
    have e := tsure_l1_p (N := 1100) (by omega) hF (b := qs) hf 1100 0 0 0 (by omega) (by omega) hq
    simpa using e
  rcases fewest_v (N := 1100) (by omega) (ws := ws) (ts := ts) (br_ := br_) (by omega) (by omega) with ⟨c, _⟩ | ⟨_, ⟨l, ee, hl, _⟩ | ⟨ee, hno⟩⟩
  · exact absurd c0 c
  · obtain ⟨r1, r2⟩ := good_read (by omega) hl
    rw [ee]
    simp only [Option.bind_some]
    rw [fin l (.inr ⟨r1, by simpa using r2⟩)]
    exact aw
  · rw [ee]
    simp only [Option.bind_some]
    rw [fin [] (.inl rfl)]
    exact aw
end Go.Proofs.Ytfamlpbdhhikdaa

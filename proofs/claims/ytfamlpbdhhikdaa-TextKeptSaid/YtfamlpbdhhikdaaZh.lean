/-
  Parts of a proof, put together: TD1, TD2, TD3, TD4, TD5, X4, X5, TD6, TD7, TD8, TD9, TB, TL1, TL2, TL3, TL4, TL5, TL6, TL7, TL8, TL9, TM1, TM2, X7, TM3, TShl.
  Conditions: none.
-/
import Derived.Ground.Names2Prog
import Derived.Shelf.Lay
import Derived.Shelf.Slices.Delete
import Derived.Test.YtfamlpbdhhikdaaZe
import Derived.Test.YtfamlpbdhhikdaaZg
namespace Go.Proofs.Ytfamlpbdhhikdaa
set_option linter.all false
open Go

/-- A reading from a place to the end, all of whose breaths are right. -/
def goodB (R : Nat → Nat → Bool) (m : Nat) : Nat → List Int → Bool
  | a, [] => a == m
  | a, x :: l => (decide (1 ≤ x) && decide (a + x.toNat ≤ m)) && (R a (a + x.toNat) && goodB R m (a + x.toNat) l)
/-- The fewest breaths from a place. -/
structure IsMin (R : Nat → Nat → Bool) (m a : Nat) (k : Int) : Prop where
  ex : ∃ l, goodB R m a l = true ∧ (l.length : Int) = k
  le : ∀ l, goodB R m a l = true → k ≤ l.length
section
variable {R : Nat → Nat → Bool} {m : Nat}
theorem good_cons {a : Nat} {x : Int} {l : List Int} : goodB R m a (x :: l) = true ↔ (1 ≤ x ∧ a + x.toNat ≤ m) ∧ R a (a + x.toNat) = true ∧ goodB R m (a + x.toNat) l = true := by
  simp [goodB]
theorem good_nil {a : Nat} : goodB R m a [] = true ↔ a = m := by simp [goodB]
theorem good_step {a q : Nat} {l : List Int} (h : a < q) (hq : q ≤ m) (hR : R a q = true) (hl : goodB R m q l = true) : goodB R m a (((q : Int) - a) :: l) = true := by
  have e : a + ((q : Int) - a).toNat = q := by omega
  rw [good_cons, e]
  exact ⟨⟨by omega, hq⟩, hR, hl⟩
theorem IsMin.end_ : IsMin R m m 0 := ⟨⟨[], by simp [goodB], rfl⟩, fun l _ => by omega⟩
theorem getD_set' {α : Type} {l : List α} {i j : Nat} {v d : α} (hi : i < l.length) : (l.set i v).getD j d = if i = j then v else l.getD j d := by
  by_cases h : i = j
  · subst h; simp [List.getD, hi]
  · simp [List.getD, List.getElem?_set, h]
/-- What the tables say of a place. -/
def Told (R : Nat → Nat → Bool) (m : Nat) (L X : List Int) (i : Nat) : Prop :=
  (X.getD i 0 = 0 ∧ ∀ l, goodB R m i l = false) ∨ ∃ q : Nat, X.getD i 0 = q ∧ i < q ∧ q ≤ m ∧ R i q = true ∧ IsMin R m i (L.getD i 0) ∧ IsMin R m q (L.getD i 0 - 1)
structure Tab (R : Nat → Nat → Bool) (m f : Nat) (L X : List Int) : Prop where
  hL : L.length = 13
  hX : X.length = 13
  bd : ∀ i, i < 13 → 0 ≤ L.getD i 0 ∧ L.getD i 0 ≤ 13 - (i : Int)
  lo : ∀ i, i < f → X.getD i 0 = 0
  en : L.getD m 0 = 0
  told : ∀ i, f < i → i < m → Told R m L X i
/-- What is known of a place, when ends ahead of one were tried. -/
def Cur (R : Nat → Nat → Bool) (m f to : Nat) (L X : List Int) : Prop :=
  (X.getD f 0 = 0 ∧ ∀ q, f < q → q < to → R f q = true → ∀ l, goodB R m q l = false) ∨
  ∃ q : Nat, X.getD f 0 = q ∧ f < q ∧ q < to ∧ q ≤ m ∧ R f q = true ∧ IsMin R m q (L.getD f 0 - 1) ∧ ∀ p, f < p → p < to → R f p = true → ∀ l, goodB R m p l = true → L.getD f 0 ≤ l.length + 1
theorem Cur.skip {f to : Nat} {L X : List Int} (h : Cur R m f to L X) (hs : R f to = true → ∀ l, goodB R m to l = false) : Cur R m f (to + 1) L X := by
  rcases h with ⟨h1, h2⟩ | ⟨q, h1, h2, h3, h4, h5, h6, h7⟩
  · refine .inl ⟨h1, fun q a b hR => ?_⟩
    by_cases e : q = to
    · subst e; exact hs hR
    · exact h2 q a (by omega) hR
  · refine .inr ⟨q, h1, h2, by omega, h4, h5, h6, fun p a b hR l hl => ?_⟩
    by_cases e : p = to
    · subst e; rw [hs hR l] at hl; cases hl
    · exact h7 p a (by omega) hR l hl
theorem Cur.keep {f to : Nat} {L X : List Int} (h : Cur R m f to L X) (hx : X.getD f 0 ≠ 0) (ht : IsMin R m to (L.getD to 0)) (hle : L.getD f 0 ≤ L.getD to 0 + 1) : Cur R m f (to + 1) L X := by
  rcases h with ⟨h1, h2⟩ | ⟨q, h1, h2, h3, h4, h5, h6, h7⟩
  · exact absurd h1 hx
  · refine .inr ⟨q, h1, h2, by omega, h4, h5, h6, fun p a b hR l hl => ?_⟩
    by_cases e : p = to
    · subst e; have := ht.le l hl; omega
    · exact h7 p a (by omega) hR l hl
theorem Cur.put {f to : Nat} {L X : List Int} (h : Cur R m f to L X) (hL : L.length = 13) (hX : X.length = 13) (hf : f < 13) (hto : f < to) (hm : to ≤ m) (hR : R f to = true) (ht : IsMin R m to (L.getD to 0)) (hbetter : X.getD f 0 = 0 ∨ L.getD to 0 + 1 < L.getD f 0) :
    Cur R m f (to + 1) (L.set f (L.getD to 0 + 1)) (X.set f to) := by
  refine .inr ⟨to, by rw [getD_set' (by omega), if_pos rfl], hto, by omega, hm, hR, ?_, fun p a b hRp l hl => ?_⟩
  · rw [getD_set' (by omega), if_pos rfl]
    simpa using ht
  · rw [getD_set' (by omega), if_pos rfl]
    by_cases e : p = to
    · subst e; have := ht.le l hl; omega
    · rcases h with ⟨h1, h2⟩ | ⟨q, h1, h2, h3, h4, h5, h6, h7⟩
      · rw [h2 p a (by omega) hRp l] at hl; cases hl
      · have := h7 p a (by omega) hRp l hl
        rcases hbetter with hb | hb
        · omega
        · omega
theorem Tab.put {f to : Nat} {L X : List Int} (h : Tab R m f L X) (hf : f < m) (hm : m ≤ 12) (hto : f < to) (htm : to ≤ m) : Tab R m f (L.set f (L.getD to 0 + 1)) (X.set f to) := by
  have hL := h.hL; have hX := h.hX
  refine ⟨by simpa using hL, by simpa using hX, fun i hi => ?_, fun i hi => ?_, ?_, fun i h1 h2 => ?_⟩
  · rw [getD_set' (by omega)]
    split
    · rename_i e; subst e
      have := h.bd to (by omega)
      omega
    · exact h.bd i hi
  · rw [getD_set' (by omega), if_neg (by omega)]; exact h.lo i hi
  · rw [getD_set' (by omega), if_neg (by omega)]; exact h.en
  · unfold Told
    rw [getD_set' (by omega), getD_set' (by omega), if_neg (by omega), if_neg (by omega)]
    exact h.told i h1 h2
theorem Tab.min {f i : Nat} {L X : List Int} (h : Tab R m f L X) (h1 : f < i) (h2 : i ≤ m) (hx : i < m → X.getD i 0 ≠ 0) : IsMin R m i (L.getD i 0) := by
  by_cases e : i = m
  · subst e; rw [h.en]; exact IsMin.end_
  · rcases h.told i h1 (by omega) with ⟨h3, _⟩ | ⟨q, _, _, _, _, h4, _⟩
    · exact absurd h3 (hx (by omega))
    · exact h4
theorem Tab.next {f : Nat} {L X : List Int} (h : Tab R m f L X) (hf : f < m) (hc : Cur R m f (m + 1) L X) : ∀ i, f ≤ i → i < m → Told R m L X i := by
  intro i h1 h2
  by_cases e : i = f
  · subst e
    rcases hc with ⟨h3, h4⟩ | ⟨q, h3, h4, h5, h6, h7, h8, h9⟩
    · refine .inl ⟨h3, fun l => ?_⟩
      cases hg : goodB R m i l
      · rfl
      cases l with
      | nil => have := good_nil.1 hg; omega
      | cons x l =>
        obtain ⟨⟨a, b⟩, c, d⟩ := good_cons.1 hg
        rw [h4 _ (by omega) (by omega) c l] at d; cases d
    · refine .inr ⟨q, h3, h4, h6, h7, ⟨?_, fun l hl => ?_⟩, h8⟩
      · obtain ⟨l, a, b⟩ := h8.ex
        exact ⟨((q : Int) - i) :: l, good_step h4 h6 h7 a, by rw [List.length_cons]; omega⟩
      · cases l with
        | nil => have := good_nil.1 hl; omega
        | cons x l =>
          obtain ⟨⟨a, b⟩, c, d⟩ := good_cons.1 hl
          have := h9 _ (by omega) (by omega) c l d
          rw [List.length_cons]; omega
  · exact h.told i (by omega) h2
end
end Go.Proofs.Ytfamlpbdhhikdaa

namespace Go.Proofs.Ytfamlpbdhhikdaa
set_option linter.all false
open Go


/-! ### fewestr -/
section
variable {N : Nat} (hN : 110 ≤ N) {d : Tx} {r : Tx} {R : Nat → Nat → Bool} {m : Nat} (hd : d.1.length = m) (hm : 1 ≤ m ∧ m ≤ 12) (hR : ∀ a b : Nat, a < b → b ≤ m → right_S N r a b = some (R a b))
include hd hm hR
include hN
end
end Go.Proofs.Ytfamlpbdhhikdaa

namespace Go.Proofs.Ytfamlpbdhhikdaa
set_option linter.all false
open Go


/-! ### feweste -/
section
variable {N : Nat} (hN : 110 ≤ N) {d : Tx} {r : (Tx × Int × Tx)} {R : Nat → Nat → Bool} {m : Nat} (hd : d.1.length = m) (hm : 1 ≤ m ∧ m ≤ 12) (hR : ∀ a b : Nat, a < b → b ≤ m → even1_S N a b r.1 r.2.1 r.2.2 = some (R a b))
include hd hm hR
include hN
end

/-! ### fewests -/
section
variable {N : Nat} (hN : 110 ≤ N) {d : Tx} {r : Tx} {R : Nat → Nat → Bool} {m : Nat} (hd : d.1.length = m) (hm : 1 ≤ m ∧ m ≤ 12) (hR : ∀ a b : Nat, a < b → b ≤ m → surest1_S N a b r = some (R a b))
include hd hm hR
include hN
end
end Go.Proofs.Ytfamlpbdhhikdaa

namespace Go.Proofs.Ytfamlpbdhhikdaa
set_option linter.all false
open Go

/-- All readings from a place to the end, all of whose breaths are right. -/
def goods (R : Nat → Nat → Bool) (m : Nat) : Nat → Nat → List (List Int)
  | 0, a => if a = m then [[]] else []
  | n + 1, a => if a = m then [[]] else (toL (R a) m (a + 1)).flatMap fun q => (goods R m n q).map fun l => ((q : Int) - a) :: l
section
variable {R : Nat → Nat → Bool} {m : Nat}
/-- The right readings. -/
def goodsL (R : Nat → Nat → Bool) (m a : Nat) : List (List Int) := goods R m 13 a
end
/-! ### Tables of numbers -/
section
variable {N : Nat} (hN : 110 ≤ N) {ws : List Wd} {ts : List Tn} {br_ : Int} (hF : TFine ws ts br_)
include hF
include hN
end
end Go.Proofs.Ytfamlpbdhhikdaa

namespace Go.Proofs.Ytfamlpbdhhikdaa
set_option linter.all false
open Go

section
variable {R : Nat → Nat → Bool} {m : Nat}
/-- A place that is met, and from which a reading goes on. -/
def metB (R : Nat → Nat → Bool) (p : Nat) : Bool := !(goodsL R p 0).isEmpty
def finB (R : Nat → Nat → Bool) (m p : Nat) : Bool := !(goodsL R m p).isEmpty
def brkB (R : Nat → Nat → Bool) (m p : Nat) : Bool := metB R p && finB R m p
/-- At which places readings were found to break so far. -/
def MetSo (R : Nat → Nat → Bool) (m k : Nat) (M : List Bool) : Prop := M.length = 13 ∧ ∀ q, q ≤ m → (M.getD q false = true ↔ q = 0 ∨ ∃ p, p < k ∧ p < q ∧ brkB R m p = true ∧ R p q = true)
theorem MetSo.skip {k : Nat} {M : List Bool} (h : MetSo R m k M) (hb : brkB R m k = false) : MetSo R m (k + 1) M := by
  refine ⟨h.1, fun q hq => (h.2 q hq).trans ?_⟩
  constructor
  · rintro (h1 | ⟨p, h1, h2⟩)
    · exact .inl h1
    · exact .inr ⟨p, by omega, h2⟩
  · rintro (h1 | ⟨p, h1, h2, h3, h4⟩)
    · exact .inl h1
    · by_cases e : p = k
      · subst e; rw [hb] at h3; cases h3
      · exact .inr ⟨p, by omega, h2, h3, h4⟩
end
section
variable {N : Nat} (hN : 110 ≤ N) {ws : List Wd} {ts : List Tn} {br_ : Int} (hF : TFine ws ts br_)
include hF
end
end Go.Proofs.Ytfamlpbdhhikdaa

namespace Go.Proofs.Ytfamlpbdhhikdaa
set_option linter.all false
open Go

def made_l1 (N : Nat) : Nat → Int → Int → Int → (List Int) → Int → Int → Int → Int → (List (Int × (Int × Bool))) → Option (Int × List Int × Int × Int × Int × Int × (List (Int × (Int × Bool))))
  | 0, _, _, _, _, _, _, _, _, _ => none
  | n_ + 1, turns, u, u2, b, b2, b3, g, t, t2 =>
    br (decide (u2 < u))
      ((strike_S N 1 4 b b2 b3).bind fun (x_9, y_10, y_11, y_12) =>
      (stroke_S N 9 y_10 y_11 y_12).bind fun (x_13, y_14, y_15, y_16) =>
      (seldom_S N 3 y_14 y_15 y_16).bind fun (x_17, y_18, y_19, y_20) =>
      lim (t2.length + [(x_9, x_13, (!x_17))].length) <|
      chk (u2 + 1) <|
      made_l1 N n_ turns u (u2 + 1) y_18 y_19 y_20 g t (t2 ++ [(x_9, x_13, (!x_17))]))
      (some ((turns, b, b2, b3, g, t, t2)))
def made_j1 (N : Nat) (rec : Int → Int → (List Int) → Int → Int → Int → Int → (List (Int × (Int × Bool))) → (List (Int × (Int × Int))) → Option (List Int × Int × Int × Int × Int × (List (Int × (Int × Bool))) × (List (Int × (Int × Int))))) (u : Int) (u2 : Int) (b : List Int) (b2 : Int) (b3 : Int) (g : Int) (t : Int) (t2 : List (Int × (Int × Bool))) (t3 : List (Int × (Int × Int))) : Option (List Int × Int × Int × Int × Int × (List (Int × (Int × Bool))) × (List (Int × (Int × Int)))) :=
  chk (u2 + 1) <|
  rec u (u2 + 1) b b2 b3 g t t2 t3
def made_l2 (N : Nat) : Nat → Int → Int → (List Int) → Int → Int → Int → Int → (List (Int × (Int × Bool))) → (List (Int × (Int × Int))) → Option (List Int × Int × Int × Int × Int × (List (Int × (Int × Bool))) × (List (Int × (Int × Int))))
  | 0, _, _, _, _, _, _, _, _, _ => none
  | n_ + 1, u, u2, b, b2, b3, g, t, t2, t3 =>
    br (decide (u2 < u))
      (br (decide ((t2.length : Int) < 2))
        (some ((b, b2, b3, g, t, t2, t3)))
        (chk ((t2.length : Int) - 1) <|
        (stroke_S N ((t2.length : Int) - 1) b b2 b3).bind fun (x_32, y_33, y_34, y_35) =>
        chk ((t2.length : Int) - 1) <|
        (stroke_S N 2 y_33 y_34 y_35).bind fun (x_36, y_37, y_38, y_39) =>
        chk (x_32 + x_36) <|
        chk ((t2.length : Int) - 1) <|
        (stroke_S N ((t2.length : Int) - 1) y_37 y_38 y_39).bind fun (x_40, y_41, y_42, y_43) =>
        br (decide (x_40 < x_32))
          (lim (t3.length + [(x_40, x_32, (min ((t2.length : Int) - 1) (x_32 + x_36)))].length) <|
          made_j1 N (made_l2 N n_) u u2 y_41 y_42 y_43 g t t2 (t3 ++ [(x_40, x_32, (min ((t2.length : Int) - 1) (x_32 + x_36)))]))
          (br (decide ((min ((t2.length : Int) - 1) (x_32 + x_36)) < x_40))
            (lim (t3.length + [(x_40, x_32, (min ((t2.length : Int) - 1) (x_32 + x_36)))].length) <|
            made_j1 N (made_l2 N n_) u u2 y_41 y_42 y_43 g t t2 (t3 ++ [(x_40, x_32, (min ((t2.length : Int) - 1) (x_32 + x_36)))]))
            (made_j1 N (made_l2 N n_) u u2 y_41 y_42 y_43 g t t2 t3))))
      (some ((b, b2, b3, g, t, t2, t3)))
def made_S (N : Nat) (words : Int) (turns : Int) (b : List Int) (b2 : Int) (b3 : Int) : Option ((List (Int × (Int × Bool))) × (List (Int × (Int × Int))) × Int × List Int × Int × Int) :=
  (strike_S N 3 14 b b2 b3).bind fun (x_1, y_2, y_3, y_4) =>
  (strike_S N 1 words y_2 y_3 y_4).bind fun (x_5, y_6, y_7, y_8) =>
  (made_l1 N N turns x_5 0 y_6 y_7 y_8 0 x_1 []).bind fun (turns_21, b_22, b2_23, b3_24, g_25, t_26, t2_27) =>
  (stroke_S N turns_21 b_22 b2_23 b3_24).bind fun (x_28, y_29, y_30, y_31) =>
  (made_l2 N N x_28 0 y_29 y_30 y_31 g_25 t_26 t2_27 []).bind fun (g_44, g2_45, g3_46, g4_47, t_48, t2_49, t3_50) =>
  some (t2_49, t3_50, t_48, g_44, g2_45, g3_46)
noncomputable def made_sp (N : Nat) : List Spec := [sp_stroke N, sp_strike N, sp_seldom N]
theorem made_all (N : Nat) : AllP (SpecOK Try.prog) (made_sp N) := ⟨sp_stroke_ok N, sp_strike_ok N, sp_seldom_ok N, trivial⟩
noncomputable def made_c : Code := (Try.f36.body).getD .skip
noncomputable abbrev made_B : Body := { c := made_c, n := 83, res := [.cell 6 25], outs := [⟨[.agg [.sl (.pair (.int .i64) (.pair (.int .i64) .bool)), .sl (.pair (.int .i64) (.pair (.int .i64) (.int .i64))), .i .i64]], [.segs [.sl (.int .u8), .i .i64, .i .u32]]⟩], m0 := 1 }
abbrev made_rt : altD made_B.outs → Option ((List (Int × (Int × Bool))) × (List (Int × (Int × Int))) × Int × List Int × Int × Int) := fun r => some (r.1.1.1, r.1.1.2.1, r.1.1.2.2.1, r.2.1.1, r.2.1.2.1, r.2.1.2.2.1)
abbrev made_l1_at : List PI := [.c [1, 1, 0, 1, 0, 0, 0], .c [1, 1, 0, 1, 0, 0, 1], .l [1, 1, 0, 1, 0, 0], .b 0, .c [1, 1, 1]]
abbrev made_l1_st : Sta := ⟨[0, 2, 6, 7, 16, 17], ⟨[.own 0 0, .i .i64, .own 1 0, .own 2 0, .i .i64, .i .i64], [.segs [.sl (.int .u8), .i .i64, .i .u32], .segs [.nils, .nils, .i .i64], .segs [.ols 3, .nils, .i .i64], .lst (.pair (.int .i64) (.pair (.int .i64) .bool))]⟩⟩
abbrev made_l1_h (rec : Int → Int → Int → (List Int) → Int → Int → Int → Int → (List (Int × (Int × Bool))) → Option (Int × List Int × Int × Int × Int × Int × (List (Int × (Int × Bool))))) : Leaf (Int × List Int × Int × Int × Int × Int × (List (Int × (Int × Bool)))) := ⟨made_l1_at, made_l1_st, fun p => rec p.1.2.1 p.1.2.2.2.2.1 p.1.2.2.2.2.2.1 p.2.1.1 p.2.1.2.1 p.2.1.2.2.1 p.2.2.1.2.2.1 p.2.2.2.1.2.2.1 p.2.2.2.2.1⟩
abbrev made_l1_e0 : Leaf (Int × List Int × Int × Int × Int × Int × (List (Int × (Int × Bool)))) := ⟨[.c [1, 1, 1, 0, 0], .c [1, 1, 1, 0, 1], .c [1, 1, 1, 1]], ⟨[0, 2, 6, 7], ⟨[.own 0 0, .i .i64, .own 1 0, .own 2 0], [.segs [.sl (.int .u8), .i .i64, .i .u32], .segs [.nils, .nils, .i .i64], .segs [.ols 3, .nils, .i .i64], .lst (.pair (.int .i64) (.pair (.int .i64) .bool))]⟩⟩, fun p => some ((p.1.2.1, p.2.1.1, p.2.1.2.1, p.2.1.2.2.1, p.2.2.1.2.2.1, p.2.2.2.1.2.2.1, p.2.2.2.2.1))⟩
noncomputable def made_l1_L (N : Nat) : LoopS := { at_ := made_l1_at, sta := made_l1_st, exits := [([.c [1, 1, 1, 0, 0], .c [1, 1, 1, 0, 1], .c [1, 1, 1, 1]], ⟨[0, 2, 6, 7], ⟨[.own 0 0, .i .i64, .own 1 0, .own 2 0], [.segs [.sl (.int .u8), .i .i64, .i .u32], .segs [.nils, .nils, .i .i64], .segs [.ols 3, .nils, .i .i64], .lst (.pair (.int .i64) (.pair (.int .i64) .bool))]⟩⟩)], run := fun p k => (made_l1 N N p.1.2.1 p.1.2.2.2.2.1 p.1.2.2.2.2.2.1 p.2.1.1 p.2.1.2.1 p.2.1.2.2.1 p.2.2.1.2.2.1 p.2.2.2.1.2.2.1 p.2.2.2.2.1).bind fun e => k (.inl (((), e.1, (), (), ()), ((e.2.1, e.2.2.1, e.2.2.2.1, ()), ((), (), e.2.2.2.2.1, ()), ((), (), e.2.2.2.2.2.1, ()), e.2.2.2.2.2.2, ()))) }
theorem made_l1_eq (N n_ : Nat) (turns : Int) (u : Int) (u2 : Int) (b : List Int) (b2 : Int) (b3 : Int) (g : Int) (t : Int) (t2 : List (Int × (Int × Bool))) : ev (Z := Int × List Int × Int × Int × Int × Int × (List (Int × (Int × Bool)))) Try.prog (made_sp N) made_B [] [made_l1_h (made_l1 N n_), made_l1_e0] none 400 true made_l1_at (stL made_l1_st (((), turns, (), (), u, u2, ()), ((b, b2, b3, ()), ((), (), g, ()), ((), (), t, ()), t2, ()))) (stH made_l1_st (((), turns, (), (), u, u2, ()), ((b, b2, b3, ()), ((), (), g, ()), ((), (), t, ()), t2, ()))) = made_l1 N (n_ + 1) turns u u2 b b2 b3 g t t2 := by kernel_rfl
theorem made_l1_ok (N : Nat) {top : Bool} : LoopOK Try.prog made_B.c made_B.n made_B.m0 top (made_l1_L N) := loop_of_ev (Z := Int × List Int × Int × Int × Int × Int × (List (Int × (Int × Bool)))) (N := N) (fun m p => made_l1 N m p.1.2.1 p.1.2.2.2.2.1 p.1.2.2.2.2.2.1 p.2.1.1 p.2.1.2.1 p.2.1.2.2.1 p.2.2.1.2.2.1 p.2.2.2.1.2.2.1 p.2.2.2.2.1) (fun e => .inl (((), e.1, (), (), ()), ((e.2.1, e.2.2.1, e.2.2.2.1, ()), ((), (), e.2.2.2.2.1, ()), ((), (), e.2.2.2.2.2.1, ()), e.2.2.2.2.2.2, ()))) (fun _ _ _ => rfl) (fun _ => rfl) (fun m z E Xc hE hX hrec hx => leaf_of_ev (B := made_B) (loops := []) (leaves := [made_l1_h (made_l1 N m), made_l1_e0]) (made_all N) mixed trivial hE hX ⟨hrec, (fun p hp => by obtain rfl := Option.some.inj hp; exact hx), trivial⟩ RetOK.no (fun p => made_l1_eq N m p.1.2.1 p.1.2.2.2.2.1 p.1.2.2.2.2.2.1 p.2.1.1 p.2.1.2.1 p.2.1.2.2.1 p.2.2.1.2.2.1 p.2.2.2.1.2.2.1 p.2.2.2.2.1))
abbrev made_l2_at : List PI := [.c [1, 1, 1, 0, 1, 0, 0, 0], .c [1, 1, 1, 0, 1, 0, 0, 1], .l [1, 1, 1, 0, 1, 0, 0], .b 2, .c [1, 1, 1, 1]]
abbrev made_l2_st : Sta := ⟨[0, 6, 7, 35, 36], ⟨[.own 0 0, .own 1 0, .own 2 0, .i .i64, .i .i64], [.segs [.sl (.int .u8), .i .i64, .i .u32], .segs [.nils, .nils, .i .i64], .segs [.ols 3, .ols 4, .i .i64], .lst (.pair (.int .i64) (.pair (.int .i64) .bool)), .lst (.pair (.int .i64) (.pair (.int .i64) (.int .i64)))]⟩⟩
abbrev made_l2_h (rec : Int → Int → (List Int) → Int → Int → Int → Int → (List (Int × (Int × Bool))) → (List (Int × (Int × Int))) → Option (List Int × Int × Int × Int × Int × (List (Int × (Int × Bool))) × (List (Int × (Int × Int))))) : Leaf (List Int × Int × Int × Int × Int × (List (Int × (Int × Bool))) × (List (Int × (Int × Int)))) := ⟨made_l2_at, made_l2_st, fun p => rec p.1.2.2.2.1 p.1.2.2.2.2.1 p.2.1.1 p.2.1.2.1 p.2.1.2.2.1 p.2.2.1.2.2.1 p.2.2.2.1.2.2.1 p.2.2.2.2.1 p.2.2.2.2.2.1⟩
abbrev made_l2_e0 : Leaf (List Int × Int × Int × Int × Int × (List (Int × (Int × Bool))) × (List (Int × (Int × Int)))) := ⟨[.c [1, 1, 1, 1, 0], .c [1, 1, 1, 1, 1]], ⟨[6, 7], ⟨[.own 1 0, .own 2 0], [.segs [.sl (.int .u8), .i .i64, .i .u32], .segs [.nils, .nils, .i .i64], .segs [.ols 3, .ols 4, .i .i64], .lst (.pair (.int .i64) (.pair (.int .i64) .bool)), .lst (.pair (.int .i64) (.pair (.int .i64) (.int .i64)))]⟩⟩, fun p => some ((p.2.1.1, p.2.1.2.1, p.2.1.2.2.1, p.2.2.1.2.2.1, p.2.2.2.1.2.2.1, p.2.2.2.2.1, p.2.2.2.2.2.1))⟩
abbrev made_j1_at : List PI := [.c [1, 1, 1, 0, 1, 0, 0, 1, 1, 1], .l [1, 1, 1, 0, 1, 0, 0], .b 2, .c [1, 1, 1, 1]]
abbrev made_j1_st : Sta := ⟨[0, 6, 7, 35, 36], ⟨[.own 0 0, .own 1 0, .own 2 0, .i .i64, .i .i64], [.segs [.sl (.int .u8), .i .i64, .i .u32], .segs [.nils, .nils, .i .i64], .segs [.ols 3, .ols 4, .i .i64], .lst (.pair (.int .i64) (.pair (.int .i64) .bool)), .lst (.pair (.int .i64) (.pair (.int .i64) (.int .i64)))]⟩⟩
abbrev made_j1_k (N : Nat) (rec : Int → Int → (List Int) → Int → Int → Int → Int → (List (Int × (Int × Bool))) → (List (Int × (Int × Int))) → Option (List Int × Int × Int × Int × Int × (List (Int × (Int × Bool))) × (List (Int × (Int × Int))))) : Leaf (List Int × Int × Int × Int × Int × (List (Int × (Int × Bool))) × (List (Int × (Int × Int)))) := ⟨made_j1_at, made_j1_st, fun p => made_j1 N rec p.1.2.2.2.1 p.1.2.2.2.2.1 p.2.1.1 p.2.1.2.1 p.2.1.2.2.1 p.2.2.1.2.2.1 p.2.2.2.1.2.2.1 p.2.2.2.2.1 p.2.2.2.2.2.1⟩
theorem made_j1_eq (N : Nat) (rec : Int → Int → (List Int) → Int → Int → Int → Int → (List (Int × (Int × Bool))) → (List (Int × (Int × Int))) → Option (List Int × Int × Int × Int × Int × (List (Int × (Int × Bool))) × (List (Int × (Int × Int))))) (u : Int) (u2 : Int) (b : List Int) (b2 : Int) (b3 : Int) (g : Int) (t : Int) (t2 : List (Int × (Int × Bool))) (t3 : List (Int × (Int × Int))) : ev (Z := List Int × Int × Int × Int × Int × (List (Int × (Int × Bool))) × (List (Int × (Int × Int)))) Try.prog (made_sp N) made_B [made_l1_L N] [made_l2_h rec, made_l2_e0] none 400 true made_j1_at (stL made_j1_st (((), (), (), u, u2, ()), ((b, b2, b3, ()), ((), (), g, ()), ((), (), t, ()), t2, t3, ()))) (stH made_j1_st (((), (), (), u, u2, ()), ((b, b2, b3, ()), ((), (), g, ()), ((), (), t, ()), t2, t3, ()))) = made_j1 N rec u u2 b b2 b3 g t t2 t3 := by kernel_rfl
theorem made_j1_lf (N : Nat) (rec : Int → Int → (List Int) → Int → Int → Int → Int → (List (Int × (Int × Bool))) → (List (Int × (Int × Int))) → Option (List Int × Int × Int × Int × Int × (List (Int × (Int × Bool))) × (List (Int × (Int × Int))))) {z : List Int × Int × Int × Int × Int × (List (Int × (Int × Bool))) × (List (Int × (Int × Int)))} {top : Bool} {E : EE} {Xc : Ctx} (hE : EOK made_B.m0 E) (hX : CxOK top Xc) (hrec : LeafOK Try.prog made_B.c made_B.n made_B.m0 E Xc z (made_l2_h rec)) (h0 : LeafOK Try.prog made_B.c made_B.n made_B.m0 E Xc z made_l2_e0) : LeafOK Try.prog made_B.c made_B.n made_B.m0 E Xc z (made_j1_k N rec) := leaf_of_ev (B := made_B) (loops := [made_l1_L N]) (leaves := [made_l2_h rec, made_l2_e0]) (made_all N) mixed ⟨made_l1_ok N, trivial⟩ hE hX ⟨hrec, h0, trivial⟩ RetOK.no (fun p => made_j1_eq N rec p.1.2.2.2.1 p.1.2.2.2.2.1 p.2.1.1 p.2.1.2.1 p.2.1.2.2.1 p.2.2.1.2.2.1 p.2.2.2.1.2.2.1 p.2.2.2.2.1 p.2.2.2.2.2.1)
noncomputable def made_l2_L (N : Nat) : LoopS := { at_ := made_l2_at, sta := made_l2_st, exits := [([.c [1, 1, 1, 1, 0], .c [1, 1, 1, 1, 1]], ⟨[6, 7], ⟨[.own 1 0, .own 2 0], [.segs [.sl (.int .u8), .i .i64, .i .u32], .segs [.nils, .nils, .i .i64], .segs [.ols 3, .ols 4, .i .i64], .lst (.pair (.int .i64) (.pair (.int .i64) .bool)), .lst (.pair (.int .i64) (.pair (.int .i64) (.int .i64)))]⟩⟩)], run := fun p k => (made_l2 N N p.1.2.2.2.1 p.1.2.2.2.2.1 p.2.1.1 p.2.1.2.1 p.2.1.2.2.1 p.2.2.1.2.2.1 p.2.2.2.1.2.2.1 p.2.2.2.2.1 p.2.2.2.2.2.1).bind fun e => k (.inl (((), (), ()), ((e.1, e.2.1, e.2.2.1, ()), ((), (), e.2.2.2.1, ()), ((), (), e.2.2.2.2.1, ()), e.2.2.2.2.2.1, e.2.2.2.2.2.2, ()))) }
theorem made_l2_eq (N n_ : Nat) (u : Int) (u2 : Int) (b : List Int) (b2 : Int) (b3 : Int) (g : Int) (t : Int) (t2 : List (Int × (Int × Bool))) (t3 : List (Int × (Int × Int))) : ev (Z := List Int × Int × Int × Int × Int × (List (Int × (Int × Bool))) × (List (Int × (Int × Int)))) Try.prog (made_sp N) made_B [made_l1_L N] [made_l2_h (made_l2 N n_), made_l2_e0, made_j1_k N (made_l2 N n_)] none 400 true made_l2_at (stL made_l2_st (((), (), (), u, u2, ()), ((b, b2, b3, ()), ((), (), g, ()), ((), (), t, ()), t2, t3, ()))) (stH made_l2_st (((), (), (), u, u2, ()), ((b, b2, b3, ()), ((), (), g, ()), ((), (), t, ()), t2, t3, ()))) = made_l2 N (n_ + 1) u u2 b b2 b3 g t t2 t3 := by kernel_rfl
theorem made_l2_ok (N : Nat) {top : Bool} : LoopOK Try.prog made_B.c made_B.n made_B.m0 top (made_l2_L N) := loop_of_ev (Z := List Int × Int × Int × Int × Int × (List (Int × (Int × Bool))) × (List (Int × (Int × Int)))) (N := N) (fun m p => made_l2 N m p.1.2.2.2.1 p.1.2.2.2.2.1 p.2.1.1 p.2.1.2.1 p.2.1.2.2.1 p.2.2.1.2.2.1 p.2.2.2.1.2.2.1 p.2.2.2.2.1 p.2.2.2.2.2.1) (fun e => .inl (((), (), ()), ((e.1, e.2.1, e.2.2.1, ()), ((), (), e.2.2.2.1, ()), ((), (), e.2.2.2.2.1, ()), e.2.2.2.2.2.1, e.2.2.2.2.2.2, ()))) (fun _ _ _ => rfl) (fun _ => rfl) (fun m z E Xc hE hX hrec hx => leaf_of_ev (B := made_B) (loops := [made_l1_L N]) (leaves := [made_l2_h (made_l2 N m), made_l2_e0, made_j1_k N (made_l2 N m)]) (made_all N) mixed ⟨made_l1_ok N, trivial⟩ hE hX ⟨hrec, (fun p hp => by obtain rfl := Option.some.inj hp; exact hx), made_j1_lf N _ hE hX hrec (fun p hp => by obtain rfl := Option.some.inj hp; exact hx), trivial⟩ RetOK.no (fun p => made_l2_eq N m p.1.2.2.2.1 p.1.2.2.2.2.1 p.2.1.1 p.2.1.2.1 p.2.1.2.2.1 p.2.2.1.2.2.1 p.2.2.2.1.2.2.1 p.2.2.2.2.1 p.2.2.2.2.2.1))
abbrev made_st : Sta := ⟨[0, 1, 2], ⟨[.own 0 0, .i .i64, .i .i64], [.segs [.sl (.int .u8), .i .i64, .i .u32]]⟩⟩
theorem made_eq (N : Nat) (words : Int) (turns : Int) (b : List Int) (b2 : Int) (b3 : Int) : ev (Z := (List (Int × (Int × Bool))) × (List (Int × (Int × Int))) × Int × List Int × Int × Int) Try.prog (made_sp N) made_B [made_l1_L N, made_l2_L N] [] (some made_rt) 400 false [.c [0], .c [1]] (stL made_st (((), words, turns, ()), ((b, b2, b3, ()), ()))) (stH made_st (((), words, turns, ()), ((b, b2, b3, ()), ()))) = made_S N words turns b b2 b3 := by kernel_rfl
noncomputable def sp_made (N : Nat) : Spec := { f := 36, ins := ⟨[.own 0 0, .i .i64, .i .i64], [.segs [.sl (.int .u8), .i .i64, .i .u32]]⟩, outs := [⟨[.agg [.sl (.pair (.int .i64) (.pair (.int .i64) .bool)), .sl (.pair (.int .i64) (.pair (.int .i64) (.int .i64))), .i .i64]], [.segs [.sl (.int .u8), .i .i64, .i .u32]]⟩], run := fun p k => (made_S N p.1.2.1 p.1.2.2.1 p.2.1.1 p.2.1.2.1 p.2.1.2.2.1).bind fun r => k (((r.1, r.2.1, r.2.2.1, ()), ()), ((r.2.2.2.1, r.2.2.2.2.1, r.2.2.2.2.2, ()), ())) }
theorem sp_made_ok (N : Nat) : SpecOK Try.prog (sp_made N) := fn_sound (B := made_B) (loops := [made_l1_L N, made_l2_L N]) (leaves := []) (fun p => made_S N p.1.2.1 p.1.2.2.1 p.2.1.1 p.2.1.2.1 p.2.1.2.2.1) (fun r => (((r.1, r.2.1, r.2.2.1, ()), ()), ((r.2.2.2.1, r.2.2.2.2.1, r.2.2.2.2.2, ()), ()))) made_rt (fun _ _ _ => rfl) (fun r z h => by cases h; rfl) Try.func36 (by kernel_rfl) (by kernel_rfl) (by kernel_rfl) rfl rfl (by kernel_rfl) (fun args w => Sem.pv_run _ _ _ (by kernel_rfl) w) (made_all N) mixed ⟨made_l1_ok N, made_l2_ok N, trivial⟩ (fun z E Xc hE hX hret => trivial) (fun p => made_eq N p.1.2.1 p.1.2.2.1 p.2.1.1 p.2.1.2.1 p.2.1.2.2.1)

end Go.Proofs.Ytfamlpbdhhikdaa

namespace Go.Proofs.Ytfamlpbdhhikdaa
set_option linter.all false
open Go

def lists_l1 (N : Nat) : Nat → Int → Int → (List (Int × (Int × Bool))) → (List (Int × (Int × Int))) → Int → Option Int
  | 0, _, _, _, _, _ => none
  | n_ + 1, n, i, t, t2, t3 =>
    br (decide (i < (t.length : Int)))
      (chk (2 * n) <|
      chk (i + 1) <|
      lists_l1 N n_ (2 * n) (i + 1) t t2 t3)
      (some (n))
def lists_S (N : Nat) (t : List (Int × (Int × Bool))) (t2 : List (Int × (Int × Int))) (t3 : Int) : Option Int :=
  (lists_l1 N N 1 0 t t2 t3).bind fun n_1 =>
  some n_1
def list__j1 (N : Nat) (rec : Int → Int → (List Int) → Option (List Int)) (n : Int) (w : Int) (out : List Int) : Option (List Int) :=
  chk (w + 1) <|
  rec (IntKind.i64.wrap (Int.tdiv n 2)) (w + 1) out
def list__l1 (N : Nat) : Nat → Int → Int → (List Int) → Option (List Int)
  | 0, _, _, _ => none
  | n_ + 1, n, w, out =>
    br (decide (0 < n))
      (br (decide ((Int.tmod n 2) = 1))
        (lim (out.length + [w].length) <|
        list__j1 N (list__l1 N n_) n w (out ++ [w]))
        (list__j1 N (list__l1 N n_) n w out))
      (some (out))
def list__S (N : Nat) (n : Int) : Option (List Int) :=
  (list__l1 N N n 0 []).bind fun out_1 =>
  some out_1
def before_l1 (N : Nat) : Nat → (List Int) → (List Int) → Int → Option ((List Int × List Int × Int) ⊕ (Unit))
  | 0, _, _, _ => none
  | n_ + 1, a, b, i =>
    br (decide (i < (a.length : Int)))
      (idx a i fun x_1 =>
      idx b i fun x_2 =>
      br (!decide (x_1 = x_2))
        (some (.inl (a, b, i)))
        (chk (i + 1) <|
        before_l1 N n_ a b (i + 1)))
      (some (.inr ()))
def before_S (N : Nat) (a : List Int) (b : List Int) : Option Bool :=
  (before_l1 N N a b 0).bind fun e => match e with
  | .inl (a_3, b_4, i_5) =>
    idx a_3 i_5 fun x_6 =>
    idx b_4 i_5 fun x_7 =>
    some (decide (x_6 < x_7))
  | .inr _ =>
    some false
def rleast_j1 (N : Nat) (rec : Int → (List Int) → Int → (List (Int × (Int × Bool))) → (List (Int × (Int × Int))) → Int → Option (List Int)) (weight : Int) (best : List Int) (n : Int) (t : List (Int × (Int × Bool))) (t2 : List (Int × (Int × Int))) (t3 : Int) : Option (List Int) :=
  chk (n + 1) <|
  rec weight best (n + 1) t t2 t3
def rleast_l1 (N : Nat) : Nat → Int → (List Int) → Int → (List (Int × (Int × Bool))) → (List (Int × (Int × Int))) → Int → Option (List Int)
  | 0, _, _, _, _, _, _ => none
  | n_ + 1, weight, best, n, t, t2, t3 =>
    (lists_S N t t2 t3).bind fun x_2 =>
    br (decide (n < x_2))
      ((list__S N n).bind fun x_3 =>
      (said_S N t t2 t3 x_3).bind fun x_4 =>
      br (decide (0 < (x_4.length : Int)))
        (rleast_j1 N (rleast_l1 N n_) weight best n t t2 t3)
        ((rweight_S N t t2 t3 x_3).bind fun x_5 =>
        br (decide (x_5 < weight))
          (rleast_j1 N (rleast_l1 N n_) weight best n t t2 t3)
          (br (decide ((best.length : Int) = 0))
            (rleast_j1 N (rleast_l1 N n_) weight x_3 n t t2 t3)
            (br (decide ((x_3.length : Int) < (best.length : Int)))
              (rleast_j1 N (rleast_l1 N n_) weight x_3 n t t2 t3)
              (br (decide ((x_3.length : Int) = (best.length : Int)))
                ((before_S N x_3 best).bind fun x_6 =>
                br x_6
                  (rleast_j1 N (rleast_l1 N n_) weight x_3 n t t2 t3)
                  (rleast_j1 N (rleast_l1 N n_) weight best n t t2 t3))
                (rleast_j1 N (rleast_l1 N n_) weight best n t t2 t3))))))
      (some (best))
def rleast_S (N : Nat) (t : List (Int × (Int × Bool))) (t2 : List (Int × (Int × Int))) (t3 : Int) (weight : Int) : Option (List Int × Int) :=
  (rcheck_S N t t2 t3).bind fun x_1 =>
  br (!decide (x_1 = 0))
    (some ([], x_1))
    (br (decide (weight < 0))
      (some ([], 3))
      ((rleast_l1 N N weight [] 1 t t2 t3).bind fun best_7 =>
      br (decide ((best_7.length : Int) = 0))
        (some ([], 6))
        (some (best_7, 0))))
def wordso_l1 (N : Nat) : Nat → Int → Int → (List Int) → Option (List Int)
  | 0, _, _, _ => none
  | n_ + 1, to, w, out =>
    br (decide (w < to))
      (lim (out.length + [w].length) <|
      chk (w + 1) <|
      wordso_l1 N n_ to (w + 1) (out ++ [w]))
      (some (out))
def wordso_S (N : Nat) (from_ : Int) (to : Int) : Option (List Int) :=
  (wordso_l1 N N to from_ []).bind fun out_1 =>
  some out_1
def rspare_j1 (N : Nat) (rec : Int → (List (Int × (Int × Bool))) → (List (Int × (Int × Int))) → Int → (List Int) → Option (List Int)) (w : Int) (t : List (Int × (Int × Bool))) (t2 : List (Int × (Int × Int))) (t3 : Int) (out : List Int) : Option (List Int) :=
  chk (w + 1) <|
  rec (w + 1) t t2 t3 out
def rspare_l1 (N : Nat) : Nat → Int → (List (Int × (Int × Bool))) → (List (Int × (Int × Int))) → Int → (List Int) → Option (List Int)
  | 0, _, _, _, _, _ => none
  | n_ + 1, w, t, t2, t3, out =>
    br (decide (w < (t.length : Int)))
      (br (decide (1 < (t.length : Int)))
        ((wordso_S N 0 w).bind fun x_2 =>
        chk (w + 1) <|
        (wordso_S N (w + 1) (t.length : Int)).bind fun x_3 =>
        lim (x_2.length + x_3.length) <|
        (said_S N t t2 t3 (x_2 ++ x_3)).bind fun x_4 =>
        br (decide ((x_4.length : Int) = 0))
          (lim (out.length + [w].length) <|
          rspare_j1 N (rspare_l1 N n_) w t t2 t3 (out ++ [w]))
          (rspare_j1 N (rspare_l1 N n_) w t t2 t3 out))
        (some (out)))
      (some (out))
def rspare_S (N : Nat) (t : List (Int × (Int × Bool))) (t2 : List (Int × (Int × Int))) (t3 : Int) : Option (List Int × Int) :=
  (rcheck_S N t t2 t3).bind fun x_1 =>
  br (!decide (x_1 = 0))
    (some ([], x_1))
    ((rspare_l1 N N 0 t t2 t3 []).bind fun out_5 =>
    some (out_5, 0))
def tleast_S (N : Nat) (t : List (Int × (Int × Bool))) (t2 : List (Int × (Int × Int))) (t3 : Int) (weight : Int) : Option Bool :=
  (great_S N t t2 t3 10).bind fun x_1 =>
  br x_1
    ((awake_S N).bind fun x_2 =>
    some x_2)
    ((copyx_S N t t2 t3).bind fun (x_3, y_4, y_5) =>
    (theirs_S N t t2 t3).bind fun (x_6, y_7, y_8) =>
    (least_S N x_3 y_4 y_5 weight).bind fun (x_9, y_10) =>
    (rleast_S N x_6 y_7 y_8 weight).bind fun (x_11, y_12) =>
    br (!decide (y_10 = y_12))
      (some false)
      ((likei_S N x_9 x_11).bind fun x_13 =>
      br (!x_13)
        (some false)
        ((spare_S N x_3 y_4 y_5).bind fun (x_14, y_15) =>
        (rspare_S N x_6 y_7 y_8).bind fun (x_16, y_17) =>
        br (decide (y_15 = y_17))
          ((likei_S N x_14 x_16).bind fun x_18 =>
          br x_18
            ((same_S N x_3 y_4 y_5 t t2 t3).bind fun x_19 =>
            br x_19
              ((awake_S N).bind fun x_20 =>
              some x_20)
              (some false))
            (some false))
          (some false))))
end Go.Proofs.Ytfamlpbdhhikdaa

namespace Go.Proofs.Ytfamlpbdhhikdaa
set_option linter.all false
open Go

section
variable {R : Nat → Nat → Bool} {m : Nat}
end
/-! ### The program of the reference -/
section
variable {N : Nat} (hN : 110 ≤ N)
include hN
end
section
variable {ws : List Wd} {ts : List Tn} {br_ : Int}
variable {N : Nat} (hN : 1030 ≤ N)
include hN
end
/-! ### The fewest breaths -/
section
variable {N : Nat} {l : List (List Int)} (hl : l.length ≤ 100000) (h1 : ∀ x ∈ l, 1 ≤ x.length)
include hl h1
end
end Go.Proofs.Ytfamlpbdhhikdaa

namespace Go.Proofs.Ytfamlpbdhhikdaa
set_option linter.all false
open Go

section
variable {N : Nat} {l : List (List Int)} {ws : List Wd} {ts : List Tn} {br_ : Int} {O : List Int}
end
section
variable {R : Nat → Nat → Bool} {m : Nat}
end
section
variable {N : Nat} {ws : List Wd} {ts : List Tn} {br_ : Int} (hF : TFine ws ts br_) (hN : 1030 ≤ N) (hm : ws.length ≤ 10)
include hF hm hN
end
end Go.Proofs.Ytfamlpbdhhikdaa

namespace Go.Proofs.Ytfamlpbdhhikdaa
set_option linter.all false
open Go

section
variable {ws : List Wd} {ts : List Tn} {br_ : Int}
variable {N : Nat} (hN : 110 ≤ N) (hF : TFine ws ts br_)
include hN hF
end
/-! ### Sure readings -/
section
variable {ws : List Wd} {ts : List Tn} {br_ : Int} {N : Nat} (hN : 110 ≤ N) (hF : TFine ws ts br_)
include hN hF
end
/-! ### No run of a sure reading says a turn otherwise -/
section
variable {ws : List Wd} {ts : List Tn} {br_ : Int}
end
end Go.Proofs.Ytfamlpbdhhikdaa

namespace Go.Proofs.Ytfamlpbdhhikdaa
set_option linter.all false
open Go

section
variable {N : Nat} {ws : List Wd} {ts : List Tn} {br_ : Int} (hN : 110 ≤ N) (hF : TFine ws ts br_)
include hN hF
end
section
variable {N : Nat} {ws : List Wd} {ts : List Tn} {br_ : Int} (hF : TFine ws ts br_) (hN : 1030 ≤ N) (hm : ws.length ≤ 10)
include hF hm hN
end
end Go.Proofs.Ytfamlpbdhhikdaa

namespace Go.Proofs.Ytfamlpbdhhikdaa
set_option linter.all false
open Go

/-! ### Bells -/
theorem wrap32 (x : Int) : 0 ≤ IntKind.u32.wrap x ∧ IntKind.u32.wrap x < 4294967296 := by
  have := wrap_inR .u32 x
  have h1 : IntKind.u32.min = 0 := by decide
  have h2 : IntKind.u32.max = 4294967295 := by decide
  unfold inR at this
  rw [h1, h2] at this
  omega
def Bell (b : List Int) (b2 : Int) : Prop := b.length ≤ 9223372036854775807 ∧ 0 ≤ b2 ∧ b2 ≤ b.length
abbrev BellR (b : List Int) (r : List Int × Int × Int) : Prop := r.1 = b ∧ Bell b r.2.1
theorem and_small (n : Nat) : 0 ≤ IntKind.i64.wrap ((n &&& 65535 : Nat) : Int) ∧ IntKind.i64.wrap ((n &&& 65535 : Nat) : Int) ≤ 65535 := by
  have : n &&& 65535 ≤ 65535 := Nat.and_le_right
  rw [wrap64 (by omega)]
  omega
theorem fdiv_nonneg {x : Int} (h : 0 ≤ x) : 0 ≤ Int.fdiv x (2 ^ 7) := by
  rw [Int.fdiv_eq_ediv_of_nonneg _ (by decide)]
  exact Int.ediv_nonneg h (by decide)
theorem ring_j1_ok (N : Nat) {b : List Int} {b2 b3 : Int} (hb : b.length ≤ 9223372036854775807) (h0 : 0 ≤ b2) (h1 : b2 < b.length ∨ b.length = 0 ∧ b2 = 0) : Ok (ring_j1 N b b2 b3) fun r => (0 ≤ r.1 ∧ r.1 ≤ 65535) ∧ BellR b r.2 := by
  unfold ring_j1
  refine Ok.brd (fun h => ?_) (fun h => ?_)
  · refine Ok.idx h0 (by omega) (fun a _ _ => Ok.chk (by omega) (Ok.grd ?_ (Ok.grd ?_ (Ok.some ?_))))
    · simp only [decide_eq_true_eq]; exact ⟨(wrap32 _).1, fdiv_nonneg (wrap32 _).1⟩
    · simp only [decide_eq_true_eq]; exact ⟨Int.natCast_nonneg _, by decide⟩
    · exact ⟨and_small _, rfl, hb, by dsimp only; omega, by dsimp only; omega⟩
  · refine Ok.grd ?_ (Ok.grd ?_ (Ok.some ?_))
    · simp only [decide_eq_true_eq]; exact ⟨(wrap32 _).1, fdiv_nonneg (wrap32 _).1⟩
    · simp only [decide_eq_true_eq]; exact ⟨Int.natCast_nonneg _, by decide⟩
    · exact ⟨and_small _, rfl, hb, by dsimp only; omega, by dsimp only; omega⟩
theorem ring_ok (N : Nat) {b : List Int} {b2 b3 : Int} (hb : Bell b b2) : Ok (ring_S N b b2 b3) fun r => (0 ≤ r.1 ∧ r.1 ≤ 65535) ∧ BellR b r.2 := by
  obtain ⟨h1, h2, h3⟩ := hb
  unfold ring_S
  refine Ok.brd (fun h => ring_j1_ok N h1 (by omega) (by omega)) (fun h => ring_j1_ok N h1 h2 (by omega))
theorem stroke_ok (N : Nat) {n : Int} {b : List Int} {b2 b3 : Int} (hb : Bell b b2) (hn : -1000000 ≤ n ∧ n ≤ 1000000) : Ok (stroke_S N n b b2 b3) fun r => (0 ≤ r.1 ∧ r.1 ≤ max 0 n) ∧ BellR b r.2 := by
  unfold stroke_S
  refine Ok.bind (ring_ok N hb) (fun r hr => ?_)
  obtain ⟨x, c, c2, c3⟩ := r
  refine Ok.chk (by omega) (Ok.grd (by simp only [Bool.not_eq_true', decide_eq_false_iff_not]; omega) (Ok.some ⟨?_, hr.2⟩))
  obtain ⟨⟨h1, h2⟩, _⟩ := hr
  dsimp only at *
  have hm : 0 < max 1 (n + 1) := by omega
  have := Int.tmod_lt_of_pos x hm
  have := Int.tmod_nonneg (max 1 (n + 1)) h1
  omega
theorem strike_ok (N : Nat) {lo hi : Int} {b : List Int} {b2 b3 : Int} (hb : Bell b b2) (hn : (-1000 ≤ lo ∧ lo ≤ 1000) ∧ -1000 ≤ hi ∧ hi ≤ 1000) : Ok (strike_S N lo hi b b2 b3) fun r => (lo ≤ r.1 ∧ r.1 ≤ max lo hi) ∧ BellR b r.2 := by
  unfold strike_S
  refine Ok.chk (by omega) (Ok.bind (stroke_ok N hb (by omega)) (fun r hr => ?_))
  obtain ⟨x, c, c2, c3⟩ := r
  obtain ⟨h, h2⟩ := hr
  dsimp only at *
  refine Ok.chk (by omega) (Ok.some ⟨by dsimp only; omega, h2⟩)
theorem seldom_ok (N : Nat) {n : Int} {b : List Int} {b2 b3 : Int} (hb : Bell b b2) (hn : -1000 ≤ n ∧ n ≤ 1000) : Ok (seldom_S N n b b2 b3) fun r => BellR b r.2 := by
  unfold seldom_S
  refine Ok.chk (by omega) (Ok.bind (stroke_ok N hb (by omega)) (fun r hr => ?_))
  obtain ⟨x, c, c2, c3⟩ := r
  exact Ok.some hr.2

/-! ### Texts that are made -/
theorem checkT_of {ws : List Wd} {ts : List Tn} {br_ : Int} (h : TFine ws ts br_) : checkT ws ts br_ = 0 := by
  have h1 := h.n0; have h2 := h.n; have h3 := h.t; have h4 := h.b0; have h5 := h.b1
  have e1 : ws.all okw = true := by
    rw [List.all_eq_true]
    intro w hw
    have := h.w w hw
    simp [okw]; omega
  have e2 : ts.all (ok2 ws.length) = true := by
    rw [List.all_eq_true]
    intro x hx
    have := h.x x hx
    simp only [ok2, inT, Bool.and_eq_true, decide_eq_true_eq]; omega
  have e3 : ts.all ok3 = true := by
    rw [List.all_eq_true]
    intro x hx
    have := h.x x hx
    simp only [ok3, decide_eq_true_eq]; omega
  have e4 : ts.all ok4 = true := by
    rw [List.all_eq_true]
    intro x hx
    have := h.x x hx
    simp only [ok4, Bool.not_eq_true', decide_eq_false_iff_not]; omega
  unfold checkT
  rw [if_neg (by omega), if_neg (by omega), if_neg (by omega), if_neg (by simp [e1]), if_neg (by simp [e2]), if_neg (by simp [e3]), if_neg (by simp [e4])]
abbrev BelR (b : List Int) (c : List Int) (c2 : Int) : Prop := c = b ∧ Bell b c2
def okWd (w : Wd) : Prop := (1 ≤ w.1 ∧ w.1 ≤ 9) ∧ 0 ≤ w.2.1 ∧ w.2.1 ≤ 20
def okTn (m : Nat) (x : Tn) : Prop := (0 ≤ x.1 ∧ x.1 < m) ∧ (0 ≤ x.2.1 ∧ x.2.1 < m) ∧ (0 ≤ x.2.2 ∧ x.2.2 < m) ∧ x.2.1 ≤ x.2.2 ∧ ¬ (x.2.1 ≤ x.1 ∧ x.1 ≤ x.2.2)
section
variable {N : Nat} {b : List Int}
theorem made_l1_p {turns u g t : Int} (hu : 0 ≤ u ∧ u ≤ 100) : ∀ (n k : Nat) (b2 b3 : Int) (W : List Wd), u < n + k → (k : Int) ≤ u → Bell b b2 → W.length = k → (∀ w ∈ W, okWd w) →
    Ok (made_l1 N n turns u k b b2 b3 g t W) fun z => z.1 = turns ∧ BelR b z.2.1 z.2.2.1 ∧ z.2.2.2.2.1 = g ∧ z.2.2.2.2.2.1 = t ∧ (z.2.2.2.2.2.2.length : Int) = u ∧ ∀ w ∈ z.2.2.2.2.2.2, okWd w
  | 0, k, b2, b3, W, h, _, _, _, _ => by omega
  | n + 1, k, b2, b3, W, h, hk, hb, hW, hw => by
    unfold made_l1
    refine Ok.brd (fun c => ?_) (fun c => Ok.some ⟨rfl, ⟨rfl, hb⟩, rfl, rfl, by dsimp only; omega, hw⟩)
    refine Ok.bind (strike_ok N hb (by omega)) ?_
    rintro ⟨x, c1, c2, c3⟩ ⟨hx, hc, hb1⟩
    dsimp only at hx hc hb1 ⊢
    obtain rfl := hc.symm
    refine Ok.bind (stroke_ok N hb1 (by omega)) ?_
    rintro ⟨y, d1, d2, d3⟩ ⟨hy, hc, hb2⟩
    dsimp only at hy hc hb2 ⊢
    obtain rfl := hc.symm
    refine Ok.bind (seldom_ok N hb2 (by omega)) ?_
    rintro ⟨z, e1, e2, e3⟩ ⟨hc, hb3⟩
    dsimp only at hc hb3 ⊢
    obtain rfl := hc.symm
    refine Ok.lim (by simp; omega) (Ok.chk (by omega) ?_)
    have := made_l1_p (turns := turns) (g := g) (t := t) hu n (k + 1) e2 e3 (W ++ [(x, y, !z)]) (by omega) (by omega) hb3 (by simp [hW]) (fun w hm => by
      rcases List.mem_append.1 hm with hm | hm
      · exact hw w hm
      · simp at hm; subst hm; exact ⟨by dsimp only; omega, by dsimp only; omega, by dsimp only; omega⟩)
    rw [show ((k + 1 : Nat) : Int) = (k : Int) + 1 by omega] at this
    exact this
theorem made_l2_p {u g t : Int} {W : List Wd} (hu : u ≤ 100) (hW : W.length ≤ 100) : ∀ (n k : Nat) (b2 b3 : Int) (X : List Tn), u < n + k → 0 < n → Bell b b2 → X.length ≤ k → k ≤ 1000 → (∀ x ∈ X, okTn W.length x) → ((X.length : Int) ≤ max u 0) →
    Ok (made_l2 N n u k b b2 b3 g t W X) fun z => BelR b z.1 z.2.1 ∧ z.2.2.2.1 = g ∧ z.2.2.2.2.1 = t ∧ z.2.2.2.2.2.1 = W ∧ ((z.2.2.2.2.2.2.length : Int) ≤ max u 0) ∧ ∀ x ∈ z.2.2.2.2.2.2, okTn W.length x
  | 0, k, b2, b3, X, h, h0, _, _, _, _, _ => by omega
  | n + 1, k, b2, b3, X, h, h0, hb, hX, hk, hx, hl => by
    unfold made_l2
    refine Ok.brd (fun c => ?_) (fun c => Ok.some ⟨⟨rfl, hb⟩, rfl, rfl, rfl, hl, hx⟩)
    refine Ok.brd (fun c => Ok.some ⟨⟨rfl, hb⟩, rfl, rfl, rfl, hl, hx⟩) (fun c2 => ?_)
    refine Ok.chk (by omega) (Ok.bind (stroke_ok N hb (by omega)) ?_)
    rintro ⟨lo, c1, c2', c3⟩ ⟨hlo, hc, hb1⟩
    dsimp only at hlo hc hb1 ⊢
    obtain rfl := hc.symm
    refine Ok.chk (by omega) (Ok.bind (stroke_ok N hb1 (by omega)) ?_)
    rintro ⟨y, d1, d2, d3⟩ ⟨hy, hc, hb2⟩
    dsimp only at hy hc hb2 ⊢
    obtain rfl := hc.symm
    refine Ok.chk (by omega) (Ok.chk (by omega) (Ok.bind (stroke_ok N hb2 (by omega)) ?_))
    rintro ⟨w, e1, e2, e3⟩ ⟨hw, hc, hb3⟩
    dsimp only at hw hc hb3 ⊢
    obtain rfl := hc.symm
    have hj : ∀ X', made_j1 N (made_l2 N n) u k b e2 e3 g t W X' = made_l2 N n u ((k + 1 : Nat) : Int) b e2 e3 g t W X' := fun X' => by
      unfold made_j1
      rw [chk_eq (by omega)]; rfl
    simp only [hj]
    have put : (w < lo ∨ min ((W.length : Int) - 1) (lo + y) < w) → Ok (lim (X.length + [(w, lo, min ((W.length : Int) - 1) (lo + y))].length) <| made_l2 N n u ((k + 1 : Nat) : Int) b e2 e3 g t W (X ++ [(w, lo, min ((W.length : Int) - 1) (lo + y))])) fun z => BelR b z.1 z.2.1 ∧ z.2.2.2.1 = g ∧ z.2.2.2.2.1 = t ∧ z.2.2.2.2.2.1 = W ∧ ((z.2.2.2.2.2.2.length : Int) ≤ max u 0) ∧ ∀ x ∈ z.2.2.2.2.2.2, okTn W.length x := fun hc => by
      refine Ok.lim (by simp; omega) ?_
      exact made_l2_p hu hW n (k + 1) e2 e3 _ (by omega) (by omega) hb3 (by simp; omega) (by omega) (fun x hm => by
        rcases List.mem_append.1 hm with hm | hm
        · exact hx x hm
        · simp at hm; subst hm
          unfold okTn; dsimp only; omega) (by simp; omega)
    refine Ok.brd (fun q => put (.inl q)) (fun q => Ok.brd (fun q2 => put (.inr q2)) (fun q2 => ?_))
    exact made_l2_p hu hW n (k + 1) e2 e3 X (by omega) (by omega) hb3 (by omega) (by omega) hx hl
theorem made_v (hN : 110 ≤ N) {words turns b2 b3 : Int} (hw : 1 ≤ words ∧ words ≤ 12) (ht : 0 ≤ turns ∧ turns ≤ 6) (hb : Bell b b2) :
    Ok (made_S N words turns b b2 b3) fun z => TFine z.1 z.2.1 z.2.2.1 ∧ (z.1.length : Int) ≤ words ∧ BelR b z.2.2.2.1 z.2.2.2.2.1 := by
  unfold made_S
  refine Ok.bind (strike_ok N hb (by omega)) ?_
  rintro ⟨x, c1, c2, c3⟩ ⟨hx, hc, hb1⟩
  dsimp only at hx hc hb1 ⊢
  obtain rfl := hc.symm
  refine Ok.bind (strike_ok N hb1 (by omega)) ?_
  rintro ⟨m, d1, d2, d3⟩ ⟨hm, hc, hb2⟩
  dsimp only at hm hc hb2 ⊢
  obtain rfl := hc.symm
  have e1 := made_l1_p (N := N) (turns := turns) (g := 0) (t := x) (u := m) (by omega) N 0 d2 d3 [] (by omega) (by omega) hb2 rfl (fun w h => by cases h)
  simp only [Int.natCast_zero] at e1
  refine Ok.bind e1 ?_
  rintro ⟨t', f1, f2, f3, g', x', W⟩ ⟨q1, ⟨q2, hb3⟩, q3, q4, hl, hW⟩
  dsimp only at q1 q2 q3 q4 hb3 hl hW ⊢
  obtain rfl := q1.symm
  obtain rfl := q2.symm
  obtain rfl := q3.symm
  obtain rfl := q4.symm
  refine Ok.bind (stroke_ok N hb3 (by omega)) ?_
  rintro ⟨k, h1, h2, h3⟩ ⟨hk, hc, hb4⟩
  dsimp only at hk hc hb4 ⊢
  obtain rfl := hc.symm
  have e2 := made_l2_p (N := N) (u := k) (g := 0) (t := x) (W := W) (by omega) (by omega) N 0 h2 h3 [] (by omega) (by omega) hb4 (by simp) (by omega) (fun x h => by cases h) (by simp; omega)
  simp only [Int.natCast_zero] at e2
  refine Ok.bind e2 ?_
  rintro ⟨i1, i2, i3, g'', x'', W', X⟩ ⟨⟨q2, hb5⟩, q3, q4, q5, hl2, hX⟩
  dsimp only at q2 q3 q4 q5 hb5 hl2 hX ⊢
  obtain rfl := q2.symm
  obtain rfl := q3.symm
  obtain rfl := q4.symm
  obtain rfl := q5.symm
  refine Ok.some ⟨⟨by dsimp only; omega, by dsimp only; omega, by dsimp only; omega, by dsimp only; omega, by dsimp only; omega, hW, hX⟩, by dsimp only; omega, rfl, hb5⟩
/-! ### Readings that are tried -/
end
end Go.Proofs.Ytfamlpbdhhikdaa

namespace Go.Proofs.Ytfamlpbdhhikdaa
set_option linter.all false
open Go

section
variable {N : Nat} {ws : List Wd} {ts : List Tn} {br_ : Int}
variable (hN : 110 ≤ N) (hF : TFine ws ts br_)
include hN hF
omit hN hF
/-! ### Places -/
/-! ### Right readings -/
include hN hF
end
end Go.Proofs.Ytfamlpbdhhikdaa

namespace Go.Proofs.Ytfamlpbdhhikdaa
set_option linter.all false
open Go

section
variable {N : Nat} {ws : List Wd} {ts : List Tn} {br_ : Int} (hN : 110 ≤ N) (hF : TFine ws ts br_)
include hN hF
end
end Go.Proofs.Ytfamlpbdhhikdaa

namespace Go.Proofs.Ytfamlpbdhhikdaa
set_option linter.all false
open Go

/-! ### Runs that no turn is said otherwise by -/
section
variable {N : Nat} {ws : List Wd} {ts : List Tn} {br_ : Int} (hN : 110 ≤ N) (ht : ts.length ≤ 100)
include hN ht
end
/-! ### Turns that are parted -/
section
variable {ws : List Wd} {ts : List Tn} {br_ : Int}
end
section
variable {N : Nat} {ws : List Wd} {ts : List Tn} {br_ : Int} (hN : 110 ≤ N) (hF : TFine ws ts br_)
include hN hF
end
end Go.Proofs.Ytfamlpbdhhikdaa

namespace Go.Proofs.Ytfamlpbdhhikdaa
set_option linter.all false
open Go

section
variable {N : Nat} {ws : List Wd} {ts : List Tn} {br_ : Int} (hN : 110 ≤ N) (hF : TFine ws ts br_)
include hN hF
end
end Go.Proofs.Ytfamlpbdhhikdaa

namespace Go.Proofs.Ytfamlpbdhhikdaa
set_option linter.all false
open Go

/-- Marks from others, lowered at the places of right breaths from places ahead of one. -/
structure Low (R : Nat → Nat → Bool) (m f : Nat) (A M : List Int) : Prop where
  len : M.length = 13
  le : ∀ q, M.getD q 0 ≤ A.getD q 0
  hold : ∀ p q, p < f → p < q → q ≤ m → R p q = true → M.getD q 0 ≤ M.getD p 0 + 1
  why : ∀ q, M.getD q 0 = A.getD q 0 ∨ ∃ p, p < f ∧ p < q ∧ q ≤ m ∧ R p q = true ∧ M.getD q 0 = M.getD p 0 + 1
structure Mk (A : List Int) : Prop where
  len : A.length = 13
  bd : ∀ q, 0 ≤ A.getD q 0 ∧ A.getD q 0 ≤ 99
section
variable {R : Nat → Nat → Bool} {m : Nat} {A M : List Int}
theorem Low.bd (hA : Mk A) {f : Nat} (h : Low R m f A M) : ∀ q, 0 ≤ M.getD q 0 ∧ M.getD q 0 ≤ 99 := by
  intro q
  induction q using Nat.strongRecOn with
  | ind q ih =>
    have h1 := h.le q
    have h2 := hA.bd q
    rcases h.why q with e | ⟨p, _, hp, _, _, e⟩
    · omega
    · have := ih p hp; omega
theorem Low.next {f : Nat} {M' : List Int} (h : Low R m f A M) (hl : M'.length = 13) (hM : ∀ q, M'.getD q 0 = if (f < q ∧ q ≤ m ∧ R f q = true) then min (M.getD q 0) (M.getD f 0 + 1) else M.getD q 0) : Low R m (f + 1) A M' := by
  have hle : ∀ q, M'.getD q 0 ≤ M.getD q 0 := fun q => by
    rw [hM q]; split <;> omega
  have hsm : ∀ p, p ≤ f → M'.getD p 0 = M.getD p 0 := fun p hp => by rw [hM p, if_neg (by omega)]
  refine ⟨hl, fun q => Int.le_trans (hle q) (h.le q), fun p q h1 h2 h3 h4 => ?_, fun q => ?_⟩
  · rw [hsm p (by omega)]
    by_cases e : p = f
    · subst e
      rw [hM q, if_pos ⟨h2, h3, h4⟩]; omega
    · have := h.hold p q (by omega) h2 h3 h4
      have := hle q; omega
  · by_cases e : M'.getD q 0 = M.getD q 0
    · rw [e]
      rcases h.why q with h1 | ⟨p, h1, h2, h3, h4, h5⟩
      · exact .inl h1
      · exact .inr ⟨p, by omega, h2, h3, h4, by rw [hsm p (by omega)]; exact h5⟩
    · by_cases c : f < q ∧ q ≤ m ∧ R f q = true
      · have h1 := hM q
        rw [if_pos c] at h1
        exact .inr ⟨f, by omega, c.1, c.2.1, c.2.2, by rw [hsm f (Nat.le_refl _)]; omega⟩
      · exact absurd (by rw [hM q, if_neg c]) e
theorem Low.holds (h : Low R m m A A) : ∀ p q, p < q → q ≤ m → R p q = true → A.getD q 0 ≤ A.getD p 0 + 1 := fun p q h1 h2 h3 => h.hold p q (by omega) h1 h2 h3
end
section
variable {N : Nat} {ws : List Wd} {ts : List Tn} {br_ : Int} (hN : 110 ≤ N) (hF : TFine ws ts br_)
include hF
include hN
end
end Go.Proofs.Ytfamlpbdhhikdaa

namespace Go.Proofs.Ytfamlpbdhhikdaa
set_option linter.all false
open Go

section
variable {N : Nat} {ws : List Wd} {ts : List Tn} {br_ : Int} (hN : 110 ≤ N) (hF : TFine ws ts br_)
include hN hF
end
end Go.Proofs.Ytfamlpbdhhikdaa

namespace Go.Proofs.Ytfamlpbdhhikdaa
set_option linter.all false
open Go

/-- Words keep the sense of a turn. -/
def keepP (l : List Int) (x : Tn) : Bool := !sayP l x
section
variable {N : Nat} {ws : List Wd} {ts : List Tn} {br_ : Int}
theorem keeps1_l1_p {l : List Int} (hl : l.length ≤ 1000) (hN : l.length < N) {x : Tn} (hx : -1000 ≤ x.2.1 ∧ x.2.2 ≤ 1000) : ∀ (n : Nat) (w : Int), (x.2.2 + 1 - w).toNat < n → x.2.1 ≤ w →
    keeps1_l1 N n l w x.1 x.2.1 x.2.2 = some (if (wordsL w (x.2.2 + 1)).all (fun w => l.contains w) then .inr (l, x.1, x.2.1, x.2.2) else .inl ())
  | 0, w, h, _ => by omega
  | n + 1, w, h, h1 => by
    unfold keeps1_l1
    by_cases c : w ≤ x.2.2
    · have ih := keeps1_l1_p hl hN hx n (w + 1) (by omega) (by omega)
      have e : wordsL w (x.2.2 + 1) = w :: wordsL (w + 1) (x.2.2 + 1) := by
        unfold wordsL
        rw [show (x.2.2 + 1 - w).toNat = (x.2.2 + 1 - (w + 1)).toNat + 1 by omega, List.range_succ_eq_map, List.map_cons, List.map_map]
        congr 1
        · simp
        · refine List.map_congr_left fun i _ => ?_
          simp only [Function.comp]; omega
      rw [e, List.all_cons, br_dec c, containsi_v hl hN]
      simp only [Option.bind_some]
      cases l.contains w
      · rfl
      · rw [Bool.not_true, br_false, chk_eq (by omega), ih, Bool.true_and]
    · rw [br_ndec c]
      have : wordsL w (x.2.2 + 1) = [] := by unfold wordsL; rw [show (x.2.2 + 1 - w).toNat = 0 by omega]; rfl
      rw [this]; rfl
theorem keeps1_v {l : List Int} (hl : l.length ≤ 1000) (hN : l.length < N) {x : Tn} (hx : -1000 ≤ x.2.1 ∧ x.2.2 ≤ 1000) (hN2 : (x.2.2 + 1 - x.2.1).toNat < N) : keeps1_S N x.1 x.2.1 x.2.2 l = some (keepP l x) := by
  unfold keeps1_S keepP sayP coreB
  rw [keeps1_l1_p hl hN hx N x.2.1 hN2 (by omega)]
  cases (wordsL x.2.1 (x.2.2 + 1)).all (fun w => l.contains w)
  · rfl
  · simp only [if_true, Option.bind_some]
    rw [containsi_v hl hN]
    simp
theorem ixft5_gen {l : List Int} {p : Tn → Bool} : ∀ (n : Nat) (s : List Tn) (u u2 : Int), (∀ x ∈ s, keeps1_S N x.1 x.2.1 x.2.2 l = some (p x)) → ixft5_l1 N n s u u2 l = (ixL (fun x => some (!p x)) n s u u2).map fun r => match r with | .inl i => .inl (i, l) | .inr _ => .inr l
  | 0, _, _, _, _ => rfl
  | n + 1, s, u, u2, h => by
    unfold ixft5_l1 ixL every1t5_S
    unfold br
    split
    · unfold idx
      split
      · cases hg : s[u2.toNat]? with
        | none => rfl
        | some a =>
          dsimp only
          rw [h a (List.mem_of_getElem? hg)]
          simp only [Option.bind_some, ixft5_gen n s u (u2 + 1) h]
          cases p a
          · rfl
          · simp only [Bool.not_true, Bool.false_eq_true, if_false]
            unfold chk
            split <;> rfl
      · rfl
    · rfl
theorem everyt5_v {l : List Int} {p : Tn → Bool} (h : ∀ x ∈ ts, keeps1_S N x.1 x.2.1 x.2.2 l = some (p x)) (ht : ts.length ≤ 1000000) (hN : ts.length < N) : everyt5_S N ts l = some (ts.all p) := by
  unfold everyt5_S coft5_S ixft5_S
  rw [← every_gen (f := fun x : Tn => some (p x)) (p := p) (s := ts) (N := N) (fun x _ => rfl) ht hN]
  unfold ixS
  rw [ixft5_gen _ _ _ _ h]
  simp only [Option.bind_some]
  cases ixL (fun x => some (!p x)) N ts ts.length 0 with
  | none => rfl
  | some r => cases r <;> rfl
variable (hN : 110 ≤ N) (hF : TFine ws ts br_)
include hN hF
theorem keeps_v {l : List Int} (hl : l.length ≤ 100) : keeps_S N (ws, ts, br_) l = some (ts.all (keepP l)) := by
  have hn := hF.n; have ht := hF.t
  unfold keeps_S
  dsimp only
  rw [everyt5_v (p := keepP l) (fun x hx => by
    have := hF.x x hx
    exact keeps1_v (by omega) (by omega) (by omega) (by omega)) (by omega) (by omega)]
  rfl
theorem said_keep {l : List Int} (hl : l.length ≤ 100) : ∃ s, said_S N ws ts br_ l = some s ∧ s.length ≤ 100 ∧ decide ((s.length : Int) = 0) = ts.all (keepP l) := by
  have ht := hF.t
  refine ⟨_, hF.said (by omega) (by omega) (by omega), ?_, ?_⟩
  · have := selK_len (sayP l) ts ts.length; omega
  · rw [Bool.eq_iff_iff, decide_eq_true_eq, List.all_eq_true]
    constructor
    · intro h x hx
      obtain ⟨i, hi, rfl⟩ := List.getElem_of_mem hx
      unfold keepP
      cases hs : sayP l ts[i]
      · rfl
      · exfalso
        have : (i : Int) ∈ selK (sayP l) ts ts.length := by
          simp only [selK, List.mem_map, List.mem_filter, List.mem_range]
          exact ⟨i, ⟨hi, by simpa [List.getD, hi] using hs⟩, rfl⟩
        have := List.length_pos_of_mem this
        omega
    · intro h
      have : selK (sayP l) ts ts.length = [] := by
        cases hq : selK (sayP l) ts ts.length with
        | nil => rfl
        | cons a r =>
          exfalso
          have hm : a ∈ selK (sayP l) ts ts.length := by rw [hq]; simp
          simp only [selK, List.mem_map, List.mem_filter, List.mem_range] at hm
          obtain ⟨i, ⟨hi, hp⟩, _⟩ := hm
          have := h _ (getD_mem (d := (0, 0, 0)) hi)
          unfold keepP at this
          rw [hp] at this; cases this
      rw [this]; rfl
omit hN hF
/-- The weight of words. -/
def wtR (ws : List Wd) (l : List Int) : Int := (l.map fun w => (ws.getD w.toNat (0, 0, false)).2.1).sum
def inW (ws : List Wd) (l : List Int) : Prop := ∀ w ∈ l, 0 ≤ w ∧ w < ws.length
include hF
theorem weight_l1_p {l : List Int} (hl : l.length ≤ 1000) (hw : inW ws l) : ∀ (n k : Nat) (O : List Int), l.length < n + k → k ≤ l.length → O.length = k →
    weight_l1 N n (ws, ts, br_) l l.length k O = some (O ++ (l.drop k).map fun w => (ws.getD w.toNat (0, 0, false)).2.1)
  | 0, k, O, h, _, _ => by omega
  | n + 1, k, O, h, hk, hO => by
    by_cases c : k < l.length
    · have g := gets c 0
      have hx := hw _ (getD_mem (d := 0) c)
      rw [drop_cons c 0]
      generalize l.getD k 0 = x at *
      have g2 : ws[x.toNat]? = some (ws.getD x.toNat (0, 0, false)) := by
        simp [List.getD, show x.toNat < ws.length by omega]
      have ih := weight_l1_p hl hw n (k + 1) (O ++ [(ws.getD x.toNat (0, 0, false)).2.1]) (by omega) (by omega) (by simp [hO])
      rw [show ((k + 1 : Nat) : Int) = (k : Int) + 1 by omega] at ih
      rw [weight_l1, br_dec (by omega), idx_eq (by omega) g, idx_eq (l := ws) hx.1 g2, lim_eq (by simp; omega), chk_eq (by omega), ih]
      simp
    · rw [weight_l1, br_ndec (by omega), List.drop_of_length_le (by omega)]; simp
theorem wt_mem {l : List Int} (hw : inW ws l) : ∀ x ∈ l.map fun w => (ws.getD w.toNat (0, 0, false)).2.1, 0 ≤ x ∧ x ≤ 20 := by
  intro x hx
  obtain ⟨w, hm, rfl⟩ := List.mem_map.1 hx
  have := hw w hm
  exact (hF.w _ (getD_mem (show w.toNat < ws.length by omega))).2
theorem weight_v {l : List Int} (hl : l.length ≤ 100) (hNl : 110 ≤ N) (hw : inW ws l) : weight_S N (ws, ts, br_) l = some (wtR ws l) := by
  have e := weight_l1_p (N := N) hF (l := l) (by omega) hw N 0 [] (by omega) (by omega) rfl
  simp only [Int.natCast_zero, List.drop_zero, List.nil_append] at e
  unfold weight_S
  rw [e]
  simp only [Option.bind_some]
  have hm := wt_mem hF hw
  rw [sum_v (m := 20) (by simp; omega) (by simp; omega) (by omega) (fun x hx => by have := hm x hx; omega)]
  rfl
theorem rweight_l1_p {l : List Int} (hl : l.length ≤ 1000) (hw : inW ws l) : ∀ (n k : Nat) (s : Int), l.length < n + k → k ≤ l.length → 0 ≤ s ∧ s ≤ 20 * k →
    rweight_l1 N n l s k ws ts br_ = some (s + ((l.drop k).map fun w => (ws.getD w.toNat (0, 0, false)).2.1).sum)
  | 0, k, s, h, _, _ => by omega
  | n + 1, k, s, h, hk, hs => by
    by_cases c : k < l.length
    · have g := gets c 0
      have hx := hw _ (getD_mem (d := 0) c)
      rw [drop_cons c 0]
      generalize l.getD k 0 = x at *
      have hm := (hF.w _ (getD_mem (d := (0, 0, false)) (show x.toNat < ws.length by omega))).2
      have g2 : ws[x.toNat]? = some (ws.getD x.toNat (0, 0, false)) := by
        simp [List.getD, show x.toNat < ws.length by omega]
      have ih := rweight_l1_p hl hw n (k + 1) (s + (ws.getD x.toNat (0, 0, false)).2.1) (by omega) (by omega) (by omega)
      rw [show ((k + 1 : Nat) : Int) = (k : Int) + 1 by omega] at ih
      rw [rweight_l1, br_dec (by omega), idx_eq (by omega) g, idx_eq hx.1 g2, chk_eq (by omega), chk_eq (by omega), ih, List.map_cons, List.sum_cons, Int.add_assoc]
    · rw [rweight_l1, br_ndec (by omega), List.drop_of_length_le (by omega)]; simp
theorem rweight_v {l : List Int} (hl : l.length ≤ 100) (hNl : 110 ≤ N) (hw : inW ws l) : rweight_S N ws ts br_ l = some (wtR ws l) := by
  have e := rweight_l1_p (N := N) hF (l := l) (by omega) hw N 0 0 (by omega) (by omega) (by omega)
  simp only [Int.natCast_zero, List.drop_zero, Int.zero_add] at e
  unfold rweight_S
  rw [e]; rfl
end
/-! ### Errors of kept words -/
def ascB : List Int → Bool
  | a :: b :: r => decide (a < b) && ascB (b :: r)
  | _ => true
def keptE (ws : List Wd) (ts : List Tn) (br_ : Int) (l : List Int) : Int :=
  if checkT ws ts br_ ≠ 0 then checkT ws ts br_ else if (l.length : Int) = 0 then 2 else if l.all (inT ws.length) = false then 1 else if ascB l = false then 4 else 0
section
variable {N : Nat} {ws : List Wd} {ts : List Tn} {br_ : Int}
theorem ixfi2_gen (h : ws.length ≤ 1000000) : ∀ (n : Nat) (s : List Int) (u u2 : Int), ixfi2_l1 N n s u u2 ws ts br_ = (ixL (fun x => some (!inT ws.length x)) n s u u2).map fun r => match r with | .inl i => .inl (i, ws, ts, br_) | .inr _ => .inr (ws, ts, br_)
  | 0, _, _, _ => rfl
  | n + 1, s, u, u2 => by
    unfold ixfi2_l1 ixL every1i2_S
    simp only [word_v h, Option.bind_some, ixfi2_gen h n]
    unfold br
    split
    · unfold idx
      split
      · cases s[u2.toNat]? with
        | none => rfl
        | some a =>
          dsimp only
          cases inT ws.length a
          · rfl
          · simp only [Bool.not_true, Bool.false_eq_true, if_false]
            unfold chk
            split <;> rfl
      · rfl
    · rfl
theorem everyi2_v (hw : ws.length ≤ 1000000) {l : List Int} (h : l.length ≤ 1000000) (hN : l.length < N) : everyi2_S N l ws ts br_ = some (l.all (inT ws.length)) := by
  unfold everyi2_S cofi2_S ixfi2_S
  rw [← every_gen (f := fun x : Int => some (inT ws.length x)) (p := inT ws.length) (s := l) (N := N) (fun x _ => rfl) h hN]
  unfold ixS
  rw [ixfi2_gen hw]
  simp only [Option.bind_some]
  cases ixL (fun x => some (!inT ws.length x)) N l l.length 0 with
  | none => rfl
  | some r => cases r <;> rfl
theorem kept_l1_p {l : List Int} (hl : l.length ≤ 1000) {d : Tx} {u : Int} (hu : u = (l.length : Int) - 1) : ∀ (n k : Nat), l.length < n + k → k < l.length → kept_l1 N n l d u k = some (if ascB (l.drop k) = true then .inr (l, d) else .inl ())
  | 0, k, h, _ => by omega
  | n + 1, k, h, hk => by
    rw [drop_cons hk 0]
    by_cases c : k + 1 < l.length
    · have ih := kept_l1_p hl (d := d) hu n (k + 1) (by omega) c
      rw [show ((k + 1 : Nat) : Int) = (k : Int) + 1 by omega] at ih
      rw [drop_cons c 0] at ih ⊢
      have g := gets hk 0
      have g1 : l[((k : Int) + 1).toNat]? = some (l.getD (k + 1) 0) := by
        have := gets c 0
        rwa [show ((k + 1 : Nat) : Int) = (k : Int) + 1 by omega] at this
      rw [kept_l1, br_dec (by omega), idx_eq (by omega) g, chk_eq (by omega), idx_eq (by omega) g1, ascB]
      by_cases e : l.getD (k + 1) 0 ≤ l.getD k 0
      · rw [br_dec e, decide_eq_false (by omega)]; rfl
      · rw [br_ndec e, chk_eq (by omega), ih, decide_eq_true (by omega), Bool.true_and]
    · rw [kept_l1, br_ndec (by omega), List.drop_of_length_le (by omega)]; rfl
theorem kept_v (hN : 110 ≤ N) (hw : ws.length ≤ 1000000) (ht : ts.length ≤ 1000000) {l : List Int} (hl : l.length ≤ 100) : kept_S N ws ts br_ l = some (if keptE ws ts br_ l = 0 then .inl ((ws, ts, br_), l, 0) else .inr (keptE ws ts br_ l)) := by
  unfold kept_S keptE
  rw [opened_v (by omega) hw ht]
  by_cases c : checkT ws ts br_ = 0
  rotate_left
  · simp only [if_neg c, if_pos c, Option.bind_some]
    rw [br_nnd c]
  simp only [c, if_true, Option.bind_some, ne_eq, not_true_eq_false, if_false]
  rw [br_nd trivial]
  by_cases c2 : (l.length : Int) = 0
  · rw [br_dec c2]; simp [c2]
  rw [br_ndec c2, if_neg c2, everyi2_v hw (by omega) (by omega)]
  simp only [Option.bind_some]
  cases c3 : l.all (inT ws.length)
  · rfl
  rw [Bool.not_true, br_false, grd_eq (by simp; omega)]
  have e := kept_l1_p (N := N) (l := l) (by omega) (d := (ws, ts, br_)) (u := ((l.drop 1).length : Int)) (by simp; omega) N 0 (by omega) (by omega)
  simp only [Int.natCast_zero, List.drop_zero] at e
  rw [e]
  cases c4 : ascB l
  · rfl
  · simp only [if_true, Option.bind_some]
    rw [grd_eq (lmI_iff.2 (by omega))]
    simp
theorem kept_ok {l : List Int} (h : keptE ws ts br_ l = 0) : TFine ws ts br_ ∧ l ≠ [] ∧ inW ws l ∧ ascB l = true := by
  unfold keptE at h
  split at h
  · omega
  rename_i c
  split at h
  · omega
  rename_i c2
  split at h
  · omega
  rename_i c3
  split at h
  · omega
  rename_i c4
  refine ⟨tfine_of (by simpa using c), fun e => by subst e; simp at c2, fun w hw => ?_, by simpa using c4⟩
  rw [Bool.not_eq_false, List.all_eq_true] at c3
  have := c3 w hw
  simp only [inT, decide_eq_true_eq] at this
  omega
/-- What kept words do. -/
def keepsR (ws : List Wd) (ts : List Tn) (br_ : Int) (l : List Int) : Bool × Int × Int :=
  if keptE ws ts br_ l ≠ 0 then (false, 0, keptE ws ts br_ l) else (ts.all (keepP l), wtR ws l, 0)
theorem lkeeps_v (hN : 110 ≤ N) (hw : ws.length ≤ 1000000) (ht : ts.length ≤ 1000000) {l : List Int} (hl : l.length ≤ 100) : lkeeps_S N ws ts br_ l = some (keepsR ws ts br_ l) := by
  unfold lkeeps_S keepsR
  rw [kept_v hN hw ht hl]
  by_cases c : keptE ws ts br_ l = 0
  · obtain ⟨hF, _, h2, _⟩ := kept_ok c
    simp only [c, if_true, Option.bind_some, ne_eq, not_true_eq_false, if_false]
    rw [br_nd trivial, keeps_v hN hF hl]
    simp only [Option.bind_some]
    rw [weight_v hF hl hN h2]; rfl
  · rw [if_neg c, if_pos c]
    simp only [Option.bind_some]
    rw [br_nnd c]
end
/-! ### Prices -/
def priceN (ws : List Wd) : Int := (ws.map fun w => if 3 < w.1 then (2 : Int) else 1).sum
theorem priceN_bound (ws : List Wd) : (ws.length : Int) ≤ priceN ws ∧ priceN ws ≤ 2 * ws.length := by
  induction ws with
  | nil => simp [priceN]
  | cons a l ih =>
    unfold priceN at ih ⊢
    rw [List.map_cons, List.sum_cons, List.length_cons]
    split <;> omega
def priceR (ws : List Wd) (ts : List Tn) (br_ : Int) (p : Int) : Int × Int :=
  if checkT ws ts br_ ≠ 0 then (0, checkT ws ts br_) else if ¬ (1 ≤ p ∧ p ≤ 100) then (0, 3) else (priceN ws * p, 0)
section
variable {N : Nat} {ws : List Wd} {ts : List Tn} {br_ : Int}
theorem price_l1_p {p : Int} (hp : 1 ≤ p ∧ p ≤ 100) (hw : ws.length ≤ 1000) : ∀ (n k : Nat) (s : Int), ws.length < n + k → k ≤ ws.length → 0 ≤ s ∧ s ≤ 200 * k → price_l1 N n p s ws ws.length k = some (s + priceN (ws.drop k) * p)
  | 0, k, s, h, _, _ => by omega
  | n + 1, k, s, h, hk, hs => by
    by_cases c : k < ws.length
    · have g := gets c (0, 0, false)
      rw [drop_cons c (0, 0, false)]
      generalize ws.getD k (0, 0, false) = x at *
      have hj : ∀ s, price_j1 N (price_l1 N n) p s ws ws.length k = price_l1 N n p s ws ws.length ((k + 1 : Nat) : Int) := fun s => by
        unfold price_j1
        rw [chk_eq (by omega)]; rfl
      rw [price_l1, br_dec (by omega), idx_eq (by omega) g, chk_eq (by omega)]
      simp only [hj]
      unfold priceN
      rw [List.map_cons, List.sum_cons, Int.add_mul]
      by_cases d : 3 < x.1
      · have ih := price_l1_p hp hw n (k + 1) (s + p + p) (by omega) (by omega) (by omega)
        rw [br_dec d, chk_eq (by omega), ih, if_pos d]
        unfold priceN
        congr 1; omega
      · have ih := price_l1_p hp hw n (k + 1) (s + p) (by omega) (by omega) (by omega)
        rw [br_ndec d, ih, if_neg d]
        unfold priceN
        congr 1; omega
    · rw [price_l1, br_ndec (by omega), List.drop_of_length_le (by omega)]; simp [priceN]
theorem price_v (hN : 110 ≤ N) (hw : ws.length ≤ 1000000) (ht : ts.length ≤ 1000000) (p : Int) : price_S N ws ts br_ p = some (priceR ws ts br_ p) := by
  unfold price_S priceR
  rw [opened_v (by omega) hw ht]
  by_cases c : checkT ws ts br_ = 0
  · have hF := tfine_of c
    have hn := hF.n
    rw [if_pos c, if_neg (by simpa using c)]
    simp only [Option.bind_some]
    rw [br_nd trivial, in_v]
    simp only [Option.bind_some]
    by_cases d : 1 ≤ p ∧ p ≤ 100
    · have e := price_l1_p (N := N) (ws := ws) d (by omega) N 0 0 (by omega) (by omega) (by omega)
      simp only [Int.natCast_zero, List.drop_zero, Int.zero_add] at e
      rw [br_nd d, if_neg (by simpa using d), e]; rfl
    · rw [br_nnd d, if_pos d]
  · rw [if_neg c, if_pos c]
    simp only [Option.bind_some]
    rw [br_nnd c]
end
end Go.Proofs.Ytfamlpbdhhikdaa

namespace Go.Proofs.Ytfamlpbdhhikdaa
set_option linter.all false
open Go

theorem getN {α : Type} {l : List α} {k : Nat} (h : k < l.length) (d : α) : l[k]? = some (l.getD k d) := by simp [List.getD, h]
/-! ### Ascending lists -/
theorem asc_step : ∀ {l : List Int} (_ : ascB l = true) (i : Nat), i + 1 < l.length → l.getD i 0 < l.getD (i + 1) 0
  | [], _, i, h => by simp at h
  | [a], _, i, h => by simp at h
  | a :: b :: r, hl, i, h => by
    simp only [ascB, Bool.and_eq_true, decide_eq_true_eq] at hl
    cases i with
    | zero => simpa using hl.1
    | succ i => simpa using asc_step hl.2 i (by simpa using h)
theorem asc_get {l : List Int} (h : ascB l = true) (i : Nat) : ∀ (d : Nat), i + d < l.length → l.getD i 0 + d ≤ l.getD (i + d) 0
  | 0, _ => by simp
  | d + 1, hd => by
    have h1 := asc_get h i d (by omega)
    have h2 := asc_step h (i + d) (by omega)
    rw [show i + (d + 1) = i + d + 1 by omega]
    omega
theorem asc_lt {l : List Int} (h : ascB l = true) {i j : Nat} (hij : i < j) (hj : j < l.length) : l.getD i 0 + ((j : Int) - i) ≤ l.getD j 0 := by
  have := asc_get h i (j - i) (by omega)
  rw [show i + (j - i) = j by omega] at this
  omega
/-- Where a number would lie. -/
def posI : List Int → Int → Nat
  | [], _ => 0
  | a :: l, v => if a < v then posI l v + 1 else 0
theorem posI_lt {v : Int} : ∀ {l : List Int} {i : Nat}, i < posI l v → i < l.length ∧ l.getD i 0 < v
  | [], i, h => by simp [posI] at h
  | a :: l, i, h => by
    unfold posI at h
    split at h
    · rename_i c
      cases i with
      | zero => exact ⟨by simp, by simpa using c⟩
      | succ i =>
        have := posI_lt (v := v) (l := l) (i := i) (by omega)
        exact ⟨by simpa using this.1, by simpa using this.2⟩
    · omega
theorem posI_le {v : Int} : ∀ (l : List Int), posI l v ≤ l.length
  | [] => by simp [posI]
  | a :: l => by
    have := posI_le (v := v) l
    unfold posI
    split <;> simp <;> omega
theorem posI_at {v : Int} : ∀ {l : List Int}, posI l v < l.length → v ≤ l.getD (posI l v) 0
  | [], h => by simp at h
  | a :: l, h => by
    unfold posI at h ⊢
    split at h
    · rename_i c
      have := posI_at (v := v) (l := l) (by simpa using h)
      rw [if_pos c]
      simpa using this
    · rename_i c
      rw [if_neg c]
      simp; omega
theorem posI_uniq {v : Int} {l : List Int} {k : Nat} (hk : k ≤ l.length) (h1 : ∀ i, i < k → l.getD i 0 < v) (h2 : k < l.length → v ≤ l.getD k 0) : posI l v = k := by
  rcases Nat.lt_trichotomy (posI l v) k with h | h | h
  · have := posI_at (v := v) (l := l) (by omega)
    have := h1 _ h
    omega
  · exact h
  · have := posI_lt h
    have := h2 this.1
    omega
theorem posI_of {l : List Int} (h : ascB l = true) {i : Nat} (hi : i < l.length) : posI l (l.getD i 0) = i :=
  posI_uniq (by omega) (fun j hj => by have := asc_lt h hj hi; omega) (fun _ => by omega)
theorem contains_iff {l : List Int} (h : ascB l = true) {v : Int} : l.contains v = true ↔ posI l v < l.length ∧ l.getD (posI l v) 0 = v := by
  rw [List.contains_iff_mem]
  constructor
  · intro hm
    obtain ⟨i, hi, rfl⟩ := List.getElem_of_mem hm
    have : l[i] = l.getD i 0 := by simp [List.getD, hi]
    rw [this, posI_of h hi]
    exact ⟨hi, rfl⟩
  · rintro ⟨h1, h2⟩
    rw [← h2]; exact getD_mem h1
theorem posI_succ {l : List Int} (h : ascB l = true) (v : Int) : posI l (v + 1) = if l.contains v = true then posI l v + 1 else posI l v := by
  split
  · rename_i c
    obtain ⟨c1, c2⟩ := (contains_iff h).1 c
    refine posI_uniq (by omega) (fun i hi => ?_) (fun hl => ?_)
    · rcases Nat.lt_or_ge i (posI l v) with c3 | c3
      · have := (posI_lt c3).2; omega
      · obtain rfl : i = posI l v := by omega
        omega
    · have := asc_step h (posI l v) hl
      omega
  · rename_i c
    refine posI_uniq (posI_le l) (fun i hi => by have := (posI_lt hi).2; omega) (fun hl => ?_)
    have := posI_at hl
    rcases Int.lt_or_le v (l.getD (posI l v) 0) with c3 | c3
    · omega
    · exact absurd ((contains_iff h).2 ⟨hl, by omega⟩) c
/-- A stretch of words is kept whole just if its ends lie as far apart among the kept ones. -/
theorem stretch {l : List Int} (h : ascB l = true) {lo hi : Int} (hle : lo ≤ hi) : (wordsL lo (hi + 1)).all (fun w => l.contains w) = (l.contains lo && (l.contains hi && decide ((posI l hi : Int) - posI l lo = hi - lo))) := by
  rw [Bool.eq_iff_iff]
  simp only [Bool.and_eq_true, decide_eq_true_eq, List.all_eq_true, mem_wordsL]
  constructor
  · intro ha
    have key : ∀ (d : Nat), lo + d ≤ hi → posI l (lo + d) = posI l lo + d := by
      intro d
      induction d with
      | zero => intro _; simp
      | succ d ih =>
        intro hd
        have e := posI_succ h (lo + d)
        rw [if_pos (ha _ (by omega)), ih (by omega), show lo + (d : Int) + 1 = lo + ((d + 1 : Nat) : Int) by omega] at e
        rw [e]; omega
    refine ⟨ha _ (by omega), ha _ (by omega), ?_⟩
    have := key (hi - lo).toNat (by omega)
    rw [show lo + ((hi - lo).toNat : Int) = hi by omega] at this
    omega
  · rintro ⟨h1, h2, h3⟩ w ⟨hw1, hw2⟩
    obtain ⟨a1, a2⟩ := (contains_iff h).1 h1
    obtain ⟨b1, b2⟩ := (contains_iff h).1 h2
    rw [List.contains_iff_mem]
    have hi' : posI l lo + (w - lo).toNat < l.length := by omega
    have := asc_get h (posI l lo) (w - lo).toNat hi'
    have hj := asc_get h (posI l lo + (w - lo).toNat) (hi - w).toNat (by omega)
    rw [show posI l lo + (w - lo).toNat + (hi - w).toNat = posI l hi by omega, b2] at hj
    rw [a2] at this
    rw [show w = l.getD (posI l lo + (w - lo).toNat) 0 by omega]
    exact getD_mem hi'
/-! ### The binary search -/
theorem mid_v {i j : Nat} (h : i + j ≤ 100000) : IntKind.i64.wrap (Int.fdiv (IntKind.u64.wrap ((i : Int) + j)) (2 ^ 1)) = (((i + j) / 2 : Nat) : Int) := by
  rw [IntWalk.u64_in _ (by omega)]
  have : Int.fdiv ((i : Int) + j) (2 ^ 1) = (((i + j) / 2 : Nat) : Int) := by
    rw [Int.fdiv_eq_ediv_of_nonneg _ (by decide)]
    omega
  rw [this, IntWalk.i64_in _ (by omega)]
theorem less_v (N : Nat) (x y : Int) : less_S N x y = some (decide (x < y)) := by
  unfold less_S isnan1_S
  simp only [Option.bind_some]
  rw [br_nd trivial]
theorem bins_l1_p {N : Nat} {l : List Int} (h : ascB l = true) (hl : l.length ≤ 1000) {v c : Int} : ∀ (n i j : Nat), j - i < n → i ≤ posI l v → posI l v ≤ j → j ≤ l.length → bins_l1 N n l v c i j = some (l, v, c, (posI l v : Int))
  | 0, i, j, hn, _, _, _ => by omega
  | n + 1, i, j, hn, h1, h2, h3 => by
    unfold bins_l1
    by_cases d : i < j
    · have hm := mid_v (i := i) (j := j) (by omega)
      have hk : (i + j) / 2 < l.length := by omega
      have hk2 : (i + j) / 2 < j := by omega
      have hk3 : i ≤ (i + j) / 2 := by omega
      rw [br_dec (by omega), chk_eq (by omega), hm]
      generalize (i + j) / 2 = m at *
      rw [idx_eq (by omega) (gets hk 0), less_v]
      simp only [Option.bind_some]
      by_cases e : l.getD m 0 < v
      · have : m < posI l v := by
          rcases Nat.lt_or_ge m (posI l v) with c | c
          · exact c
          · have p := posI_at (v := v) (l := l) (by omega)
            rcases Nat.lt_or_ge (posI l v) m with c2 | c2
            · have := asc_lt h c2 hk; omega
            · obtain rfl : m = posI l v := by omega
              omega
        have ih := bins_l1_p (N := N) h hl (v := v) (c := c) n (m + 1) j (by omega) (by omega) h2 h3
        rw [show ((m + 1 : Nat) : Int) = (m : Int) + 1 by omega] at ih
        rw [br_dec e, chk_eq (by omega), ih]
      · have : posI l v ≤ m := by
          rcases Nat.lt_or_ge m (posI l v) with c | c
          · have := (posI_lt c).2; omega
          · exact c
        rw [br_ndec e, bins_l1_p h hl n i m (by omega) h1 this (by omega)]
    · rw [br_ndec (by omega), show i = posI l v by omega]
theorem bins_v {N : Nat} {l : List Int} (h : ascB l = true) (hl : l.length ≤ 1000) (hN : l.length < N) (v : Int) : bins_S N l v = some ((posI l v : Int), l.contains v) := by
  have e := bins_l1_p (N := N) h hl (v := v) (c := l.length) N 0 l.length (by omega) (by omega) (posI_le l) (Nat.le_refl _)
  unfold bins_S
  simp only [Int.natCast_zero] at e
  rw [e]
  simp only [Option.bind_some]
  by_cases c : posI l v < l.length
  · rw [br_dec (by omega), idx_eq (by omega) (gets c 0)]
    by_cases d : l.getD (posI l v) 0 = v
    · rw [br_dec d, (contains_iff h).2 ⟨c, d⟩]
    · rw [br_ndec d, idx_eq (by omega) (gets c 0)]
      unfold isnan2_S
      simp only [Option.bind_some]
      rw [br_nd trivial]
      have : l.contains v = false := by
        rw [← Bool.not_eq_true]
        exact fun hc => d ((contains_iff h).1 hc).2
      rw [this]
  · rw [br_ndec (by omega)]
    have : l.contains v = false := by
      rw [← Bool.not_eq_true]
      exact fun hc => c ((contains_iff h).1 hc).1
    rw [this]
/-! ### Kept words -/
def shS (ws : List Wd) (a e : Nat) : Bool := ((ws.take e).drop a).any (·.2.2)
def shW (ws : List Wd) : List Int → Int → List Wd
  | [], _ => []
  | a :: r, e => ((ws.getD a.toNat (0, 0, false)).1, (ws.getD a.toNat (0, 0, false)).2.1, shS ws a.toNat (r.headD e).toNat) :: shW ws r e
theorem shW_len (ws : List Wd) (e : Int) : ∀ l : List Int, (shW ws l e).length = l.length
  | [] => rfl
  | a :: r => by simp [shW, shW_len ws e r]
theorem shS_succ {ws : List Wd} {a w : Nat} (h : a ≤ w) (hw : w < ws.length) : shS ws a (w + 1) = (shS ws a w || (ws.getD w (0, 0, false)).2.2) := by
  unfold shS
  rw [take_succ' hw (0, 0, false), List.drop_append_of_le_length (by rw [List.length_take]; omega), List.any_append]
  simp
theorem shS_self (ws : List Wd) (a : Nat) : shS ws a a = false := by
  unfold shS
  rw [List.drop_of_length_le (by rw [List.length_take]; omega)]; rfl
theorem ixfsw_gen (N : Nat) : ∀ (n : Nat) (l : List Wd) (u u2 : Int), ixfsw_l1 N n l u u2 = ixL (fun x => shorter1_S N x.1 x.2.1 x.2.2) n l u u2
  | 0, _, _, _ => rfl
  | n + 1, l, u, u2 => by unfold ixfsw_l1 ixL; simp only [ixfsw_gen N n]
theorem cofsw_v {N : Nat} {u : List Wd} (hu : u.length ≤ 1000) (hN : u.length < N) : cofsw_S N u = some (u.any (·.2.2)) := by
  have h := ixS_any (f := fun x : Wd => shorter1_S N x.1 x.2.1 x.2.2) (p := fun x => x.2.2) (s := u) (N := N) (fun x _ => rfl) (by omega) hN
  unfold cofsw_S ixfsw_S
  unfold ixS at h
  rw [ixfsw_gen]
  exact h
section
variable {N : Nat} {ws : List Wd} {ts : List Tn} {br_ : Int}
variable (hN : 110 ≤ N) (hF : TFine ws ts br_)
include hN hF
theorem shorter_l1_p {l : List Int} (h : ascB l = true) (hl : l.length ≤ 100) (hw : inW ws l) {g o : Int} : ∀ (n k : Nat) (acc : List Wd), l.length < n + k → k ≤ l.length → acc.length = k →
    shorter_l1 N n (ws, ts, br_) l l l.length k ws ts br_ g o acc = some (l, ws, ts, br_, g, o, acc ++ shW ws (l.drop k) ws.length)
  | 0, k, acc, hn, hk, ha => by omega
  | n + 1, k, acc, hn, hk, ha => by
    have hn' := hF.n
    unfold shorter_l1
    by_cases c : k < l.length
    · have g1 := gets c 0
      have hx := hw _ (getD_mem (d := 0) c)
      have hj : ∀ (e : Nat), (l.getD k 0).toNat ≤ e → e ≤ ws.length → e = ((l.drop (k + 1)).headD (ws.length : Int)).toNat → shorter_j1 N (shorter_l1 N n) (ws, ts, br_) l (l.getD k 0) (e : Int) l l.length k ws ts br_ g o (ws.getD (l.getD k 0).toNat (0, 0, false)).1 (ws.getD (l.getD k 0).toNat (0, 0, false)).2.1 (ws.getD (l.getD k 0).toNat (0, 0, false)).2.2 acc = some (l, ws, ts, br_, g, o, acc ++ shW ws (l.drop k) ws.length) := by
        intro e he1 he2 he3
        have ih := shorter_l1_p h hl hw (g := g) (o := o) n (k + 1) (acc ++ [((ws.getD (l.getD k 0).toNat (0, 0, false)).1, (ws.getD (l.getD k 0).toNat (0, 0, false)).2.1, shS ws (l.getD k 0).toNat e)]) (by omega) (by omega) (by simp [ha])
        rw [show ((k + 1 : Nat) : Int) = (k : Int) + 1 by omega] at ih
        unfold shorter_j1
        rw [grd_eq (by simp only [decide_eq_true_eq]; omega), cofsw_v (by simp; omega) (by simp; omega)]
        simp only [Option.bind_some]
        rw [lim_eq (by simp; omega), chk_eq (by omega)]
        unfold shS at ih
        simp only [Int.toNat_natCast]
        rw [ih, drop_cons c 0, shW, ← he3]
        simp [shS]
      have g2 : ws[(l.getD k 0).toNat]? = some (ws.getD (l.getD k 0).toNat (0, 0, false)) := getN (by omega) _
      rw [br_dec (by omega), idx_eq (by omega) g1, idx_eq (l := ws) hx.1 g2]
      unfold end__S
      simp only [Option.bind_some]
      rw [chk_eq (by omega)]
      by_cases d : k + 1 < l.length
      · have g3 : l[((k : Int) + 1).toNat]? = some (l.getD (k + 1) 0) := by
          have := gets d 0
          rwa [show ((k + 1 : Nat) : Int) = (k : Int) + 1 by omega] at this
        have hy := hw _ (getD_mem (d := 0) d)
        have hs := asc_step h k d
        have := hj (l.getD (k + 1) 0).toNat (by omega) (by omega) (by rw [drop_cons d 0]; rfl)
        rw [show (((l.getD (k + 1) 0).toNat : Nat) : Int) = l.getD (k + 1) 0 by omega] at this
        rw [br_dec (by omega), chk_eq (by omega), idx_eq (by omega) g3, this]
      · have := hj ws.length (by omega) (by omega) (by rw [List.drop_of_length_le (by omega)]; simp)
        rw [br_ndec (by omega), this]
    · rw [br_ndec (by omega), List.drop_of_length_le (by omega)]; simp [shW]
omit hN hF
/-- A turn that is kept. -/
def trV (l : List Int) (x : Tn) : Option Tn := if (l.contains x.1 && (wordsL x.2.1 (x.2.2 + 1)).all fun w => l.contains w) = true then some ((posI l x.1 : Int), (posI l x.2.1 : Int), (posI l x.2.2 : Int)) else none
theorem filterMap_len {f : Tn → Option Tn} : ∀ l : List Tn, (l.filterMap f).length ≤ l.length
  | [] => by simp
  | a :: l => by
    have := filterMap_len (f := f) l
    rw [List.filterMap_cons]
    split <;> simp <;> omega
include hN hF
theorem shorter_l2_p {l : List Int} (h : ascB l = true) (hl : l.length ≤ 100) {g o : Int} {O : List Wd} : ∀ (n k : Nat) (acc : List Tn), ts.length < n + k → k ≤ ts.length → acc.length ≤ k →
    shorter_l2 N n l ts ts.length k g o O acc = some (g, o, O, acc ++ (ts.drop k).filterMap (trV l))
  | 0, k, acc, hn, hk, ha => by omega
  | n + 1, k, acc, hn, hk, ha => by
    have ht := hF.t; have hnn := hF.n
    unfold shorter_l2
    by_cases c : k < ts.length
    · have g1 := gets c (0, 0, 0)
      have hx := hF.x _ (getD_mem (d := (0, 0, 0)) c)
      rw [drop_cons c (0, 0, 0)]
      generalize ts.getD k (0, 0, 0) = x at *
      have p1 := posI_le (v := x.1) l
      have p2 := posI_le (v := x.2.1) l
      have p3 := posI_le (v := x.2.2) l
      have hj : ∀ acc : List Tn, acc.length ≤ k + 1 → shorter_j2 N (shorter_l2 N n) l ts ts.length k g o O acc = some (g, o, O, acc ++ (ts.drop (k + 1)).filterMap (trV l)) := by
        intro acc ha
        have ih := shorter_l2_p h hl (g := g) (o := o) (O := O) n (k + 1) acc (by omega) (by omega) ha
        rw [show ((k + 1 : Nat) : Int) = (k : Int) + 1 by omega] at ih
        unfold shorter_j2
        rw [chk_eq (by omega), ih]
      rw [br_dec (by omega), idx_eq (by omega) g1, bins_v h (by omega) (by omega), bins_v h (by omega) (by omega), bins_v h (by omega) (by omega)]
      simp only [Option.bind_some]
      have et : trV l x = if (l.contains x.1 && (l.contains x.2.1 && (l.contains x.2.2 && decide ((posI l x.2.2 : Int) - posI l x.2.1 = x.2.2 - x.2.1)))) = true then some ((posI l x.1 : Int), (posI l x.2.1 : Int), (posI l x.2.2 : Int)) else none := by
        unfold trV
        rw [stretch h (by omega)]
      rw [List.filterMap_cons, et]
      cases l.contains x.1
      · rw [br_false, hj acc (by omega)]; rfl
      cases l.contains x.2.1
      · rw [br_true, br_false, hj acc (by omega)]; rfl
      cases l.contains x.2.2
      · rw [br_true, br_true, br_false, hj acc (by omega)]; rfl
      rw [br_true, br_true, br_true, chk_eq (by omega), chk_eq (by omega)]
      by_cases d : (posI l x.2.2 : Int) - posI l x.2.1 = x.2.2 - x.2.1
      · rw [br_dec d, lim_eq (by simp; omega), hj _ (by simp; omega), decide_eq_true d]
        simp
      · rw [br_ndec d, hj acc (by omega), decide_eq_false d]; rfl
    · rw [br_ndec (by omega), List.drop_of_length_le (by omega)]; simp
omit hN hF
def shR (ws : List Wd) (ts : List Tn) (br_ : Int) (l : List Int) : Int × Int × List Wd × List Tn :=
  if keptE ws ts br_ l ≠ 0 then (0, keptE ws ts br_ l, [], []) else if ts.all (keepP l) = true then (br_, 0, shW ws l ws.length, ts.filterMap (trV l)) else (0, 8, [], [])
theorem shorter_v (hN : 110 ≤ N) (hw : ws.length ≤ 1000000) (ht : ts.length ≤ 1000000) {l : List Int} (hl : l.length ≤ 100) : shorter_S N ws ts br_ l = some (shR ws ts br_ l) := by
  unfold shorter_S shR
  rw [kept_v hN hw ht hl]
  by_cases c : keptE ws ts br_ l = 0
  · obtain ⟨hF, _, h2, h3⟩ := kept_ok c
    have ht := hF.t
    simp only [c, if_true, Option.bind_some, ne_eq, not_true_eq_false, if_false]
    rw [br_nd (by first | trivial | rfl), keeps_v hN hF hl]
    simp only [Option.bind_some]
    cases ts.all (keepP l)
    · rfl
    have e1 := shorter_l1_p hN hF h3 hl h2 (g := 0) (o := br_) N 0 [] (by omega) (by omega) rfl
    have e2 := shorter_l2_p hN hF h3 hl (g := 0) (o := br_) (O := shW ws l ws.length) N 0 [] (by omega) (by omega) (by simp)
    simp only [Int.natCast_zero, List.drop_zero, List.nil_append] at e1 e2
    rw [Bool.not_true, br_false, e1]
    simp only [Option.bind_some]
    rw [e2]; rfl
  · rw [if_neg c, if_pos c]
    simp only [Option.bind_some]
    rw [br_nnd c]
/-! ### The reference -/
include hN hF
omit hN hF
theorem shR_len (l : List Int) (ht : ts.length ≤ 1000) : (shR ws ts br_ l).2.2.1.length ≤ l.length ∧ (shR ws ts br_ l).2.2.2.length ≤ 1000 := by
  unfold shR
  have := filterMap_len (f := trV l) ts
  split
  · simp
  split
  · exact ⟨by simp only [shW_len]; omega, by simp only; omega⟩
  · simp
end
/-! ### The statement -/
section
variable {N : Nat}
end
end Go.Proofs.Ytfamlpbdhhikdaa

namespace Go.Proofs.Ytfamlpbdhhikdaa
set_option linter.all false
open Go

/-- Ascending words from one on. -/
def okC (m : Int) : Int → List Int → Prop
  | _, [] => True
  | lo, a :: r => (lo ≤ a ∧ a < m) ∧ okC m (a + 1) r
theorem okC_mono {m lo lo' : Int} (h : lo' ≤ lo) : ∀ {c : List Int}, okC m lo c → okC m lo' c
  | [], _ => trivial
  | a :: r, ⟨⟨h1, h2⟩, h3⟩ => ⟨⟨by omega, h2⟩, h3⟩
theorem okC_len {m : Int} : ∀ {c : List Int} {lo : Int}, okC m lo c → c ≠ [] → lo + c.length ≤ m
  | [], _, _, h => absurd rfl h
  | [a], lo, ⟨⟨h1, h2⟩, _⟩, _ => by simp; omega
  | a :: b :: r, lo, ⟨⟨h1, h2⟩, h3⟩, _ => by
    have := okC_len h3 (by simp)
    simp at this ⊢; omega
theorem okC_mem {m : Int} : ∀ {c : List Int} {lo : Int}, okC m lo c → ∀ x ∈ c, lo ≤ x ∧ x < m
  | a :: r, lo, ⟨⟨h1, h2⟩, h3⟩, x, hx => by
    rcases List.mem_cons.1 hx with rfl | hx
    · exact ⟨h1, h2⟩
    · have := okC_mem h3 x hx; omega
/-- Which of two lists comes ahead. -/
def bef : List Int → List Int → Bool
  | a :: l, b :: r => if a = b then bef l r else decide (a < b)
  | _, _ => false
/-- What a choice of words comes to. -/
def ChF (m : Int) (P : List Int → Bool) (l : List Int) (lo : Int) (k : Nat) : Option (List Int) → Prop
  | none => ∀ c, okC m lo c → c.length = k → P (l ++ c) = false
  | some x => ∃ c, okC m lo c ∧ c.length = k ∧ x = l ++ c ∧ P x = true ∧ ∀ c', okC m lo c' → c'.length = k → P (l ++ c') = true → bef c' c = false
theorem ChF.step {m : Int} {P : List Int → Bool} {l : List Int} {w : Int} {k : Nat} {r : Option (List Int)} (h1 : ∀ c, okC m (w + 1) c → c.length = k → P ((l ++ [w]) ++ c) = false) (h2 : ChF m P l (w + 1) (k + 1) r) : ChF m P l w (k + 1) r := by
  have key : ∀ c, okC m w c → c.length = k + 1 → P (l ++ c) = true → okC m (w + 1) c := by
    intro c hc hl hp
    cases c with
    | nil => simp at hl
    | cons a c =>
      obtain ⟨⟨a1, a2⟩, a3⟩ := hc
      by_cases e : a = w
      · subst e
        have := h1 c a3 (by simpa using hl)
        rw [List.append_assoc, List.singleton_append, hp] at this
        cases this
      · exact ⟨⟨by omega, a2⟩, a3⟩
  cases r with
  | none =>
    intro c hc hl
    cases hp : P (l ++ c)
    · rfl
    · rw [← hp]; exact h2 c (key c hc hl hp) hl
  | some x =>
    obtain ⟨c, c1, c2, c3, c4, c5⟩ := h2
    exact ⟨c, okC_mono (by omega) c1, c2, c3, c4, fun c' d1 d2 d3 => c5 c' (key c' d1 d2 d3) d2 d3⟩
theorem ChF.found {m : Int} {P : List Int → Bool} {l : List Int} {w : Int} {k : Nat} {x : List Int} (hw : w < m) (h : ChF m P (l ++ [w]) (w + 1) k (some x)) : ChF m P l w (k + 1) (some x) := by
  obtain ⟨c, c1, c2, c3, c4, c5⟩ := h
  refine ⟨w :: c, ⟨⟨by omega, hw⟩, c1⟩, by simp [c2], by simp [c3], c4, fun c' d1 d2 d3 => ?_⟩
  cases c' with
  | nil => rfl
  | cons a c' =>
    obtain ⟨⟨a1, a2⟩, a3⟩ := d1
    unfold bef
    by_cases e : a = w
    · subst e
      rw [if_pos rfl]
      exact c5 c' a3 (by simpa using d2) (by simpa using d3)
    · rw [if_neg e, decide_eq_false (by omega)]
theorem ChF.past {m : Int} {P : List Int → Bool} {l : List Int} {w : Int} {k : Nat} (h : m < w + (k + 1 : Nat)) : ChF m P l w (k + 1) none := by
  intro c hc hl
  have := okC_len hc (by intro e; subst e; simp at hl)
  omega
def chO (d : Tx) (wt : Int) : Option (List Int) → (Tx × Int) ⊕ (List Int × Tx × Int)
  | none => .inl (d, wt)
  | some x => .inr (x, d, wt)
def chL (d : Tx) (wt : Int) : Option (List Int) → (List Int × Tx × Int) ⊕ (Tx × Int)
  | none => .inr (d, wt)
  | some x => .inl (x, d, wt)
/-- Words that will do. -/
def goodP (ws : List Wd) (ts : List Tn) (wt : Int) (l : List Int) : Bool := decide (wt ≤ wtR ws l) && ts.all (keepP l)
theorem inW_append {ws : List Wd} {l : List Int} {w : Int} (h : inW ws l) (hw : 0 ≤ w ∧ w < ws.length) : inW ws (l ++ [w]) := fun x hx => by
  rcases List.mem_append.1 hx with hx | hx
  · exact h x hx
  · rw [List.mem_singleton] at hx; subst hx; exact hw
section
variable {N : Nat} {ws : List Wd} {ts : List Tn} {br_ : Int}
theorem cloneo_v {l : List Int} (h : l ≠ []) (hl : l.length ≤ 1000) : cloneo_S N l = some l := by
  unfold cloneo_S
  rw [grd_eq (by cases l <;> simp_all), lim_eq (by simp; omega)]; rfl
variable (hN : 110 ≤ N) (hF : TFine ws ts br_)
include hN hF
theorem choose_l1_p {wt : Int} {self : List Int → Int → Int → Tx → Int → Tx → Int → Option ((Tx × Int) ⊕ (List Int × Tx × Int))} {k : Nat}
    (hrec : ∀ (l' : List Int) (lo : Int), l' ≠ [] → l'.length + k ≤ 20 → inW ws l' → 0 ≤ lo → lo ≤ ws.length → ∃ r, self l' lo k (ws, ts, br_) wt (ws, ts, br_) wt = some (chO (ws, ts, br_) wt r) ∧ ChF ws.length (goodP ws ts wt) l' lo k r)
    {l : List Int} (hl : l ≠ []) (hk : l.length + (k + 1) ≤ 20) (hw : inW ws l) : ∀ (n : Nat) (w : Int), (ws.length + 1 - w).toNat < n → 0 ≤ w →
    w ≤ ws.length → ∃ r, choose_l1 N self n l ((k + 1 : Nat) : Int) (ws, ts, br_) w (ws, ts, br_) wt = some (chL (ws, ts, br_) wt r) ∧ ChF ws.length (goodP ws ts wt) l w (k + 1) r
  | 0, w, h, _, _ => by omega
  | n + 1, w, h, h0, h1 => by
    have hn := hF.n
    unfold choose_l1 end__S
    rw [chk_eq (by omega)]
    simp only [Option.bind_some]
    by_cases c : w + ((k + 1 : Nat) : Int) ≤ ws.length
    · rw [br_dec c, cloneo_v hl (by omega)]
      simp only [Option.bind_some]
      rw [lim_eq (by simp; omega), chk_eq (by omega), chk_eq (by omega), show ((k + 1 : Nat) : Int) - 1 = k by omega]
      obtain ⟨r, e1, hr⟩ := hrec (l ++ [w]) (w + 1) (by simp) (by simp; omega) (inW_append hw (by omega)) (by omega) (by omega)
      rw [e1]
      cases r with
      | none =>
        obtain ⟨r2, e2, hr2⟩ := choose_l1_p hrec hl hk hw n (w + 1) (by omega) (by omega) (by omega)
        refine ⟨r2, ?_, ChF.step hr hr2⟩
        simp only [chO, Option.bind_some]
        rw [chk_eq (by omega), e2]
      | some x =>
        refine ⟨some x, ?_, hr.found (by omega)⟩
        simp only [chO, Option.bind_some]
        obtain ⟨c, _, _, e, _⟩ := hr
        rw [grd_eq (by rw [e]; simp)]; rfl
    · rw [br_ndec c]
      exact ⟨none, rfl, ChF.past (by omega)⟩
theorem choose_v {wt : Int} : ∀ (k n : Nat) (l : List Int) (lo : Int), k < n → l ≠ [] → l.length + k ≤ 20 → inW ws l → 0 ≤ lo → lo ≤ ws.length →
    ∃ r, choose_R N n l lo k (ws, ts, br_) wt (ws, ts, br_) wt = some (chO (ws, ts, br_) wt r) ∧ ChF ws.length (goodP ws ts wt) l lo k r
  | k, 0, l, lo, h, _, _, _, _, _ => by omega
  | 0, n + 1, l, lo, h, hl, hk, hw, h0, h1 => by
    have hn := hF.n
    unfold choose_R choose_S
    rw [br_dec (by omega), weight_v hF (by omega) hN hw]
    simp only [Option.bind_some]
    have nil : ∀ c : List Int, c.length = 0 → c = [] := fun c h => List.eq_nil_of_length_eq_zero h
    by_cases c : wt ≤ wtR ws l
    · rw [br_dec c, keeps_v hN hF (by omega)]
      simp only [Option.bind_some]
      cases hp : ts.all (keepP l)
      · refine ⟨none, by rw [br_false]; rfl, fun c' h1 h2 => ?_⟩
        rw [nil c' h2, List.append_nil]
        unfold goodP; rw [hp, Bool.and_false]
      · refine ⟨some l, by rw [br_true]; rfl, [], trivial, rfl, by simp, ?_, fun c' h1 h2 _ => ?_⟩
        · unfold goodP; rw [hp, decide_eq_true c]; rfl
        · rw [nil c' h2]; rfl
    · refine ⟨none, by rw [br_ndec c]; rfl, fun c' h1 h2 => ?_⟩
      rw [nil c' h2, List.append_nil]
      unfold goodP; rw [decide_eq_false c]; rfl
  | k + 1, n + 1, l, lo, h, hl, hk, hw, h0, h1 => by
    have hn := hF.n
    unfold choose_R choose_S
    rw [br_ndec (by omega)]
    obtain ⟨r, e, hr⟩ := choose_l1_p hN hF (self := choose_R N n) (fun l' lo a b c d e => choose_v k n l' lo (by omega) a b c d e) hl hk hw N lo (by omega) h0 h1
    rw [e]
    refine ⟨r, ?_, hr⟩
    cases r <;> rfl
theorem choose0_l1_p {wt : Int} {k : Nat} (hk : k + 1 ≤ 20) : ∀ (n : Nat) (w : Int), (ws.length + 1 - w).toNat < n → 0 ≤ w →
    w ≤ ws.length → ∃ r, choose0_l1 N n ((k + 1 : Nat) : Int) (ws, ts, br_) w (ws, ts, br_) wt = some (chL (ws, ts, br_) wt r) ∧ ChF ws.length (goodP ws ts wt) [] w (k + 1) r
  | 0, w, h, _, _ => by omega
  | n + 1, w, h, h0, h1 => by
    have hn := hF.n
    unfold choose0_l1 end__S
    rw [chk_eq (by omega)]
    simp only [Option.bind_some]
    by_cases c : w + ((k + 1 : Nat) : Int) ≤ ws.length
    · rw [br_dec c]
      unfold clonen_S
      simp only [Option.bind_some]
      rw [chk_eq (by omega), chk_eq (by omega), show ((k + 1 : Nat) : Int) - 1 = k by omega]
      obtain ⟨r, e1, hr⟩ := choose_v hN hF (wt := wt) k N [w] (w + 1) (by omega) (by simp) (by simp; omega) (fun x hx => by rw [List.mem_singleton] at hx; subst hx; omega) (by omega) (by omega)
      rw [e1]
      cases r with
      | none =>
        obtain ⟨r2, e2, hr2⟩ := choose0_l1_p hk n (w + 1) (by omega) (by omega) (by omega)
        refine ⟨r2, ?_, ChF.step (l := []) hr hr2⟩
        simp only [chO, Option.bind_some]
        rw [chk_eq (by omega), e2]
      | some x =>
        refine ⟨some x, ?_, ChF.found (l := []) (by omega) hr⟩
        simp only [chO, Option.bind_some]
        obtain ⟨c, _, _, e, _⟩ := hr
        rw [grd_eq (by rw [e]; simp)]; rfl
    · rw [br_ndec c]
      exact ⟨none, rfl, ChF.past (by omega)⟩
theorem choose0_v {wt : Int} {k : Nat} (hk : k + 1 ≤ 20) : ∃ r, choose0_S N 0 ((k + 1 : Nat) : Int) (ws, ts, br_) wt (ws, ts, br_) wt = some (chO (ws, ts, br_) wt r) ∧ ChF ws.length (goodP ws ts wt) [] 0 (k + 1) r := by
  have hn := hF.n
  unfold choose0_S
  rw [br_ndec (by omega)]
  obtain ⟨r, e, hr⟩ := choose0_l1_p hN hF (wt := wt) hk N 0 (by omega) (by omega) (by omega)
  rw [e]
  refine ⟨r, ?_, hr⟩
  cases r <;> rfl
/-- What is told as the fewest words. -/
def LeastW (m : Int) (P : List Int → Bool) (l : List Int) : Prop := okC m 0 l ∧ l ≠ [] ∧ P l = true ∧ ∀ c, okC m 0 c → c ≠ [] → P c = true → l.length < c.length ∨ l.length = c.length ∧ bef c l = false
omit hN hF in
theorem least_up {m : Int} {P : List Int → Bool} {k : Nat} {x : List Int} (h : ∀ c, okC m 0 c → c ≠ [] → c.length ≤ k → P c = false) (hx : ChF m P [] 0 (k + 1) (some x)) : LeastW m P x := by
  obtain ⟨c, c1, c2, c3, c4, c5⟩ := hx
  rw [List.nil_append] at c3
  subst c3
  refine ⟨c1, by intro e; subst e; simp at c2, c4, fun c' d1 d2 d3 => ?_⟩
  rcases Nat.lt_trichotomy x.length c'.length with e | e | e
  · exact .inl e
  · exact .inr ⟨e, c5 c' d1 (by omega) d3⟩
  · have := h c' d1 d2 (by omega)
    rw [d3] at this; cases this
theorem least_l1_p {wt : Int} : ∀ (n k : Nat), ws.length < n + k → k ≤ ws.length → (∀ c, okC ws.length 0 c → c ≠ [] → c.length ≤ k → goodP ws ts wt c = false) →
    ∃ r, least_l1 N n ws.length k (ws, ts, br_) wt = some r ∧ match r with
      | .inl l => LeastW ws.length (goodP ws ts wt) l
      | .inr _ => ∀ c, okC ws.length 0 c → c ≠ [] → goodP ws ts wt c = false
  | 0, k, h, hk, _ => by omega
  | n + 1, k, h, hk, hc => by
    have hn := hF.n
    unfold least_l1
    by_cases c : k < ws.length
    · rw [br_dec (by omega), chk_eq (by omega), show (k : Int) + 1 = ((k + 1 : Nat) : Int) by omega]
      obtain ⟨r, e, hr⟩ := choose0_v hN hF (wt := wt) (k := k) (by omega)
      rw [e]
      cases r with
      | none =>
        obtain ⟨r2, e2, hr2⟩ := least_l1_p (wt := wt) n (k + 1) (by omega) (by omega) (fun c d1 d2 d3 => by
          by_cases d : c.length ≤ k
          · exact hc c d1 d2 d
          · have := hr c d1 (by omega)
            rwa [List.nil_append] at this)
        refine ⟨r2, ?_, hr2⟩
        simp only [chO, Option.bind_some]
        rw [chk_eq (by omega), e2]
      | some x =>
        have hx := least_up hc hr
        refine ⟨.inl x, ?_, hx⟩
        simp only [chO, Option.bind_some]
        rw [grd_eq (by have := hx.2.1; cases x <;> simp_all)]
    · rw [br_ndec (by omega)]
      refine ⟨.inr (), rfl, fun c' d1 d2 => hc c' d1 d2 ?_⟩
      have := okC_len d1 d2
      omega
omit hN hF
/-- What is told of the fewest words. -/
def LeastQ (ws : List Wd) (ts : List Tn) (br_ wt : Int) (l : List Int) (e : Int) : Prop :=
  if checkT ws ts br_ ≠ 0 then l = [] ∧ e = checkT ws ts br_ else if wt < 0 then l = [] ∧ e = 3 else e = 0 ∧ LeastW ws.length (goodP ws ts wt) l ∨ (e = 6 ∧ l = []) ∧ ∀ c, okC ws.length 0 c → c ≠ [] → goodP ws ts wt c = false
theorem least_v (hN : 110 ≤ N) (hw : ws.length ≤ 1000000) (ht : ts.length ≤ 1000000) {wt : Int} : ∃ l e, least_S N ws ts br_ wt = some (l, e) ∧ LeastQ ws ts br_ wt l e := by
  unfold least_S
  rw [opened_v (by omega) hw ht]
  by_cases c : checkT ws ts br_ = 0
  · have hF := tfine_of c
    have hn := hF.n
    have hq : ∀ l e, LeastQ ws ts br_ wt l e ↔ (if wt < 0 then l = [] ∧ e = 3 else e = 0 ∧ LeastW ws.length (goodP ws ts wt) l ∨ (e = 6 ∧ l = []) ∧ ∀ c, okC ws.length 0 c → c ≠ [] → goodP ws ts wt c = false) := fun l e => by
      unfold LeastQ
      rw [if_neg (by simpa using c)]
    simp only [hq]
    rw [if_pos c]
    simp only [Option.bind_some]
    rw [br_nd (by first | trivial | rfl)]
    by_cases d : wt < 0
    · rw [br_dec d]
      simp only [if_pos d]
      exact ⟨_, _, rfl, rfl, rfl⟩
    · rw [br_ndec d]
      simp only [if_neg d]
      unfold end__S
      simp only [Option.bind_some]
      obtain ⟨r, e, hr⟩ := least_l1_p hN hF (wt := wt) N 0 (by omega) (by omega) (fun c d1 d2 d3 => by
        cases c with
        | nil => exact absurd rfl d2
        | cons a r => simp at d3)
      simp only [Int.natCast_zero] at e
      rw [e]
      cases r with
      | inl l => exact ⟨_, _, rfl, .inl ⟨rfl, hr⟩⟩
      | inr u => exact ⟨_, _, rfl, .inr ⟨⟨rfl, rfl⟩, hr⟩⟩
  · rw [if_neg c]
    simp only [Option.bind_some]
    rw [br_nnd c]
    refine ⟨_, _, rfl, ?_⟩
    unfold LeastQ
    rw [if_pos c]
    exact ⟨rfl, rfl⟩
end
/-! ### Words that can be left out -/
def butL (m w : Int) : List Int := wordsL 0 w ++ wordsL (w + 1) m
theorem butL_len {m w : Int} (h : 0 ≤ w ∧ w < m) : ((butL m w).length : Int) = m - 1 := by
  unfold butL
  rw [List.length_append, wordsL_len, wordsL_len]
  omega
theorem wordsL_snoc {a b : Int} (h : a ≤ b) : wordsL a (b + 1) = wordsL a b ++ [b] := by
  unfold wordsL
  rw [show (b + 1 - a).toNat = (b - a).toNat + 1 by omega, List.range_succ, List.map_append, List.map_singleton]
  congr 2; omega
theorem wordsL_nil {a b : Int} (h : b ≤ a) : wordsL a b = [] := by
  unfold wordsL
  rw [show (b - a).toNat = 0 by omega]; rfl
def spareK (ws : List Wd) (ts : List Tn) (k : Nat) : List Int := ((List.range k).filter fun (w : Nat) => decide (1 < ws.length) && ts.all (keepP (butL ws.length (w : Int)))).map fun (w : Nat) => (w : Int)
theorem spareK_succ (ws : List Wd) (ts : List Tn) (k : Nat) : spareK ws ts (k + 1) = spareK ws ts k ++ (if (decide (1 < ws.length) && ts.all (keepP (butL ws.length (k : Int)))) = true then [(k : Int)] else []) := by
  unfold spareK
  rw [List.range_succ, List.filter_append, List.map_append]
  congr 1
  rw [List.filter_cons]
  split <;> simp
theorem spareK_len (ws : List Wd) (ts : List Tn) (k : Nat) : (spareK ws ts k).length ≤ k := by
  unfold spareK
  rw [List.length_map]
  exact Nat.le_trans (List.length_filter_le _ _) (by simp)
section
variable {N : Nat} {ws : List Wd} {ts : List Tn} {br_ : Int} (hN : 110 ≤ N) (hF : TFine ws ts br_)
include hN hF
theorem spare_l2_p {w : Nat} {u u2 : Int} {out : List Int} (hw : w < ws.length) : ∀ (n k : Nat), ws.length < n + k → k ≤ ws.length →
    spare_l2 N n (ws, ts, br_) w u u2 ws.length k out (wordsL 0 (min k w : Nat) ++ wordsL (w + 1) k) = some ((ws, ts, br_), (w : Int), u, u2, out, butL ws.length w)
  | 0, k, h, _ => by omega
  | n + 1, k, h, hk => by
    have hn := hF.n
    unfold spare_l2
    by_cases c : k < ws.length
    · have ih := spare_l2_p (u := u) (u2 := u2) (out := out) hw n (k + 1) (by omega) (by omega)
      have hj : ∀ O, O = wordsL 0 (min (k + 1) w : Nat) ++ wordsL (w + 1) ((k : Int) + 1) → spare_j1 N (spare_l2 N n) (ws, ts, br_) w u u2 ws.length k out O = some ((ws, ts, br_), (w : Int), u, u2, out, butL ws.length w) := by
        rintro O rfl
        rw [show ((k + 1 : Nat) : Int) = (k : Int) + 1 by omega] at ih
        unfold spare_j1
        rw [chk_eq (by omega), ih]
      rw [br_dec (by omega)]
      by_cases d : (k : Int) = w
      · rw [br_nd d, hj]
        rw [show min (k + 1) w = min k w by omega, wordsL_nil (a := (w : Int) + 1) (b := (k : Int)) (by omega), wordsL_nil (a := (w : Int) + 1) (b := (k : Int) + 1) (by omega)]
      · rw [br_nnd d, lim_eq (by simp [wordsL_len]; omega), hj]
        by_cases e : k < w
        · rw [show min (k + 1) w = k + 1 by omega, show min k w = k by omega, wordsL_nil (a := (w : Int) + 1) (b := (k : Int)) (by omega), wordsL_nil (a := (w : Int) + 1) (b := (k : Int) + 1) (by omega), show ((k + 1 : Nat) : Int) = (k : Int) + 1 by omega, wordsL_snoc (by omega)]; simp
        · rw [show min (k + 1) w = w by omega, show min k w = w by omega, wordsL_snoc (a := (w : Int) + 1) (b := (k : Int)) (by omega)]; simp
    · rw [br_ndec (by omega)]
      obtain rfl : k = ws.length := by omega
      rw [show min ws.length w = w by omega]; rfl
theorem spare_l1_p : ∀ (n k : Nat), ws.length < n + k → k ≤ ws.length → spare_l1 N n (ws, ts, br_) ws.length k (spareK ws ts k) = some (spareK ws ts ws.length)
  | 0, k, h, _ => by omega
  | n + 1, k, h, hk => by
    have hn := hF.n
    unfold spare_l1
    by_cases c : k < ws.length
    · have ih := spare_l1_p n (k + 1) (by omega) (by omega)
      have hlen := spareK_len ws ts k
      have hb := butL_len (m := ws.length) (w := k) (by omega)
      have e := spare_l2_p hN hF (w := k) (u := ws.length) (u2 := k) (out := spareK ws ts k) c N 0 (by omega) (by omega)
      have hj : ∀ O, O = spareK ws ts (k + 1) → spare_j2 N (spare_l1 N n) (ws, ts, br_) ws.length k O = some (spareK ws ts ws.length) := by
        rintro O rfl
        rw [show ((k + 1 : Nat) : Int) = (k : Int) + 1 by omega] at ih
        unfold spare_j2
        rw [chk_eq (by omega), ih]
      rw [show min 0 k = 0 by omega, Int.natCast_zero, wordsL_nil (by omega), wordsL_nil (by omega), List.append_nil] at e
      rw [br_dec (by omega)]
      simp only
      rw [e]
      simp only [Option.bind_some]
      have es := spareK_succ ws ts k
      by_cases d : 1 < ws.length
      · rw [br_dec (by omega), keeps_v hN hF (by omega)]
        simp only [Option.bind_some]
        rw [decide_eq_true d, Bool.true_and] at es
        cases hp : ts.all (keepP (butL ws.length k))
        · rw [hp] at es
          rw [br_false, hj _ (by rw [es]; simp)]
        · rw [hp] at es
          rw [br_true, lim_eq (by simp; omega), hj _ (by rw [es]; simp)]
      · rw [decide_eq_false d, Bool.false_and] at es
        rw [br_ndec (by omega), hj _ (by rw [es]; simp)]
    · obtain rfl : k = ws.length := by omega
      rw [br_ndec (by omega)]
omit hN hF
def spareR (ws : List Wd) (ts : List Tn) (br_ : Int) : List Int × Int := if checkT ws ts br_ ≠ 0 then ([], checkT ws ts br_) else (spareK ws ts ws.length, 0)
theorem spare_v (hN : 110 ≤ N) (hw : ws.length ≤ 1000000) (ht : ts.length ≤ 1000000) : spare_S N ws ts br_ = some (spareR ws ts br_) := by
  unfold spare_S spareR
  rw [opened_v (by omega) hw ht]
  by_cases c : checkT ws ts br_ = 0
  · have hF := tfine_of c
    have hn := hF.n
    have e := spare_l1_p hN hF N 0 (by omega) (by omega)
    rw [if_pos c, if_neg (by simpa using c)]
    simp only [Option.bind_some]
    rw [br_nd (by first | trivial | rfl)]
    rw [show spareK ws ts 0 = [] from rfl] at e
    simp only [Int.natCast_zero] at e
    rw [e]; rfl
  · rw [if_neg c, if_pos c]
    simp only [Option.bind_some]
    rw [br_nnd c]
theorem wordso_l1_p {a b : Int} (ha : -1000 ≤ a ∧ b ≤ 1000) : ∀ (n : Nat) (w : Int), (b - w).toNat < n → a ≤ w → w ≤ b → wordso_l1 N n b w (wordsL a w) = some (wordsL a b)
  | 0, w, h, _, _ => by omega
  | n + 1, w, h, h1, h2 => by
    unfold wordso_l1
    by_cases c : w < b
    · have ih := wordso_l1_p ha n (w + 1) (by omega) (by omega) (by omega)
      rw [wordsL_snoc h1] at ih
      rw [br_dec c, lim_eq (by simp [wordsL_len]; omega), chk_eq (by omega), ih]
    · rw [br_ndec c, show w = b by omega]
theorem wordso_v {a b : Int} (ha : -1000 ≤ a ∧ b ≤ 1000) (hab : a ≤ b) (hN : (b - a).toNat < N) : wordso_S N a b = some (wordsL a b) := by
  have e := wordso_l1_p (N := N) ha N a hN (by omega) hab
  rw [wordsL_nil (a := a) (b := a) (by omega)] at e
  unfold wordso_S
  rw [e]; rfl
include hN hF
theorem rspare_l1_p : ∀ (n k : Nat), ws.length < n + k → k ≤ ws.length → rspare_l1 N n k ws ts br_ (spareK ws ts k) = some (spareK ws ts ws.length)
  | 0, k, h, _ => by omega
  | n + 1, k, h, hk => by
    have hn := hF.n
    unfold rspare_l1
    by_cases c : k < ws.length
    · have ih := rspare_l1_p n (k + 1) (by omega) (by omega)
      have hlen := spareK_len ws ts k
      have hb := butL_len (m := ws.length) (w := k) (by omega)
      have hj : ∀ O, O = spareK ws ts (k + 1) → rspare_j1 N (rspare_l1 N n) k ws ts br_ O = some (spareK ws ts ws.length) := by
        rintro O rfl
        rw [show ((k + 1 : Nat) : Int) = (k : Int) + 1 by omega] at ih
        unfold rspare_j1
        rw [chk_eq (by omega), ih]
      have es := spareK_succ ws ts k
      rw [br_dec (by omega)]
      by_cases d : 1 < ws.length
      · obtain ⟨s, e1, _, e2⟩ := said_keep hN hF (l := butL ws.length k) (by omega)
        rw [br_dec (by omega), wordso_v (by omega) (by omega) (by omega)]
        simp only [Option.bind_some]
        rw [chk_eq (by omega), wordso_v (by omega) (by omega) (by omega)]
        simp only [Option.bind_some]
        unfold butL at e1
        rw [lim_eq (by rw [wordsL_len, wordsL_len]; omega), e1]
        simp only [Option.bind_some]
        rw [e2]
        rw [decide_eq_true d, Bool.true_and] at es
        cases hp : ts.all (keepP (butL ws.length k))
        · rw [hp] at es
          rw [br_false, hj _ (by rw [es]; simp)]
        · rw [hp] at es
          rw [br_true, lim_eq (by simp; omega), hj _ (by rw [es]; simp)]
      · rw [br_ndec (by omega)]
        have : ∀ j, spareK ws ts j = [] := fun j => by
          unfold spareK
          rw [decide_eq_false d]
          simp
        rw [this, this]
    · obtain rfl : k = ws.length := by omega
      rw [br_ndec (by omega)]
omit hN hF
theorem rspare_v (hN : 110 ≤ N) (hw : ws.length ≤ 1000000) (ht : ts.length ≤ 1000000) : rspare_S N ws ts br_ = some (spareR ws ts br_) := by
  unfold rspare_S spareR
  rw [rcheck_v (by omega) hw ht]
  simp only [Option.bind_some]
  by_cases c : checkT ws ts br_ = 0
  · have hF := tfine_of c
    have hn := hF.n
    have e := rspare_l1_p hN hF N 0 (by omega) (by omega)
    rw [show spareK ws ts 0 = [] from rfl] at e
    simp only [Int.natCast_zero] at e
    rw [br_nd c, if_neg (by simpa using c), e]; rfl
  · rw [br_nnd c, if_pos c]
end
end Go.Proofs.Ytfamlpbdhhikdaa

namespace Go.Proofs.Ytfamlpbdhhikdaa
set_option linter.all false
open Go

/-! ### Which list comes ahead -/
theorem bef_self : ∀ l : List Int, bef l l = false
  | [] => rfl
  | a :: l => by unfold bef; rw [if_pos rfl, bef_self l]
theorem bef_total : ∀ {a b : List Int}, a.length = b.length → bef a b = false → bef b a = false → a = b
  | [], [], _, _, _ => rfl
  | [], _ :: _, h, _, _ => by simp at h
  | _ :: _, [], h, _, _ => by simp at h
  | x :: a, y :: b, h, h1, h2 => by
    unfold bef at h1 h2
    by_cases e : x = y
    · subst e
      rw [if_pos rfl] at h1 h2
      rw [bef_total (by simpa using h) h1 h2]
    · rw [if_neg e, decide_eq_false_iff_not] at h1
      rw [if_neg (Ne.symm e), decide_eq_false_iff_not] at h2
      omega
theorem bef_trans : ∀ {a b c : List Int}, bef a b = true → bef b c = true → bef a c = true
  | [], _, _, h, _ => by simp [bef] at h
  | _ :: _, [], _, h, _ => by simp [bef] at h
  | _ :: _, _ :: _, [], _, h => by simp [bef] at h
  | x :: a, y :: b, z :: c, h1, h2 => by
    unfold bef at h1 h2 ⊢
    by_cases e : x = y
    · subst e
      rw [if_pos rfl] at h1
      by_cases e2 : x = z
      · subst e2
        rw [if_pos rfl] at h2 ⊢
        exact bef_trans h1 h2
      · rw [if_neg e2] at h2 ⊢; exact h2
    · rw [if_neg e, decide_eq_true_eq] at h1
      by_cases e2 : y = z
      · subst e2
        rw [if_neg e, decide_eq_true_eq]; exact h1
      · rw [if_neg e2, decide_eq_true_eq] at h2
        rw [if_neg (by omega), decide_eq_true_eq]; omega
def prec (a b : List Int) : Prop := a.length < b.length ∨ a.length = b.length ∧ bef a b = true
theorem prec_trans {a b c : List Int} : prec a b → prec b c → prec a c := by
  rintro (h | ⟨h, h2⟩) (g | ⟨g, g2⟩)
  · exact .inl (by omega)
  · exact .inl (by omega)
  · exact .inl (by omega)
  · exact .inr ⟨by omega, bef_trans h2 g2⟩
theorem prec_self (l : List Int) : ¬ prec l l := by
  rintro (h | ⟨_, h⟩)
  · omega
  · rw [bef_self] at h; cases h
theorem leastW_uniq {m : Int} {P : List Int → Bool} {a b : List Int} (ha : LeastW m P a) (hb : LeastW m P b) : a = b := by
  obtain ⟨a1, a2, a3, a4⟩ := ha
  obtain ⟨b1, b2, b3, b4⟩ := hb
  rcases a4 b b1 b2 b3 with h | ⟨h, h2⟩ <;> rcases b4 a a1 a2 a3 with g | ⟨g, g2⟩
  · omega
  · omega
  · omega
  · exact bef_total h g2 h2
/-! ### Lists that numbers say -/
def lst : Nat → Int → Nat → List Int
  | 0, _, _ => []
  | k + 1, w, n => (if n % 2 = 1 then [w] else []) ++ lst k (w + 1) (n / 2)
theorem lst_zero : ∀ (k : Nat) (w : Int), lst k w 0 = []
  | 0, _ => rfl
  | k + 1, w => by unfold lst; rw [if_neg (by decide), List.nil_append, Nat.zero_div, lst_zero k]
theorem lst_len : ∀ (k : Nat) (w : Int) (n : Nat), (lst k w n).length ≤ k
  | 0, _, _ => by simp [lst]
  | k + 1, w, n => by
    have := lst_len k (w + 1) (n / 2)
    unfold lst
    rw [List.length_append]
    split <;> simp <;> omega
theorem lst_ok : ∀ (k : Nat) (w : Int) (n : Nat), okC (w + k) w (lst k w n)
  | 0, _, _ => trivial
  | k + 1, w, n => by
    have := lst_ok k (w + 1) (n / 2)
    rw [show w + 1 + (k : Int) = w + ((k + 1 : Nat) : Int) by omega] at this
    unfold lst
    split
    · exact ⟨by omega, this⟩
    · exact okC_mono (by omega) this
theorem lst_all : ∀ (k : Nat) (w : Int) (c : List Int), okC (w + k) w c → ∃ n, n < 2 ^ k ∧ lst k w n = c
  | 0, w, c, h => by
    cases c with
    | nil => exact ⟨0, by decide, rfl⟩
    | cons a r => have := h.1; omega
  | k + 1, w, c, h => by
    have hp : 2 ^ (k + 1) = 2 * 2 ^ k := by rw [Nat.pow_succ]; omega
    have e : w + ((k + 1 : Nat) : Int) = w + 1 + (k : Int) := by omega
    rw [e] at h
    by_cases d : ∃ r, c = w :: r
    · obtain ⟨r, rfl⟩ := d
      obtain ⟨n, h1, h2⟩ := lst_all k (w + 1) r h.2
      refine ⟨2 * n + 1, by omega, ?_⟩
      unfold lst
      rw [if_pos (by omega), show (2 * n + 1) / 2 = n by omega, h2]; rfl
    · have h' : okC (w + 1 + (k : Int)) (w + 1) c := by
        cases c with
        | nil => trivial
        | cons a r =>
          have : a ≠ w := fun ha => d ⟨r, by rw [ha]⟩
          obtain ⟨⟨h1, h2⟩, h3⟩ := h
          exact ⟨⟨by omega, h2⟩, h3⟩
      obtain ⟨n, h1, h2⟩ := lst_all k (w + 1) c h'
      refine ⟨2 * n, by omega, ?_⟩
      unfold lst
      rw [if_neg (by omega), show (2 * n) / 2 = n by omega, h2]; rfl
theorem lst_ne {k : Nat} {w : Int} {n : Nat} (h : n < 2 ^ k) (h0 : n ≠ 0) : lst k w n ≠ [] := by
  induction k generalizing w n with
  | zero => simp at h; omega
  | succ k ih =>
    have hp : 2 ^ (k + 1) = 2 * 2 ^ k := by rw [Nat.pow_succ]; omega
    unfold lst
    split
    · simp
    · rw [List.nil_append]
      exact ih (by omega) (by omega)
section
variable {N : Nat} {ws : List Wd} {ts : List Tn} {br_ : Int}
theorem list_l1_p : ∀ (k f n : Nat) (w : Int) (out : List Int), n < 2 ^ k → k < f → k ≤ 20 → 0 ≤ w ∧ w + k ≤ 1000 → out.length + k ≤ 1000 → list__l1 N f n w out = some (out ++ lst k w n)
  | _, 0, _, _, _, _, h, _, _, _ => by omega
  | 0, f + 1, n, w, out, h, _, _, _, _ => by
    have : n = 0 := by simpa using h
    subst this
    unfold list__l1
    rw [br_ndec (by simp)]; simp [lst]
  | k + 1, f + 1, n, w, out, h, h1, h2, h3, h4 => by
    have hp : 2 ^ (k + 1) = 2 * 2 ^ k := by rw [Nat.pow_succ]; omega
    have hp2 : 2 ^ k ≤ 2 ^ 20 := Nat.pow_le_pow_right (by decide) (by omega)
    unfold list__l1
    by_cases c : 0 < n
    · have hj : ∀ O : List Int, O.length + k ≤ 1000 → list__j1 N (list__l1 N f) n w O = some (O ++ lst k (w + 1) (n / 2)) := by
        intro O hO
        have ih := list_l1_p k f (n / 2) (w + 1) O (by omega) (by omega) (by omega) (by omega) hO
        unfold list__j1
        rw [chk_eq (by omega), Int.tdiv_eq_ediv_of_nonneg (by omega), IntWalk.i64_in _ (by omega)]
        rw [show (n : Int) / 2 = ((n / 2 : Nat) : Int) by omega, ih]
      rw [br_dec (by omega), Int.tmod_eq_emod_of_nonneg (by omega)]
      unfold lst
      by_cases d : n % 2 = 1
      · rw [br_dec (by omega), lim_eq (by simp; omega), hj _ (by simp; omega), if_pos d]; simp
      · rw [br_ndec (by omega), hj _ (by omega), if_neg d]; simp
    · obtain rfl : n = 0 := by omega
      rw [br_ndec (by simp), lst_zero]; simp
theorem list_v {k n : Nat} (h : n < 2 ^ k) (hk : k ≤ 20) (hN : k < N) : list__S N n = some (lst k 0 n) := by
  unfold list__S
  rw [list_l1_p k N n 0 [] h hN hk (by omega) (by simp; omega)]; rfl
theorem lists_l1_p (hw : ws.length ≤ 12) : ∀ (f i : Nat), ws.length < f + i → i ≤ ws.length → lists_l1 N f ((2 ^ i : Nat) : Int) i ws ts br_ = some ((2 ^ ws.length : Nat) : Int)
  | 0, i, h, _ => by omega
  | f + 1, i, h, hi => by
    unfold lists_l1
    by_cases c : i < ws.length
    · have ih := lists_l1_p hw f (i + 1) (by omega) (by omega)
      have hp : 2 ^ (i + 1) = 2 * 2 ^ i := by rw [Nat.pow_succ]; omega
      have hp2 : 2 ^ i ≤ 2 ^ 12 := Nat.pow_le_pow_right (by decide) (by omega)
      rw [show (2 : Int) * ((2 ^ i : Nat) : Int) = ((2 ^ (i + 1) : Nat) : Int) by rw [hp]; omega, br_dec (by omega), chk_eq (by omega), chk_eq (by omega)]
      rw [show ((i + 1 : Nat) : Int) = (i : Int) + 1 by omega] at ih
      exact ih
    · obtain rfl : i = ws.length := by omega
      rw [br_ndec (by omega)]
theorem lists_v (hw : ws.length ≤ 12) (hN : 110 ≤ N) : lists_S N ws ts br_ = some ((2 ^ ws.length : Nat) : Int) := by
  have e := lists_l1_p (N := N) (ts := ts) (br_ := br_) hw N 0 (by omega) (by omega)
  simp only [Int.natCast_zero, Nat.pow_zero, Int.natCast_one] at e
  unfold lists_S
  rw [e]; rfl
theorem before_l1_p {a b : List Int} (hab : a.length = b.length) (ha : a.length ≤ 1000) : ∀ (n k : Nat), a.length < n + k → k ≤ a.length → ∃ r, before_l1 N n a b k = some r ∧ match r with
    | .inl x => x.1 = a ∧ x.2.1 = b ∧ ∃ j : Nat, x.2.2 = j ∧ j < a.length ∧ bef (a.drop k) (b.drop k) = decide (a.getD j 0 < b.getD j 0)
    | .inr _ => bef (a.drop k) (b.drop k) = false
  | 0, k, h, _ => by omega
  | n + 1, k, h, hk => by
    unfold before_l1
    by_cases c : k < a.length
    · have g1 := gets c 0
      have g2 := gets (l := b) (k := k) (by omega) 0
      rw [br_dec (by omega), idx_eq (by omega) g1, idx_eq (by omega) g2, drop_cons c 0, drop_cons (l := b) (k := k) (by omega) 0]
      unfold bef
      by_cases d : a.getD k 0 = b.getD k 0
      · obtain ⟨r, e, hr⟩ := before_l1_p hab ha n (k + 1) (by omega) (by omega)
        rw [show ((k + 1 : Nat) : Int) = (k : Int) + 1 by omega] at e
        rw [br_nd d, chk_eq (by omega), e, if_pos d]
        exact ⟨r, rfl, hr⟩
      · rw [br_nnd d, if_neg d]
        exact ⟨_, rfl, rfl, rfl, k, rfl, c, rfl⟩
    · rw [br_ndec (by omega), List.drop_of_length_le (by omega)]
      exact ⟨_, rfl, rfl⟩
theorem before_v {a b : List Int} (hab : a.length = b.length) (ha : a.length ≤ 1000) (hN : a.length < N) : before_S N a b = some (bef a b) := by
  obtain ⟨r, e, hr⟩ := before_l1_p (N := N) hab ha N 0 (by omega) (by omega)
  simp only [Int.natCast_zero] at e
  unfold before_S
  rw [e]
  simp only [Option.bind_some]
  cases r with
  | inl x =>
    obtain ⟨x1, x2, x3⟩ := x
    obtain ⟨rfl, rfl, j, rfl, hj, e2⟩ := hr
    simp only [List.drop_zero] at e2
    simp only
    have hab' : x1.length = x2.length := hab
    have hj' : j < x1.length := hj
    have e2' : bef x1 x2 = decide (x1.getD j 0 < x2.getD j 0) := e2
    rw [idx_eq (by omega) (gets hj' 0), idx_eq (by omega) (gets (l := x2) (k := j) (by omega) 0), e2']
  | inr u =>
    simp only [List.drop_zero] at hr
    rw [hr]
/-- The best of the lists that were looked at. -/
def BestI (m : Nat) (P : List Int → Bool) (k : Nat) (best : List Int) : Prop :=
  best = [] ∧ (∀ i, 1 ≤ i → i < k → P (lst m 0 i) = false) ∨ (okC m 0 best ∧ best ≠ [] ∧ P best = true) ∧ ∀ i, 1 ≤ i → i < k → P (lst m 0 i) = true → ¬ prec (lst m 0 i) best
theorem BestI.skip {m : Nat} {P : List Int → Bool} {k : Nat} {best : List Int} (h : BestI m P k best) (hp : P (lst m 0 k) = false) : BestI m P (k + 1) best := by
  rcases h with ⟨h1, h2⟩ | ⟨h1, h2⟩
  · refine .inl ⟨h1, fun i a b => ?_⟩
    by_cases e : i = k
    · rw [e]; exact hp
    · exact h2 i a (by omega)
  · refine .inr ⟨h1, fun i a b c => ?_⟩
    by_cases e : i = k
    · rw [e, hp] at c; cases c
    · exact h2 i a (by omega) c
theorem BestI.keep {m : Nat} {P : List Int → Bool} {k : Nat} {best : List Int} (h : BestI m P k best) (hb : best ≠ []) (hp : ¬ prec (lst m 0 k) best) : BestI m P (k + 1) best := by
  rcases h with ⟨h1, h2⟩ | ⟨h1, h2⟩
  · exact absurd h1 hb
  · refine .inr ⟨h1, fun i a b c => ?_⟩
    by_cases e : i = k
    · rw [e]; exact hp
    · exact h2 i a (by omega) c
theorem BestI.take {m : Nat} {P : List Int → Bool} {k : Nat} {best : List Int} (h : BestI m P k best) (hk : 1 ≤ k ∧ k < 2 ^ m) (hp : P (lst m 0 k) = true) (hb : best = [] ∨ prec (lst m 0 k) best) : BestI m P (k + 1) (lst m 0 k) := by
  have ho := lst_ok m 0 k
  rw [Int.zero_add] at ho
  refine .inr ⟨⟨ho, lst_ne hk.2 (by omega), hp⟩, fun i a b c => ?_⟩
  by_cases e : i = k
  · rw [e]; exact prec_self _
  · rcases h with ⟨h1, h2⟩ | ⟨h1, h2⟩
    · rw [h2 i a (by omega)] at c; cases c
    · rcases hb with hb | hb
      · exact absurd hb h1.2.1
      · exact fun hpr => h2 i a (by omega) c (prec_trans hpr hb)
theorem BestI.done {m : Nat} {P : List Int → Bool} {best : List Int} (h : BestI m P (2 ^ m) best) : best ≠ [] ∧ LeastW m P best ∨ best = [] ∧ ∀ c, okC m 0 c → c ≠ [] → P c = false := by
  have key : ∀ c, okC (m : Int) 0 c → c ≠ [] → ∃ i, 1 ≤ i ∧ i < 2 ^ m ∧ lst m 0 i = c := by
    intro c hc hn
    obtain ⟨n, h1, h2⟩ := lst_all m 0 c (by rw [Int.zero_add]; exact hc)
    refine ⟨n, ?_, h1, h2⟩
    rcases Nat.eq_zero_or_pos n with e | e
    · subst e; rw [lst_zero] at h2; exact absurd h2.symm hn
    · exact e
  rcases h with ⟨h1, h2⟩ | ⟨⟨h1, h3, h4⟩, h2⟩
  · refine .inr ⟨h1, fun c hc hn => ?_⟩
    obtain ⟨i, a, b, rfl⟩ := key c hc hn
    exact h2 i a b
  · refine .inl ⟨h3, h1, h3, h4, fun c hc hn hp => ?_⟩
    obtain ⟨i, a, b, rfl⟩ := key c hc hn
    have := h2 i a b hp
    unfold prec at this
    rcases Nat.lt_trichotomy best.length (lst m 0 i).length with e | e | e
    · exact .inl e
    · refine .inr ⟨e, ?_⟩
      cases hb : bef (lst m 0 i) best
      · rfl
      · exact absurd (.inr ⟨e.symm, hb⟩) this
    · exact absurd (.inl e) this
variable (hN : 110 ≤ N) (hF : TFine ws ts br_)
include hN hF
theorem rleast_l1_p {wt : Int} : ∀ (n k : Nat) (best : List Int), 2 ^ ws.length < n + k → 1 ≤ k → k ≤ 2 ^ ws.length → BestI ws.length (goodP ws ts wt) k best → best.length ≤ 20 →
    ∃ b, rleast_l1 N n wt best k ws ts br_ = some b ∧ b.length ≤ 20 ∧ BestI ws.length (goodP ws ts wt) (2 ^ ws.length) b
  | 0, k, best, h, _, _, _, _ => by omega
  | n + 1, k, best, h, hk, hk2, hb, hbl => by
    have hn := hF.n
    have hp2 : 2 ^ ws.length ≤ 2 ^ 12 := Nat.pow_le_pow_right (by decide) (by omega)
    unfold rleast_l1
    rw [lists_v (by omega) hN]
    simp only [Option.bind_some]
    by_cases c : k < 2 ^ ws.length
    · have hll := lst_len ws.length 0 k
      have hlo := lst_ok ws.length 0 k
      rw [Int.zero_add] at hlo
      have hlm := okC_mem hlo
      have hj : ∀ best' : List Int, BestI ws.length (goodP ws ts wt) (k + 1) best' → best'.length ≤ 20 → ∃ b, rleast_j1 N (rleast_l1 N n) wt best' k ws ts br_ = some b ∧ b.length ≤ 20 ∧ BestI ws.length (goodP ws ts wt) (2 ^ ws.length) b := by
        intro best' h1 h2
        obtain ⟨b, e, hb⟩ := rleast_l1_p (wt := wt) n (k + 1) best' (by omega) (by omega) (by omega) h1 h2
        rw [show ((k + 1 : Nat) : Int) = (k : Int) + 1 by omega] at e
        unfold rleast_j1
        rw [chk_eq (by omega), e]
        exact ⟨b, rfl, hb⟩
      obtain ⟨s, e1, _, e2⟩ := said_keep hN hF (l := lst ws.length 0 k) (by omega)
      rw [br_dec (by omega), list_v c (by omega) (by omega)]
      simp only [Option.bind_some]
      rw [e1]
      simp only [Option.bind_some]
      cases hp : ts.all (keepP (lst ws.length 0 k))
      · rw [hp, decide_eq_false_iff_not] at e2
        rw [br_dec (by omega)]
        exact hj best (hb.skip (by unfold goodP; rw [hp, Bool.and_false])) hbl
      rw [hp, decide_eq_true_eq] at e2
      rw [br_ndec (by omega), rweight_v hF (by omega) hN hlm]
      simp only [Option.bind_some]
      by_cases d : wtR ws (lst ws.length 0 k) < wt
      · rw [br_dec d]
        exact hj best (hb.skip (by unfold goodP; rw [decide_eq_false (by omega), Bool.false_and])) hbl
      have hg : goodP ws ts wt (lst ws.length 0 k) = true := by unfold goodP; rw [hp, decide_eq_true (by omega)]; rfl
      rw [br_ndec d]
      by_cases d1 : (best.length : Int) = 0
      · rw [br_dec d1]
        exact hj _ (hb.take ⟨hk, c⟩ hg (.inl (List.eq_nil_of_length_eq_zero (by omega)))) (by omega)
      have hbn : best ≠ [] := by intro e; subst e; simp at d1
      rw [br_ndec d1]
      by_cases d2 : ((lst ws.length 0 k).length : Int) < (best.length : Int)
      · rw [br_dec d2]
        exact hj _ (hb.take ⟨hk, c⟩ hg (.inr (.inl (by omega)))) (by omega)
      rw [br_ndec d2]
      by_cases d3 : ((lst ws.length 0 k).length : Int) = (best.length : Int)
      · rw [br_dec d3, before_v (by omega) (by omega) (by omega)]
        simp only [Option.bind_some]
        cases hbf : bef (lst ws.length 0 k) best
        · rw [br_false]
          refine hj _ (hb.keep hbn ?_) hbl
          rintro (h | ⟨_, h⟩)
          · omega
          · rw [hbf] at h; cases h
        · rw [br_true]
          exact hj _ (hb.take ⟨hk, c⟩ hg (.inr (.inr ⟨by omega, hbf⟩))) (by omega)
      · rw [br_ndec d3]
        refine hj _ (hb.keep hbn ?_) hbl
        rintro (h | ⟨h, _⟩) <;> omega
    · obtain rfl : k = 2 ^ ws.length := by omega
      rw [br_ndec (by omega)]
      exact ⟨best, rfl, hbl, hb⟩
omit hN hF
theorem rleast_v (hN : 110 ≤ N) (hw : ws.length ≤ 1000000) (ht : ts.length ≤ 1000000) {wt : Int} (hp : checkT ws ts br_ = 0 → 2 ^ ws.length < N) : ∃ l e, rleast_S N ws ts br_ wt = some (l, e) ∧ LeastQ ws ts br_ wt l e := by
  unfold rleast_S
  rw [rcheck_v (by omega) hw ht]
  simp only [Option.bind_some]
  by_cases c : checkT ws ts br_ = 0
  · have hF := tfine_of c
    have hn := hF.n
    have hpos : 1 ≤ 2 ^ ws.length := Nat.one_le_two_pow
    have hq : ∀ l e, LeastQ ws ts br_ wt l e ↔ (if wt < 0 then l = [] ∧ e = 3 else e = 0 ∧ LeastW ws.length (goodP ws ts wt) l ∨ (e = 6 ∧ l = []) ∧ ∀ c, okC ws.length 0 c → c ≠ [] → goodP ws ts wt c = false) := fun l e => by
      unfold LeastQ
      rw [if_neg (by simpa using c)]
    simp only [hq]
    rw [br_nd c]
    by_cases d : wt < 0
    · rw [br_dec d]
      simp only [if_pos d]
      exact ⟨_, _, rfl, rfl, rfl⟩
    · rw [br_ndec d]
      simp only [if_neg d]
      have := hp c
      obtain ⟨b, e, hb1, hb⟩ := rleast_l1_p hN hF (wt := wt) N 1 [] (by omega) (by omega) hpos (.inl ⟨rfl, fun i a b => by omega⟩) (by simp)
      simp only [Int.natCast_one] at e
      rw [e]
      simp only [Option.bind_some]
      rcases hb.done with ⟨h1, h2⟩ | ⟨h1, h2⟩
      · rw [br_ndec (by intro h0; exact h1 (List.eq_nil_of_length_eq_zero (by omega)))]
        exact ⟨_, _, rfl, .inl ⟨rfl, h2⟩⟩
      · subst h1
        rw [br_dec (by simp)]
        exact ⟨_, _, rfl, .inr ⟨⟨rfl, rfl⟩, h2⟩⟩
  · rw [br_nnd c]
    refine ⟨_, _, rfl, ?_⟩
    unfold LeastQ
    rw [if_pos c]
    exact ⟨rfl, rfl⟩
end
theorem spareR_len (ws : List Wd) (ts : List Tn) (br_ : Int) : (spareR ws ts br_).1.length ≤ ws.length := by
  unfold spareR
  split
  · simp
  · exact spareK_len ws ts _
theorem tleast_true {ws : List Wd} {ts : List Tn} {br_ wt : Int} (h0 : Ty.inB TextT (ws, ts, br_)) (h1 : Ty.inB (.int .i64) wt) : tleast_S 1100 ws ts br_ wt = some true := by
  unfold tleast_S
  have aw : ((awake_S 1100).bind fun x => some x) = some true := by rw [awake_v]; rfl
  rcases great_v (N := 1100) (ws := ws) (ts := ts) (br_ := br_) 10 with e | ⟨e, hw, ht, h10⟩ <;> rw [e] <;> simp only [Option.bind_some]
  · rw [br_true]; exact aw
  rw [br_false, copyx_v (by omega) (by omega)]
  simp only [Option.bind_some]
  rw [theirs_v (by omega) (by omega) (by omega) (by omega)]
  simp only [Option.bind_some]
  obtain ⟨l, e1, q1, r1⟩ := least_v (N := 1100) (ws := ws) (ts := ts) (br_ := br_) (wt := wt) (by omega) (by omega) (by omega)
  obtain ⟨l2, e2, q2, r2⟩ := rleast_v (N := 1100) (ws := ws) (ts := ts) (br_ := br_) (wt := wt) (by omega) (by omega) (by omega) (fun c => by
    have := (tfine_of c).n
    have hp2 : 2 ^ ws.length ≤ 2 ^ 10 := Nat.pow_le_pow_right (by decide) (by omega)
    omega)
  have key : l2 = l ∧ e2 = e1 ∧ l.length ≤ 100 := by
    unfold LeastQ at r1 r2
    split at r1
    · rename_i c
      rw [if_pos c] at r2
      rw [r1.1, r1.2, r2.1, r2.2]; exact ⟨rfl, rfl, by simp⟩
    rename_i c
    have hn := (tfine_of (by simpa using c)).n
    rw [if_neg c] at r2
    split at r1
    · rename_i d
      rw [if_pos d] at r2
      rw [r1.1, r1.2, r2.1, r2.2]; exact ⟨rfl, rfl, by simp⟩
    rename_i d
    rw [if_neg d] at r2
    rcases r1 with ⟨a1, a2⟩ | ⟨⟨a1, a2⟩, a3⟩ <;> rcases r2 with ⟨b1, b2⟩ | ⟨⟨b1, b2⟩, b3⟩
    · refine ⟨leastW_uniq b2 a2, by omega, ?_⟩
      have := okC_len a2.1 a2.2.1
      omega
    · have := b3 l a2.1 a2.2.1
      rw [a2.2.2.1] at this; cases this
    · have := a3 l2 b2.1 b2.2.1
      rw [b2.2.2.1] at this; cases this
    · rw [a1, a2, b1, b2]; exact ⟨rfl, rfl, by simp⟩
  obtain ⟨k1, k2, k3⟩ := key
  subst k1; subst k2
  have hsl := spareR_len ws ts br_
  rw [q1]
  simp only [Option.bind_some]
  rw [q2]
  simp only [Option.bind_some]
  rw [br_nd (by first | trivial | rfl), likei_v (by omega) (by omega)]
  simp only [Option.bind_some]
  rw [Bool.not_true, br_false, spare_v (by omega) (by omega) (by omega), rspare_v (by omega) (by omega) (by omega)]
  simp only [Option.bind_some]
  rw [br_dec (by first | trivial | rfl), likei_v (by omega) (by omega)]
  simp only [Option.bind_some]
  rw [br_true, same_v (by omega) (by omega) (by omega) (by omega)]
  simp only [Option.bind_some]
  rw [br_true]; exact aw
end Go.Proofs.Ytfamlpbdhhikdaa

namespace Go.Proofs.Ytfamlpbdhhikdaa
set_option linter.all false
open Go

theorem ascB_of : ∀ {l : List Int}, (∀ i, i + 1 < l.length → l.getD i 0 < l.getD (i + 1) 0) → ascB l = true
  | [], _ => rfl
  | [_], _ => rfl
  | a :: b :: r, h => by
    have h0 := h 0 (by simp)
    simp only [ascB, Bool.and_eq_true, decide_eq_true_eq]
    refine ⟨by simpa using h0, ascB_of fun i hi => ?_⟩
    have := h (i + 1) (by simp at hi ⊢; omega)
    simpa using this
theorem okC_asc {m : Int} : ∀ {c : List Int} {lo : Int}, okC m lo c → ascB c = true
  | [], _, _ => rfl
  | [_], _, _ => rfl
  | a :: b :: r, lo, ⟨_, h2⟩ => by
    have := h2.1.1
    simp only [ascB, Bool.and_eq_true, decide_eq_true_eq]
    exact ⟨by omega, okC_asc h2⟩
theorem asc_cons : ∀ {l : List Int} {a : Int}, ascB (a :: l) = true → ascB l = true ∧ ∀ x ∈ l, a < x
  | [], _, _ => ⟨rfl, fun x h => by cases h⟩
  | b :: r, a, h => by
    simp only [ascB, Bool.and_eq_true, decide_eq_true_eq] at h
    refine ⟨h.2, fun x hx => ?_⟩
    rcases List.mem_cons.1 hx with rfl | hx
    · exact h.1
    · have := (asc_cons h.2).2 x hx; omega
theorem okC_of {m : Int} : ∀ {l : List Int} {lo : Int}, ascB l = true → (∀ x ∈ l, lo ≤ x ∧ x < m) → okC m lo l
  | [], _, _, _ => trivial
  | a :: r, lo, h, hm => by
    obtain ⟨h1, h2⟩ := asc_cons h
    exact ⟨hm a (by simp), okC_of h1 fun x hx => ⟨by have := h2 x hx; omega, (hm x (by simp [hx])).2⟩⟩
theorem keptE_of {ws : List Wd} {ts : List Tn} {br_ : Int} {l : List Int} (h : checkT ws ts br_ = 0) (h1 : l ≠ []) (h2 : inW ws l) (h3 : ascB l = true) : keptE ws ts br_ l = 0 := by
  unfold keptE
  rw [if_neg (by simpa using h), if_neg (by intro e; exact h1 (List.eq_nil_of_length_eq_zero (by omega))), if_neg, if_neg (by simp [h3])]
  rw [Bool.not_eq_false, List.all_eq_true]
  intro x hx
  have := h2 x hx
  simp only [inT, decide_eq_true_eq]; omega
/-! ### All words -/
theorem wordsL_get {a b : Int} {i : Nat} (h : i < (b - a).toNat) : (wordsL a b).getD i 0 = a + i := by
  simp [wordsL, List.getD, h]
theorem wordsL_asc (a b : Int) : ascB (wordsL a b) = true := ascB_of fun i hi => by
  rw [wordsL_len] at hi
  rw [wordsL_get (by omega), wordsL_get (by omega)]; omega
theorem posI_words {m v : Int} (h : 0 ≤ v ∧ v < m) : posI (wordsL 0 m) v = v.toNat :=
  posI_uniq (by rw [wordsL_len]; omega) (fun i hi => by rw [wordsL_get (by omega)]; omega) (fun hl => by rw [wordsL_get (by omega)]; omega)
theorem contains_words {a b v : Int} : (wordsL a b).contains v = decide (a ≤ v ∧ v < b) := by
  rw [Bool.eq_iff_iff, List.contains_iff_mem, mem_wordsL, decide_eq_true_eq]
theorem shS_one {ws : List Wd} {a : Nat} (h : a < ws.length) : shS ws a (a + 1) = (ws.getD a (0, 0, false)).2.2 := by
  rw [shS_succ (Nat.le_refl _) h, shS_self, Bool.false_or]
theorem shW_get (ws : List Wd) (e : Int) : ∀ (l : List Int) (i : Nat), i < l.length → (shW ws l e).getD i (0, 0, false) = ((ws.getD (l.getD i 0).toNat (0, 0, false)).1, (ws.getD (l.getD i 0).toNat (0, 0, false)).2.1, shS ws (l.getD i 0).toNat (l.getD (i + 1) e).toNat)
  | [], i, h => by simp at h
  | a :: r, 0, _ => by
    unfold shW
    cases r <;> simp
  | a :: r, i + 1, h => by
    have := shW_get ws e r i (by simpa using h)
    unfold shW
    simpa using this
theorem shW_all (ws : List Wd) : shW ws (wordsL 0 ws.length) ws.length = ws := by
  have hl : (wordsL 0 (ws.length : Int)).length = ws.length := by rw [wordsL_len]; omega
  refine List.ext_getElem (by rw [shW_len, hl]) fun i h1 h2 => ?_
  have e := shW_get ws ws.length (wordsL 0 ws.length) i (by omega)
  have e1 : (wordsL 0 (ws.length : Int)).getD (i + 1) ws.length = i + 1 := by
    by_cases c : i + 1 < ws.length
    · have : (wordsL 0 (ws.length : Int)).getD (i + 1) ws.length = (wordsL 0 (ws.length : Int)).getD (i + 1) 0 := by
        simp [List.getD, wordsL, c]
      rw [this, wordsL_get (by omega)]; omega
    · have : (wordsL 0 (ws.length : Int)).getD (i + 1) ws.length = ws.length := by
        simp [List.getD, wordsL, c]
      rw [this]; omega
  rw [wordsL_get (by omega), e1, show ((0 : Int) + (i : Int)).toNat = i by omega, show ((i : Int) + 1).toNat = i + 1 by omega, shS_one h2] at e
  have g1 : (shW ws (wordsL 0 ws.length) ws.length).getD i (0, 0, false) = (shW ws (wordsL 0 ws.length) ws.length)[i] := by simp [List.getD, h1]
  have g2 : ws.getD i (0, 0, false) = ws[i] := by simp [List.getD, h2]
  rw [g1, g2] at e
  exact e
theorem trV_all {m : Nat} {x : Tn} (hx : (0 ≤ x.1 ∧ x.1 < m) ∧ (0 ≤ x.2.1 ∧ x.2.1 < m) ∧ (0 ≤ x.2.2 ∧ x.2.2 < m) ∧ x.2.1 ≤ x.2.2 ∧ ¬ (x.2.1 ≤ x.1 ∧ x.1 ≤ x.2.2)) : trV (wordsL 0 m) x = some x := by
  unfold trV
  rw [posI_words (by omega), posI_words (by omega), posI_words (by omega), if_pos]
  · rw [show ((x.1.toNat : Nat) : Int) = x.1 by omega, show ((x.2.1.toNat : Nat) : Int) = x.2.1 by omega, show ((x.2.2.toNat : Nat) : Int) = x.2.2 by omega]
  · rw [Bool.and_eq_true, List.all_eq_true]
    refine ⟨by rw [contains_words, decide_eq_true_eq]; omega, fun w hw => ?_⟩
    rw [mem_wordsL] at hw
    rw [contains_words, decide_eq_true_eq]; omega
theorem keepP_all {m : Nat} {x : Tn} (hx : 0 ≤ x.1 ∧ x.1 < m) : keepP (wordsL 0 m) x = true := by
  unfold keepP sayP
  rw [contains_words, decide_eq_true (by omega)]; simp
theorem filterMap_id {f : Tn → Option Tn} : ∀ {l : List Tn}, (∀ x ∈ l, f x = some x) → l.filterMap f = l
  | [], _ => rfl
  | a :: l, h => by
    rw [List.filterMap_cons, h a (by simp)]
    simp only
    rw [filterMap_id fun x hx => h x (by simp [hx])]
theorem shR_all {ws : List Wd} {ts : List Tn} {br_ : Int} (hF : TFine ws ts br_) : shR ws ts br_ (wordsL 0 ws.length) = (br_, 0, ws, ts) := by
  have h0 := hF.n0
  unfold shR
  rw [keptE_of (checkT_of hF) (by intro e; have := wordsL_len 0 (ws.length : Int); rw [e] at this; simp at this; omega) (fun w hw => by rw [mem_wordsL] at hw; omega) (wordsL_asc _ _), if_neg (by simp), if_pos, shW_all, filterMap_id fun x hx => trV_all (hF.x x hx)]
  rw [List.all_eq_true]
  intro x hx
  exact keepP_all (hF.x x hx).1
/-! ### Words of words -/
theorem shS_trans (ws : List Wd) {a b : Nat} (h : a ≤ b) : ∀ (d : Nat), b + d ≤ ws.length → (shS ws a b || shS ws b (b + d)) = shS ws a (b + d)
  | 0, _ => by rw [Nat.add_zero, shS_self, Bool.or_false]
  | d + 1, hd => by
    have ih := shS_trans ws h d (by omega)
    rw [show b + (d + 1) = b + d + 1 by omega, shS_succ (by omega) (by omega), shS_succ (a := a) (by omega) (by omega), ← ih, Bool.or_assoc]
def pick (l k : List Int) : List Int := k.map fun i => l.getD i.toNat 0
section
variable {ws : List Wd} {ts : List Tn} {br_ : Int} {l : List Int} (hl : ascB l = true) (hw : inW ws l)
include hl hw
theorem getDm {i j : Nat} (hij : i ≤ j) (hj : j ≤ l.length) : l.getD i ws.length ≤ l.getD j ws.length ∧ (0 ≤ l.getD i ws.length ∧ l.getD j ws.length ≤ ws.length) := by
  have e : ∀ i, i < l.length → l.getD i (ws.length : Int) = l.getD i 0 := fun i h => by simp [List.getD, h]
  have e2 : ∀ i, ¬ i < l.length → l.getD i (ws.length : Int) = ws.length := fun i h => by simp [List.getD, h]
  by_cases c : j < l.length
  · have m1 := hw _ (getD_mem (d := 0) c)
    have m2 := hw _ (getD_mem (l := l) (i := i) (d := 0) (by omega))
    rw [e j c, e i (by omega)]
    rcases Nat.lt_or_ge i j with d | d
    · have := asc_lt hl d c; omega
    · obtain rfl : i = j := by omega
      omega
  · rw [e2 j c]
    by_cases d : i < l.length
    · have := hw _ (getD_mem (d := 0) d)
      rw [e i d]; omega
    · rw [e2 i d]; omega
theorem shS_shW {a : Nat} : ∀ (d : Nat), a + d ≤ l.length → shS (shW ws l ws.length) a (a + d) = shS ws (l.getD a ws.length).toNat (l.getD (a + d) ws.length).toNat
  | 0, _ => by rw [Nat.add_zero, shS_self, shS_self]
  | d + 1, hd => by
    have ih := shS_shW (a := a) d (by omega)
    have h1 := getDm hl hw (i := a) (j := a + d) (by omega) (by omega)
    have h2 := getDm hl hw (i := a + d) (j := a + d + 1) (by omega) (by omega)
    have hc : a + d < l.length := by omega
    have e : l.getD (a + d) (ws.length : Int) = l.getD (a + d) 0 := by simp [List.getD, hc]
    have ht := shS_trans ws (a := (l.getD a (ws.length : Int)).toNat) (b := (l.getD (a + d) (ws.length : Int)).toNat) (by omega) ((l.getD (a + d + 1) (ws.length : Int)).toNat - (l.getD (a + d) (ws.length : Int)).toNat) (by omega)
    rw [show (l.getD (a + d) (ws.length : Int)).toNat + ((l.getD (a + d + 1) (ws.length : Int)).toNat - (l.getD (a + d) (ws.length : Int)).toNat) = (l.getD (a + d + 1) (ws.length : Int)).toNat by omega] at ht
    rw [show a + (d + 1) = a + d + 1 by omega, shS_succ (by omega) (by rw [shW_len]; omega), ih, shW_get _ _ _ _ hc, ← ht]
    simp only
    rw [← e]
theorem shW_pick : ∀ {k : List Int}, ascB k = true → (∀ x ∈ k, 0 ≤ x ∧ x < l.length) → shW (shW ws l ws.length) k l.length = shW ws (pick l k) ws.length
  | [], _, _ => rfl
  | a :: r, hk, hr => by
    obtain ⟨h1, h2⟩ := asc_cons hk
    have ha := hr a (by simp)
    have ih := shW_pick h1 fun x hx => hr x (by simp [hx])
    have hc : a.toNat < l.length := by omega
    have e : l.getD a.toNat (ws.length : Int) = l.getD a.toNat 0 := by simp [List.getD, hc]
    have hnext : ∃ j : Nat, (r.headD l.length).toNat = j ∧ a.toNat ≤ j ∧ j ≤ l.length ∧ l.getD j (ws.length : Int) = (pick l r).headD ws.length := by
      cases r with
      | nil => exact ⟨l.length, by simp, by omega, by omega, by simp [pick, List.getD]⟩
      | cons b r =>
        have hb := hr b (by simp)
        have := h2 b (by simp)
        have hbl : b.toNat < l.length := by omega
        exact ⟨b.toNat, rfl, by omega, by omega, by simp [pick, List.getD, hbl]⟩
    obtain ⟨j, e1, h3, h4, e2⟩ := hnext
    have hs := shS_shW hl hw (a := a.toNat) (j - a.toNat) (by omega)
    rw [show a.toNat + (j - a.toNat) = j by omega] at hs
    unfold pick at ih e2 ⊢
    rw [shW, List.map_cons, shW, ih, shW_get _ _ _ _ hc, e1, hs, e2, e]
omit hw
theorem posI_pick {k : List Int} (hk : ascB k = true) (hr : ∀ x ∈ k, 0 ≤ x ∧ x < l.length) {v : Int} (hv : l.contains v = true) : posI (pick l k) v = posI k (posI l v) := by
  obtain ⟨c1, c2⟩ := (contains_iff hl).1 hv
  have g : ∀ i, i < k.length → (pick l k).getD i 0 = l.getD (k.getD i 0).toNat 0 := fun i hi => by simp [pick, List.getD, hi]
  have hle := posI_le (v := (posI l v : Int)) k
  refine posI_uniq (by simp [pick]; omega) (fun i hi => ?_) (fun hlen => ?_)
  · have hi2 := posI_lt hi
    have := hr _ (getD_mem (d := 0) hi2.1)
    rw [g i hi2.1]
    exact (posI_lt (l := l) (i := (k.getD i 0).toNat) (by omega)).2
  · have hlen' : posI k (posI l v) < k.length := by simpa [pick] using hlen
    have h1 := posI_at hlen'
    have h2 := hr _ (getD_mem (d := 0) hlen')
    rw [g _ hlen']
    rcases Nat.lt_or_ge (posI l v) (k.getD (posI k (posI l v)) 0).toNat with c | c
    · have := asc_lt hl c (by omega); omega
    · rw [show (k.getD (posI k (posI l v)) 0).toNat = posI l v by omega]; omega
theorem contains_pick {k : List Int} (hr : ∀ x ∈ k, 0 ≤ x ∧ x < l.length) (v : Int) : (pick l k).contains v = (l.contains v && k.contains (posI l v : Int)) := by
  rw [Bool.eq_iff_iff, Bool.and_eq_true, List.contains_iff_mem, List.contains_iff_mem, List.contains_iff_mem]
  unfold pick
  rw [List.mem_map]
  constructor
  · rintro ⟨a, ha, rfl⟩
    have := hr a ha
    refine ⟨getD_mem (by omega), ?_⟩
    rw [posI_of hl (by omega), show ((a.toNat : Nat) : Int) = a by omega]
    exact ha
  · rintro ⟨h1, h2⟩
    obtain ⟨c1, c2⟩ := (contains_iff hl).1 (by rw [List.contains_iff_mem]; exact h1)
    exact ⟨_, h2, by rw [Int.toNat_natCast]; exact c2⟩
theorem trV_pick {k : List Int} (hk : ascB k = true) (hr : ∀ x ∈ k, 0 ≤ x ∧ x < l.length) (hp : ascB (pick l k) = true) {x : Tn} (hx : x.2.1 ≤ x.2.2) : ((trV l x).bind fun z => trV k z) = trV (pick l k) x := by
  have c1 := contains_pick hl hr x.1
  have c2 := contains_pick hl hr x.2.1
  have c3 := contains_pick hl hr x.2.2
  unfold trV
  rw [stretch hl hx, stretch hp hx, c1, c2, c3]
  cases h1 : l.contains x.1
  · simp
  cases h2 : l.contains x.2.1
  · simp
  cases h3 : l.contains x.2.2
  · simp
  have p1 := posI_pick hl hk hr h1
  have p2 := posI_pick hl hk hr h2
  have p3 := posI_pick hl hk hr h3
  simp only [Bool.true_and]
  by_cases d : (posI l x.2.2 : Int) - posI l x.2.1 = x.2.2 - x.2.1
  · rw [decide_eq_true d, if_pos rfl]
    simp only [Option.bind_some]
    rw [stretch hk (by omega), p1, p2, p3, d]
  · rw [decide_eq_false d, if_neg (by simp)]
    simp only [Option.bind_none]
    rw [if_neg]
    intro h
    simp only [Bool.and_eq_true, decide_eq_true_eq] at h
    obtain ⟨_, h4, h5, h6⟩ := h
    -- what is kept of what is kept lies as far apart in the first one, too
    obtain ⟨a1, a2⟩ := (contains_iff hl).1 h2
    obtain ⟨b1, b2⟩ := (contains_iff hl).1 h3
    rw [p2, p3] at h6
    obtain ⟨e1, e2⟩ := (contains_iff hk).1 h4
    obtain ⟨f1, f2⟩ := (contains_iff hk).1 h5
    have q : (posI k (posI l x.2.2) : Int) - posI k (posI l x.2.1) ≤ (posI l x.2.2 : Int) - posI l x.2.1 := by
      have := asc_get hk (posI k (posI l x.2.1)) (posI k (posI l x.2.2) - posI k (posI l x.2.1)) (by omega)
      rw [show posI k (posI l x.2.1) + (posI k (posI l x.2.2) - posI k (posI l x.2.1)) = posI k (posI l x.2.2) by omega] at this
      omega
    have r : (posI l x.2.2 : Int) - posI l x.2.1 ≤ x.2.2 - x.2.1 := by
      have := asc_get hl (posI l x.2.1) (posI l x.2.2 - posI l x.2.1) (by omega)
      rw [show posI l x.2.1 + (posI l x.2.2 - posI l x.2.1) = posI l x.2.2 by omega] at this
      omega
    omega
omit hl
theorem coreB_iff {l : List Int} {x : Tn} : coreB l x = (wordsL x.2.1 (x.2.2 + 1)).all fun w => l.contains w := rfl
include hl
/-- What some of the kept words say of a turn. -/
theorem say_kept {k : List Int} (hk : ascB k = true) (hr : ∀ x ∈ k, 0 ≤ x ∧ x < l.length) (hp : ascB (pick l k) = true) {x : Tn} (hx : x.2.1 ≤ x.2.2) (hkeep : keepP l x = true) :
    match trV l x with
    | none => sayP (pick l k) x = false
    | some z => sayP k z = sayP (pick l k) x := by
  have c1 := contains_pick hl hr x.1
  have c2 := contains_pick hl hr x.2.1
  have c3 := contains_pick hl hr x.2.2
  have hcore : coreB (pick l k) x = true → coreB l x = true := by
    rw [coreB_iff, coreB_iff, List.all_eq_true, List.all_eq_true]
    intro h w hw
    have := h w hw
    rw [contains_pick hl hr, Bool.and_eq_true] at this
    exact this.1
  unfold keepP sayP at hkeep
  unfold trV
  rw [← coreB_iff]
  cases hc : coreB l x
  · rw [Bool.and_false, if_neg (by simp)]
    unfold sayP
    cases hc2 : coreB (pick l k) x
    · rfl
    · rw [hcore hc2] at hc; cases hc
  · rw [hc, Bool.true_and, Bool.not_not] at hkeep
    rw [hkeep, Bool.and_true, if_pos rfl]
    have hs := stretch hl hx
    rw [← coreB_iff, hc] at hs
    have hs' := hs.symm
    simp only [Bool.and_eq_true, decide_eq_true_eq] at hs'
    obtain ⟨h2, h3, h4⟩ := hs'
    have p2 := posI_pick hl hk hr h2
    have p3 := posI_pick hl hk hr h3
    show sayP k (_, _, _) = _
    unfold sayP
    rw [coreB_iff, coreB_iff, stretch hk (by simp only; omega), stretch hp hx, c1, c2, c3, hkeep, h2, h3, p2, p3, h4]
    simp only [Bool.true_and]
omit hl
theorem all_filterMap {f : Tn → Option Tn} {p q : Tn → Bool} : ∀ {l : List Tn}, (∀ x ∈ l, match f x with
    | none => q x = true
    | some z => p z = q x) → (l.filterMap f).all p = l.all q
  | [], _ => rfl
  | a :: l, h => by
    have ha := h a (by simp)
    have ih := all_filterMap (l := l) fun x hx => h x (by simp [hx])
    rw [List.filterMap_cons, List.all_cons, ← ih]
    cases hf : f a with
    | none => rw [hf] at ha; simp only at ha ⊢; rw [ha, Bool.true_and]
    | some z => rw [hf] at ha; simp only at ha ⊢; rw [List.all_cons, ha]
theorem count_filterMap {f : Tn → Option Tn} {p q : Tn → Bool} : ∀ {l : List Tn}, (∀ x ∈ l, match f x with
    | none => q x = false
    | some z => p z = q x) → (l.filterMap f).countP p = l.countP q
  | [], _ => rfl
  | a :: l, h => by
    have ha := h a (by simp)
    have ih := count_filterMap (l := l) fun x hx => h x (by simp [hx])
    rw [List.filterMap_cons, List.countP_cons, ← ih]
    cases hf : f a with
    | none => rw [hf] at ha; simp only at ha ⊢; rw [ha]; simp
    | some z => rw [hf] at ha; simp only at ha ⊢; rw [List.countP_cons, ha]
theorem filterMap_comp {f g h : Tn → Option Tn} : ∀ {l : List Tn}, (∀ x ∈ l, (f x).bind g = h x) → (l.filterMap f).filterMap g = l.filterMap h
  | [], _ => rfl
  | a :: l, e => by
    have ha := e a (by simp)
    have ih := filterMap_comp (l := l) fun x hx => e x (by simp [hx])
    rw [List.filterMap_cons, List.filterMap_cons, ← ha, ← ih]
    cases hf : f a with
    | none => rfl
    | some z =>
      simp only [Option.bind_some]
      rw [List.filterMap_cons]
theorem pick_asc (hl : ascB l = true) {k : List Int} (hk : ascB k = true) (hr : ∀ x ∈ k, 0 ≤ x ∧ x < l.length) : ascB (pick l k) = true := ascB_of fun i hi => by
  have hi' : i + 1 < k.length := by simpa [pick] using hi
  have g : ∀ i, i < k.length → (pick l k).getD i 0 = l.getD (k.getD i 0).toNat 0 := fun i hi => by simp [pick, List.getD, hi]
  have h1 := hr _ (getD_mem (l := k) (i := i) (d := 0) (by omega))
  have h2 := hr _ (getD_mem (l := k) (i := i + 1) (d := 0) (by omega))
  have h3 := asc_step hk i hi'
  rw [g i (by omega), g (i + 1) (by omega)]
  have := asc_lt hl (i := (k.getD i 0).toNat) (j := (k.getD (i + 1) 0).toNat) (by omega) (by omega)
  omega
theorem pick_in {k : List Int} (hw : inW ws l) (hr : ∀ x ∈ k, 0 ≤ x ∧ x < l.length) : inW ws (pick l k) := fun w hm => by
  unfold pick at hm
  obtain ⟨a, ha, rfl⟩ := List.mem_map.1 hm
  have := hr a ha
  exact hw _ (getD_mem (by omega))
/-- The shorter text is a text. -/
theorem shW_fine (hF : TFine ws ts br_) (hl : ascB l = true) (hw : inW ws l) (h0 : l ≠ []) : TFine (shW ws l ws.length) (ts.filterMap (trV l)) br_ := by
  have hc := okC_len (okC_of (m := ws.length) (lo := 0) hl hw) h0
  have hp := List.length_pos_iff.2 h0
  refine ⟨by rw [shW_len]; omega, by rw [shW_len]; have := hF.n; omega, by have := filterMap_len (f := trV l) ts; have := hF.t; omega, hF.b0, hF.b1, fun w hm => ?_, fun x hm => ?_⟩
  · obtain ⟨i, hi, rfl⟩ := List.getElem_of_mem hm
    have hi' : i < l.length := by rw [shW_len] at hi; exact hi
    have e := shW_get ws ws.length l i hi'
    have g1 : (shW ws l ws.length).getD i (0, 0, false) = (shW ws l ws.length)[i] := by simp [List.getD, hi]
    rw [← g1, e]
    have := hw _ (getD_mem (d := 0) hi')
    exact hF.w (ws.getD (l.getD i 0).toNat (0, 0, false)) (getD_mem (show (l.getD i 0).toNat < ws.length by omega))
  · rw [List.mem_filterMap] at hm
    obtain ⟨y, hy, e⟩ := hm
    have hx := hF.x y hy
    unfold trV at e
    split at e
    rotate_left
    · cases e
    rename_i c
    cases e
    rw [Bool.and_eq_true, stretch hl (by omega)] at c
    simp only [Bool.and_eq_true, decide_eq_true_eq] at c
    obtain ⟨c1, c2, c3, c4⟩ := c
    obtain ⟨a1, a2⟩ := (contains_iff hl).1 c1
    obtain ⟨b1, b2⟩ := (contains_iff hl).1 c2
    obtain ⟨d1, d2⟩ := (contains_iff hl).1 c3
    rw [shW_len]
    simp only
    refine ⟨by omega, by omega, by omega, by omega, fun ⟨h1, h2⟩ => ?_⟩
    have q1 : y.2.1 ≤ y.1 := by
      rcases Nat.lt_or_ge (posI l y.2.1) (posI l y.1) with c | c
      · have := asc_lt hl c a1; omega
      · have e : posI l y.2.1 = posI l y.1 := by omega
        rw [e] at b2; omega
    have q2 : y.1 ≤ y.2.2 := by
      rcases Nat.lt_or_ge (posI l y.1) (posI l y.2.2) with c | c
      · have := asc_lt hl c d1; omega
      · have e : posI l y.2.2 = posI l y.1 := by omega
        rw [e] at d2; omega
    omega
/-- To shorten twice. -/
theorem shR_twice (hF : TFine ws ts br_) (hl : ascB l = true) (hw : inW ws l) (h0 : l ≠ []) (hkeep : ts.all (keepP l) = true) {k : List Int} (hk : ascB k = true) (hr : ∀ x ∈ k, 0 ≤ x ∧ x < l.length) :
    shR (shW ws l ws.length) (ts.filterMap (trV l)) br_ k = shR ws ts br_ (pick l k) := by
  have hF2 := shW_fine hF hl hw h0
  have hp := pick_asc hl hk hr
  by_cases c : k = []
  · subst c
    show shR _ _ _ [] = shR _ _ _ []
    unfold shR keptE
    rw [checkT_of hF, checkT_of hF2]
    simp
  have e1 := keptE_of (checkT_of hF2) c (fun w hm => by rw [shW_len]; exact hr w hm) hk
  have e2 := keptE_of (checkT_of hF) (l := pick l k) (by intro e; exact c (List.map_eq_nil_iff.1 e)) (pick_in hw hr) hp
  have e3 : (ts.filterMap (trV l)).all (keepP k) = ts.all (keepP (pick l k)) := all_filterMap fun x hx => by
    have := say_kept hl hk hr hp (hF.x x hx).2.2.2.1 (List.all_eq_true.1 hkeep x hx)
    cases ht : trV l x with
    | none => rw [ht] at this; simp only at this ⊢; unfold keepP; rw [this]; rfl
    | some z => rw [ht] at this; simp only at this ⊢; unfold keepP; rw [this]
  have e4 : (ts.filterMap (trV l)).filterMap (trV k) = ts.filterMap (trV (pick l k)) := filterMap_comp fun x hx => trV_pick hl hk hr hp (hF.x x hx).2.2.2.1
  have e5 := shW_pick hl hw hk hr
  unfold shR
  rw [e1, e2, e3, e4, shW_len, e5]
theorem priceN_cons (a : Wd) (l : List Wd) : priceN (a :: l) = (if 3 < a.1 then 2 else 1) + priceN l := by
  unfold priceN
  rw [List.map_cons, List.sum_cons]
theorem priceN_drop (ws : List Wd) {a : Nat} : ∀ (d : Nat), priceN (ws.drop (a + d)) ≤ priceN (ws.drop a)
  | 0 => by simp
  | d + 1 => by
    have ih := priceN_drop ws (a := a) d
    by_cases c : a + d < ws.length
    · rw [drop_cons c (0, 0, false), priceN_cons] at ih
      rw [show a + (d + 1) = a + d + 1 by omega]
      split at ih <;> omega
    · rw [List.drop_of_length_le (by omega)] at ih ⊢; exact ih
theorem priceN_kept (e : Int) : ∀ {l : List Int} {lo : Int}, okC ws.length lo l → 0 ≤ lo → priceN (shW ws l e) ≤ priceN (ws.drop lo.toNat)
  | [], lo, _, _ => by
    have := priceN_bound (ws.drop lo.toNat)
    show priceN [] ≤ _
    have h0 : priceN [] = 0 := rfl
    omega
  | a :: r, lo, ⟨⟨h1, h2⟩, h3⟩, h0 => by
    have ih := priceN_kept e h3 (by omega)
    have hd := priceN_drop ws (a := lo.toNat) (a.toNat - lo.toNat)
    rw [show lo.toNat + (a.toNat - lo.toNat) = a.toNat by omega, drop_cons (show a.toNat < ws.length by omega) (0, 0, false), priceN_cons] at hd
    rw [show (a + 1).toNat = a.toNat + 1 by omega] at ih
    rw [shW, priceN_cons]
    simp only
    omega
/-- What a part of the kept words says. -/
theorem said_part (hF : TFine ws ts br_) (hl : ascB l = true) (hw : inW ws l) (hkeep : ts.all (keepP l) = true) {lo hi : Nat} (h1 : lo ≤ hi) (h2 : hi < l.length) :
    ((turnL (ts.filterMap (trV l)) lo ((hi : Int) + 1)).length : Int) = ts.countP (sayP ((l.take (hi + 1)).drop lo)) := by
  have hr : ∀ x ∈ wordsL (lo : Int) ((hi : Int) + 1), 0 ≤ x ∧ x < l.length := fun x hx => by rw [mem_wordsL] at hx; omega
  have hk := wordsL_asc (lo : Int) ((hi : Int) + 1)
  have hp := pick_asc hl hk hr
  have ep : pick l (wordsL (lo : Int) ((hi : Int) + 1)) = (l.take (hi + 1)).drop lo := by
    refine List.ext_getElem (by simp [pick, wordsL_len]; omega) fun i a b => ?_
    have hi' : i < ((hi : Int) + 1 - lo).toNat := by simpa [pick, wordsL_len] using a
    have hlt : lo + i < l.length := by omega
    simp only [pick, wordsL, List.map_map, List.getElem_map, List.getElem_range, Function.comp, List.getElem_drop, List.getElem_take]
    rw [show ((lo : Int) + (i : Int)).toNat = lo + i by omega]
    simp [List.getD, hlt]
  rw [← ep, ← count_filterMap (f := trV l) (p := sayP (wordsL (lo : Int) ((hi : Int) + 1))) (fun x hx => say_kept hl hk hr hp (hF.x x hx).2.2.2.1 (List.all_eq_true.1 hkeep x hx))]
  have hts : ∀ z ∈ ts.filterMap (trV l), sayP (wordsL (lo : Int) ((hi : Int) + 1)) z = turnP lo ((hi : Int) + 1) z := by
    intro z hz
    refine sayP_words ?_
    by_cases h0 : l = []
    · subst h0; simp at h2
    · exact ((shW_fine hF hl hw h0).x z hz).2.2.2.1
  have hc : (ts.filterMap (trV l)).countP (sayP (wordsL (lo : Int) ((hi : Int) + 1))) = (ts.filterMap (trV l)).countP (turnP lo ((hi : Int) + 1)) := by
    rw [List.countP_eq_length_filter, List.countP_eq_length_filter, List.filter_congr hts]
  rw [hc]
  generalize ts.filterMap (trV l) = L
  unfold turnL
  have key : ∀ k, k ≤ L.length → (turnK L lo ((hi : Int) + 1) k).length = (L.take k).countP (turnP lo ((hi : Int) + 1)) := by
    intro k
    induction k with
    | zero => intro _; rfl
    | succ k ih =>
      intro hk
      rw [turnK_succ, take_succ' (by omega) (0, 0, 0), List.countP_append, List.length_append, ih (by omega)]
      congr 1
      generalize L.getD k (0, 0, 0) = y
      cases hq : turnP lo ((hi : Int) + 1) y <;> simp [hq]
  have := key L.length (Nat.le_refl _)
  rw [List.take_length] at this
  omega
end
end Go.Proofs.Ytfamlpbdhhikdaa

namespace Go.Proofs.Ytfamlpbdhhikdaa
set_option linter.all false
open Go

def tshortened_j1 (N : Nat) (rec : Int → Int → Int → (List (Int × (Int × Bool))) → (List (Int × (Int × Int))) → Int → (List Int) → Int → Int → (List Int) → (List Int) → Option (Int × (List (Int × (Int × Bool))) × (List (Int × (Int × Int))) × Int × List Int × Int × Int × List Int × List Int)) (pence : Int) (u : Int) (u2 : Int) (t : List (Int × (Int × Bool))) (t2 : List (Int × (Int × Int))) (t3 : Int) (q : List Int) (q2 : Int) (q3 : Int) (all : List Int) (l : List Int) : Option (Int × (List (Int × (Int × Bool))) × (List (Int × (Int × Int))) × Int × List Int × Int × Int × List Int × List Int) :=
  chk (u2 + 1) <|
  rec pence u (u2 + 1) t t2 t3 q q2 q3 all l
def tshortened_l1 (N : Nat) : Nat → Int → Int → Int → (List (Int × (Int × Bool))) → (List (Int × (Int × Int))) → Int → (List Int) → Int → Int → (List Int) → (List Int) → Option (Int × (List (Int × (Int × Bool))) × (List (Int × (Int × Int))) × Int × List Int × Int × Int × List Int × List Int)
  | 0, _, _, _, _, _, _, _, _, _, _, _ => none
  | n_ + 1, pence, u, u2, t, t2, t3, q, q2, q3, all, l =>
    br (decide (u2 < u))
      (lim (all.length + [u2].length) <|
      (seldom_S N 4 q q2 q3).bind fun (x_13, y_14, y_15, y_16) =>
      br (!x_13)
        (lim (l.length + [u2].length) <|
        tshortened_j1 N (tshortened_l1 N n_) pence u u2 t t2 t3 y_14 y_15 y_16 (all ++ [u2]) (l ++ [u2]))
        (tshortened_j1 N (tshortened_l1 N n_) pence u u2 t t2 t3 y_14 y_15 y_16 (all ++ [u2]) l))
      (some ((pence, t, t2, t3, q, q2, q3, all, l)))
def tshortened_l3 (N : Nat) : Nat → (List Int) → Int → Int → Int → (List Int) → Int → Bool → Int → (List (Int × (Int × Int))) → Int → Int → (List (Int × (Int × Bool))) → (List (Int × (Int × Int))) → Int → (List Int) → Int → Int → (List (Int × (Int × Bool))) → (List (Int × (Int × Int))) → Int → Int → Int → Int → Option (List Int × Int × Int × Int × List Int × Int × Bool × (List (Int × (Int × Int))) × Int × Int × (List (Int × (Int × Bool))) × (List (Int × (Int × Int))) × Int × List Int × Int × Int × (List (Int × (Int × Bool))) × (List (Int × (Int × Int))) × Int × Int × Int × Int)
  | 0, _, _, _, _, _, _, _, _, _, _, _, _, _, _, _, _, _, _, _, _, _, _, _ => none
  | n_ + 1, l, e, lo, hi, said, n, core, w, u, u2, u3, t, t2, t3, q, q2, q3, x, x2, x3, y, y2, y3 =>
    br (decide (w ≤ y3))
      (br core
        (chk (hi + 1) <|
        grd (decide ((0 : Int) ≤ lo ∧ (lo : Int) ≤ (hi + 1) ∧ (hi + 1) ≤ (l.length : Int))) <|
        (containsi_S N ((l.take ((hi + 1).toNat)).drop lo.toNat) w).bind fun x_55 =>
        chk (w + 1) <|
        tshortened_l3 N n_ l e lo hi said n x_55 (w + 1) u u2 u3 t t2 t3 q q2 q3 x x2 x3 y y2 y3)
        (chk (w + 1) <|
        tshortened_l3 N n_ l e lo hi said n false (w + 1) u u2 u3 t t2 t3 q q2 q3 x x2 x3 y y2 y3))
      (some ((l, e, lo, hi, said, n, core, u, u2, u3, t, t2, t3, q, q2, q3, x, x2, x3, y, y2, y3)))
def tshortened_j2 (N : Nat) (rec : (List Int) → Int → Int → Int → (List Int) → Int → (List (Int × (Int × Int))) → Int → Int → (List (Int × (Int × Bool))) → (List (Int × (Int × Int))) → Int → (List Int) → Int → Int → (List (Int × (Int × Bool))) → (List (Int × (Int × Int))) → Int → Option (List Int × Int × List Int × Int × (List (Int × (Int × Bool))) × (List (Int × (Int × Int))) × Int × List Int × Int × Int × (List (Int × (Int × Bool))) × (List (Int × (Int × Int))) × Int)) (l : List Int) (e : Int) (lo : Int) (hi : Int) (said : List Int) (n : Int) (u : List (Int × (Int × Int))) (u2 : Int) (u3 : Int) (t : List (Int × (Int × Bool))) (t2 : List (Int × (Int × Int))) (t3 : Int) (q : List Int) (q2 : Int) (q3 : Int) (x : List (Int × (Int × Bool))) (x2 : List (Int × (Int × Int))) (x3 : Int) : Option (List Int × Int × List Int × Int × (List (Int × (Int × Bool))) × (List (Int × (Int × Int))) × Int × List Int × Int × Int × (List (Int × (Int × Bool))) × (List (Int × (Int × Int))) × Int) :=
  chk (u3 + 1) <|
  rec l e lo hi said n u u2 (u3 + 1) t t2 t3 q q2 q3 x x2 x3
def tshortened_l2 (N : Nat) : Nat → (List Int) → Int → Int → Int → (List Int) → Int → (List (Int × (Int × Int))) → Int → Int → (List (Int × (Int × Bool))) → (List (Int × (Int × Int))) → Int → (List Int) → Int → Int → (List (Int × (Int × Bool))) → (List (Int × (Int × Int))) → Int → Option (List Int × Int × List Int × Int × (List (Int × (Int × Bool))) × (List (Int × (Int × Int))) × Int × List Int × Int × Int × (List (Int × (Int × Bool))) × (List (Int × (Int × Int))) × Int)
  | 0, _, _, _, _, _, _, _, _, _, _, _, _, _, _, _, _, _, _ => none
  | n_ + 1, l, e, lo, hi, said, n, u, u2, u3, t, t2, t3, q, q2, q3, x, x2, x3 =>
    br (decide (u3 < u2))
      (idx u u3 fun x_54 =>
      (tshortened_l3 N N l e lo hi said n true x_54.2.1 u u2 u3 t t2 t3 q q2 q3 x x2 x3 x_54.1 x_54.2.1 x_54.2.2).bind fun (l_56, e_57, lo_58, hi_59, said_60, n_61, core_62, u_63, u2_64, u3_65, t_66, t2_67, t3_68, q_69, q2_70, q3_71, x_72, x2_73, x3_74, y_75, y2_76, y3_77) =>
      br core_62
        (chk (hi_59 + 1) <|
        grd (decide ((0 : Int) ≤ lo_58 ∧ (lo_58 : Int) ≤ (hi_59 + 1) ∧ (hi_59 + 1) ≤ (l_56.length : Int))) <|
        (containsi_S N ((l_56.take ((hi_59 + 1).toNat)).drop lo_58.toNat) y_75).bind fun x_78 =>
        br (!x_78)
          (chk (n_61 + 1) <|
          tshortened_j2 N (tshortened_l2 N n_) l_56 e_57 lo_58 hi_59 said_60 (n_61 + 1) u_63 u2_64 u3_65 t_66 t2_67 t3_68 q_69 q2_70 q3_71 x_72 x2_73 x3_74)
          (tshortened_j2 N (tshortened_l2 N n_) l_56 e_57 lo_58 hi_59 said_60 n_61 u_63 u2_64 u3_65 t_66 t2_67 t3_68 q_69 q2_70 q3_71 x_72 x2_73 x3_74))
        (tshortened_j2 N (tshortened_l2 N n_) l_56 e_57 lo_58 hi_59 said_60 n_61 u_63 u2_64 u3_65 t_66 t2_67 t3_68 q_69 q2_70 q3_71 x_72 x2_73 x3_74))
      (some ((l, e, said, n, t, t2, t3, q, q2, q3, x, x2, x3)))
def tshortened_j3 (N : Nat) (rec : (List Int) → Int → Int → (List (Int × (Int × Bool))) → (List (Int × (Int × Int))) → Int → (List Int) → Int → Int → (List (Int × (Int × Bool))) → (List (Int × (Int × Int))) → Int → (List Int) → (List Int) → Option ((List (Int × (Int × Bool))) × (List (Int × (Int × Int))) × Int × (List (Int × (Int × Bool))) × (List (Int × (Int × Int))) × Int × List Int × List Int)) (u : List Int) (u2 : Int) (u3 : Int) (t : List (Int × (Int × Bool))) (t2 : List (Int × (Int × Int))) (t3 : Int) (q : List Int) (q2 : Int) (q3 : Int) (x : List (Int × (Int × Bool))) (x2 : List (Int × (Int × Int))) (x3 : Int) (k : List Int) (once : List Int) : Option ((List (Int × (Int × Bool))) × (List (Int × (Int × Int))) × Int × (List (Int × (Int × Bool))) × (List (Int × (Int × Int))) × Int × List Int × List Int) :=
  chk (u3 + 1) <|
  rec u u2 (u3 + 1) t t2 t3 q q2 q3 x x2 x3 k once
def tshortened_l4 (N : Nat) : Nat → (List Int) → Int → Int → (List (Int × (Int × Bool))) → (List (Int × (Int × Int))) → Int → (List Int) → Int → Int → (List (Int × (Int × Bool))) → (List (Int × (Int × Int))) → Int → (List Int) → (List Int) → Option ((List (Int × (Int × Bool))) × (List (Int × (Int × Int))) × Int × (List (Int × (Int × Bool))) × (List (Int × (Int × Int))) × Int × List Int × List Int)
  | 0, _, _, _, _, _, _, _, _, _, _, _, _, _, _ => none
  | n_ + 1, u, u2, u3, t, t2, t3, q, q2, q3, x, x2, x3, k, once =>
    br (decide (u3 < u2))
      (idx u u3 fun x_92 =>
      (seldom_S N 2 q q2 q3).bind fun (x_93, y_94, y_95, y_96) =>
      br x_93
        (lim (k.length + [u3].length) <|
        lim (once.length + [x_92].length) <|
        tshortened_j3 N (tshortened_l4 N n_) u u2 u3 t t2 t3 y_94 y_95 y_96 x x2 x3 (k ++ [u3]) (once ++ [x_92]))
        (tshortened_j3 N (tshortened_l4 N n_) u u2 u3 t t2 t3 y_94 y_95 y_96 x x2 x3 k once))
      (some ((t, t2, t3, x, x2, x3, k, once)))
def tshortened_S (N : Nat) (numbers : List Int) (tries : List Int) (pence : Int) : Option Bool :=
  (hang_S N numbers).bind fun (x_1, y_2, y_3) =>
  (made_S N 9 3 x_1 y_2 y_3).bind fun (x_4, y_5, y_6, y_7, y_8, y_9) =>
  (hang_S N tries).bind fun (x_10, y_11, y_12) =>
  (tshortened_l1 N N pence (x_4.length : Int) 0 x_4 y_5 y_6 x_10 y_11 y_12 [] []).bind fun (pence_17, t_18, t2_19, t3_20, q_21, q2_22, q3_23, all_24, l_25) =>
  (shorter_S N t_18 t2_19 t3_20 all_24).bind fun (x_26, y_27, y_28, y_29) =>
  br (!decide (y_27 = 0))
    (some false)
    ((same_S N y_28 y_29 x_26 t_18 t2_19 t3_20).bind fun x_30 =>
    br (!x_30)
      (some false)
      ((shorter_S N t_18 t2_19 t3_20 l_25).bind fun (x_31, y_32, y_33, y_34) =>
      br (decide ((l_25.length : Int) = 0))
        (br (decide (y_32 = 2))
          ((awake_S N).bind fun x_35 =>
          some x_35)
          (some false))
        ((lkeeps_S N t_18 t2_19 t3_20 l_25).bind fun (x_36, y_37, y_38) =>
        br (!decide (y_38 = 0))
          (some false)
          (br (!(x_36 == (decide (y_32 = 0))))
            (some false)
            (br (!x_36)
              (br (!decide (y_32 = 8))
                (some false)
                (br (!decide (y_32 = 0))
                  ((awake_S N).bind fun x_39 =>
                  some x_39)
                  (chk (1 + (Int.tmod (IntKind.i64.wrap pence_17) 100)) <|
                  (price_S N t_18 t2_19 t3_20 (1 + (Int.tmod (IntKind.i64.wrap pence_17) 100))).bind fun (x_40, y_41) =>
                  (price_S N y_33 y_34 x_31 (1 + (Int.tmod (IntKind.i64.wrap pence_17) 100))).bind fun (x_42, y_43) =>
                  br (!decide (y_41 = 0))
                    (some false)
                    (br (!decide (y_43 = 0))
                      (some false)
                      (br (decide (x_40 < x_42))
                        (some false)
                        (chk ((1 + (Int.tmod (IntKind.i64.wrap pence_17) 100)) * (l_25.length : Int)) <|
                        br (decide (x_42 < ((1 + (Int.tmod (IntKind.i64.wrap pence_17) 100)) * (l_25.length : Int))))
                          (some false)
                          (br (!decide ((y_33.length : Int) = (l_25.length : Int)))
                            (some false)
                            (br (decide ((t2_19.length : Int) < (y_34.length : Int)))
                              (some false)
                              (chk ((l_25.length : Int) - 1) <|
                              (stroke_S N ((l_25.length : Int) - 1) q_21 q2_22 q3_23).bind fun (x_44, y_45, y_46, y_47) =>
                              chk ((l_25.length : Int) - 1) <|
                              (strike_S N x_44 ((l_25.length : Int) - 1) y_45 y_46 y_47).bind fun (x_48, y_49, y_50, y_51) =>
                              (says__S N y_33 y_34 x_31 x_44 x_48).bind fun (x_52, y_53) =>
                              (tshortened_l2 N N l_25 y_53 x_44 x_48 x_52 0 t2_19 (t2_19.length : Int) 0 t_18 t2_19 t3_20 y_49 y_50 y_51 y_33 y_34 x_31).bind fun (l_79, e_80, said_81, n_82, t_83, t2_84, t3_85, q_86, q2_87, q3_88, x_89, x2_90, x3_91) =>
                              br (!decide (e_80 = 0))
                                (some false)
                                (br (!decide ((said_81.length : Int) = n_82))
                                  (some false)
                                  ((tshortened_l4 N N l_79 (l_79.length : Int) 0 t_83 t2_84 t3_85 q_86 q2_87 q3_88 x_89 x2_90 x3_91 [] []).bind fun (t_97, t2_98, t3_99, x_100, x2_101, x3_102, k_103, once_104) =>
                                  (shorter_S N x_100 x2_101 x3_102 k_103).bind fun (x_105, y_106, y_107, y_108) =>
                                  (shorter_S N t_97 t2_98 t3_99 once_104).bind fun (x_109, y_110, y_111, y_112) =>
                                  br (decide (y_106 = y_110))
                                    ((same_S N y_107 y_108 x_105 y_111 y_112 x_109).bind fun x_113 =>
                                    br x_113
                                      ((awake_S N).bind fun x_114 =>
                                      some x_114)
                                      (some false))
                                    (some false))))))))))))
              (br (!decide (y_32 = 0))
                ((awake_S N).bind fun x_115 =>
                some x_115)
                (chk (1 + (Int.tmod (IntKind.i64.wrap pence_17) 100)) <|
                (price_S N t_18 t2_19 t3_20 (1 + (Int.tmod (IntKind.i64.wrap pence_17) 100))).bind fun (x_116, y_117) =>
                (price_S N y_33 y_34 x_31 (1 + (Int.tmod (IntKind.i64.wrap pence_17) 100))).bind fun (x_118, y_119) =>
                br (!decide (y_117 = 0))
                  (some false)
                  (br (!decide (y_119 = 0))
                    (some false)
                    (br (decide (x_116 < x_118))
                      (some false)
                      (chk ((1 + (Int.tmod (IntKind.i64.wrap pence_17) 100)) * (l_25.length : Int)) <|
                      br (decide (x_118 < ((1 + (Int.tmod (IntKind.i64.wrap pence_17) 100)) * (l_25.length : Int))))
                        (some false)
                        (br (!decide ((y_33.length : Int) = (l_25.length : Int)))
                          (some false)
                          (br (decide ((t2_19.length : Int) < (y_34.length : Int)))
                            (some false)
                            (chk ((l_25.length : Int) - 1) <|
                            (stroke_S N ((l_25.length : Int) - 1) q_21 q2_22 q3_23).bind fun (x_120, y_121, y_122, y_123) =>
                            chk ((l_25.length : Int) - 1) <|
                            (strike_S N x_120 ((l_25.length : Int) - 1) y_121 y_122 y_123).bind fun (x_124, y_125, y_126, y_127) =>
                            (says__S N y_33 y_34 x_31 x_120 x_124).bind fun (x_128, y_129) =>
                            (tshortened_l2 N N l_25 y_129 x_120 x_124 x_128 0 t2_19 (t2_19.length : Int) 0 t_18 t2_19 t3_20 y_125 y_126 y_127 y_33 y_34 x_31).bind fun (l_130, e_131, said_132, n_133, t_134, t2_135, t3_136, q_137, q2_138, q3_139, x_140, x2_141, x3_142) =>
                            br (!decide (e_131 = 0))
                              (some false)
                              (br (!decide ((said_132.length : Int) = n_133))
                                (some false)
                                ((tshortened_l4 N N l_130 (l_130.length : Int) 0 t_134 t2_135 t3_136 q_137 q2_138 q3_139 x_140 x2_141 x3_142 [] []).bind fun (t_143, t2_144, t3_145, x_146, x2_147, x3_148, k_149, once_150) =>
                                (shorter_S N x_146 x2_147 x3_148 k_149).bind fun (x_151, y_152, y_153, y_154) =>
                                (shorter_S N t_143 t2_144 t3_145 once_150).bind fun (x_155, y_156, y_157, y_158) =>
                                br (decide (y_152 = y_156))
                                  ((same_S N y_153 y_154 x_151 y_157 y_158 x_155).bind fun x_159 =>
                                  br x_159
                                    ((awake_S N).bind fun x_160 =>
                                    some x_160)
                                    (some false))
                                  (some false))))))))))))))))
end Go.Proofs.Ytfamlpbdhhikdaa

namespace Go.Proofs.Ytfamlpbdhhikdaa
set_option linter.all false
open Go

theorem okC_up {m m' : Int} (h : m ≤ m') : ∀ {c : List Int} {lo : Int}, okC m lo c → okC m' lo c
  | [], _, _ => trivial
  | a :: r, lo, ⟨⟨h1, h2⟩, h3⟩ => ⟨⟨h1, by omega⟩, okC_up h h3⟩
theorem okC_snoc {m : Int} : ∀ {c : List Int} {lo : Int}, okC m lo c → lo ≤ m → okC (m + 1) lo (c ++ [m])
  | [], lo, _, h => ⟨⟨h, by omega⟩, trivial⟩
  | a :: r, lo, ⟨⟨h1, h2⟩, h3⟩, h => ⟨⟨h1, by omega⟩, okC_snoc h3 (by omega)⟩
section
variable {N : Nat} {ws : List Wd} {ts : List Tn} {br_ : Int} (hN : 110 ≤ N) {b : List Int}
include hN
theorem tshortened_l1_p {p : Int} (hn : ws.length ≤ 12) : ∀ (n k : Nat) (b2 b3 : Int) (L : List Int), ws.length < n + k → k ≤ ws.length → Bell b b2 → okC k 0 L →
    Ok (tshortened_l1 N n p ws.length k ws ts br_ b b2 b3 (wordsL 0 k) L) fun z => z.1 = p ∧ z.2.1 = ws ∧ z.2.2.1 = ts ∧ z.2.2.2.1 = br_ ∧ BelR b z.2.2.2.2.1 z.2.2.2.2.2.1 ∧ z.2.2.2.2.2.2.2.1 = wordsL 0 ws.length ∧ okC ws.length 0 z.2.2.2.2.2.2.2.2
  | 0, k, b2, b3, L, h, _, _, _ => by omega
  | n + 1, k, b2, b3, L, h, hk, hb, hL => by
    unfold tshortened_l1
    refine Ok.brd (fun c => ?_) (fun c => ?_)
    · have c' : k < ws.length := by omega
      have hlen : L.length ≤ 12 := by
        by_cases e : L = []
        · subst e; simp
        · have := okC_len hL e; omega
      have hj : ∀ b2 b3 L, Bell b b2 → okC ((k + 1 : Nat) : Int) 0 L → Ok (tshortened_j1 N (tshortened_l1 N n) p ws.length k ws ts br_ b b2 b3 (wordsL 0 k ++ [(k : Int)]) L) fun z => z.1 = p ∧ z.2.1 = ws ∧ z.2.2.1 = ts ∧ z.2.2.2.1 = br_ ∧ BelR b z.2.2.2.2.1 z.2.2.2.2.2.1 ∧ z.2.2.2.2.2.2.2.1 = wordsL 0 ws.length ∧ okC ws.length 0 z.2.2.2.2.2.2.2.2 := by
        intro b2 b3 L hb hL
        have ih := tshortened_l1_p (p := p) hn n (k + 1) b2 b3 L (by omega) (by omega) hb hL
        rw [show ((k + 1 : Nat) : Int) = (k : Int) + 1 by omega, wordsL_snoc (by omega)] at ih
        unfold tshortened_j1
        exact Ok.chk (by omega) ih
      refine Ok.lim (by rw [wordsL_len]; simp; omega) (Ok.bind (seldom_ok N hb (by omega)) ?_)
      rintro ⟨z, e1, e2, e3⟩ ⟨hc, hb3⟩
      dsimp only at hc hb3 ⊢
      obtain rfl := hc.symm
      refine Ok.br (fun _ => Ok.lim (by simp; omega) (hj _ _ _ hb3 ?_)) (fun _ => hj _ _ _ hb3 (okC_up (by omega) hL))
      have := okC_snoc hL (by omega)
      rwa [show (k : Int) + 1 = ((k + 1 : Nat) : Int) by omega] at this
    · obtain rfl : k = ws.length := by omega
      exact Ok.some ⟨rfl, rfl, rfl, rfl, ⟨rfl, hb⟩, rfl, hL⟩
omit hN
theorem tshortened_l3_p {l : List Int} (hl : l.length ≤ 100) (hN : 110 ≤ N) {lo hi : Nat} (h1 : lo ≤ hi) (h2 : hi < l.length) {e n' : Int} {said : List Int} {u : List Tn} {u2 u3 : Int} {q : List Int} {q2 q3 : Int} {x : List Wd} {x2 : List Tn} {x3 : Int} {y : Tn} (hy : -1000 ≤ y.2.1 ∧ y.2.2 ≤ 1000) : ∀ (n : Nat) (w : Int) (core : Bool), (y.2.2 + 1 - w).toNat < n → y.2.1 ≤ w →
    tshortened_l3 N n l e lo hi said n' core w u u2 u3 ws ts br_ q q2 q3 x x2 x3 y.1 y.2.1 y.2.2 = some (l, e, (lo : Int), (hi : Int), said, n', (core && (wordsL w (y.2.2 + 1)).all fun w => ((l.take (hi + 1)).drop lo).contains w), u, u2, u3, ws, ts, br_, q, q2, q3, x, x2, x3, y.1, y.2.1, y.2.2)
  | 0, w, _, h, _ => by omega
  | n + 1, w, core, h, h3 => by
    unfold tshortened_l3
    by_cases c : w ≤ y.2.2
    · have ew : wordsL w (y.2.2 + 1) = w :: wordsL (w + 1) (y.2.2 + 1) := by
        unfold wordsL
        rw [show (y.2.2 + 1 - w).toNat = (y.2.2 + 1 - (w + 1)).toNat + 1 by omega, List.range_succ_eq_map, List.map_cons, List.map_map]
        congr 1
        · simp
        · refine List.map_congr_left fun i _ => ?_
          simp only [Function.comp]; omega
      have ih := fun core => tshortened_l3_p hl hN h1 h2 hy (e := e) (n' := n') (said := said) (u := u) (u2 := u2) (u3 := u3) (q := q) (q2 := q2) (q3 := q3) (x := x) (x2 := x2) (x3 := x3) n (w + 1) core (by omega) (by omega)
      rw [ew, List.all_cons, br_dec c]
      cases core
      · rw [br_false, chk_eq (by omega), ih]; rfl
      · rw [br_true, chk_eq (by omega), grd_eq (by simp; omega), show ((hi : Int) + 1).toNat = hi + 1 by omega, Int.toNat_natCast, containsi_v (by simp; omega) (by simp; omega)]
        simp only [Option.bind_some]
        rw [chk_eq (by omega), ih]; rfl
    · rw [br_ndec c]
      have : wordsL w (y.2.2 + 1) = [] := by unfold wordsL; rw [show (y.2.2 + 1 - w).toNat = 0 by omega]; rfl
      rw [this]; simp
theorem tshortened_l2_p {l : List Int} (hl : l.length ≤ 100) (hN : 110 ≤ N) {lo hi : Nat} (h1 : lo ≤ hi) (h2 : hi < l.length) (hF : TFine ws ts br_) {e : Int} {said : List Int} {q : List Int} {q2 q3 : Int} {x : List Wd} {x2 : List Tn} {x3 : Int} : ∀ (n k : Nat) (n' : Nat), ts.length < n + k → k ≤ ts.length → n' ≤ k →
    tshortened_l2 N n l e lo hi said n' ts ts.length k ws ts br_ q q2 q3 x x2 x3 = some (l, e, said, ((n' + (ts.drop k).countP (sayP ((l.take (hi + 1)).drop lo)) : Nat) : Int), ws, ts, br_, q, q2, q3, x, x2, x3)
  | 0, k, n', h, _, _ => by omega
  | n + 1, k, n', h, hk, hn' => by
    have ht := hF.t; have hn := hF.n
    unfold tshortened_l2
    by_cases c : k < ts.length
    · have g := gets c (0, 0, 0)
      have hx := hF.x _ (getD_mem (d := (0, 0, 0)) c)
      rw [drop_cons c (0, 0, 0)]
      generalize ts.getD k (0, 0, 0) = y at *
      have hj : ∀ m : Nat, m ≤ k + 1 → tshortened_j2 N (tshortened_l2 N n) l e lo hi said m ts ts.length k ws ts br_ q q2 q3 x x2 x3 = some (l, e, said, ((m + (ts.drop (k + 1)).countP (sayP ((l.take (hi + 1)).drop lo)) : Nat) : Int), ws, ts, br_, q, q2, q3, x, x2, x3) := by
        intro m hm
        have ih := tshortened_l2_p hl hN h1 h2 hF (e := e) (said := said) (q := q) (q2 := q2) (q3 := q3) (x := x) (x2 := x2) (x3 := x3) n (k + 1) m (by omega) (by omega) hm
        rw [show ((k + 1 : Nat) : Int) = (k : Int) + 1 by omega] at ih
        unfold tshortened_j2
        rw [chk_eq (by omega), ih]
      rw [br_dec (by omega), idx_eq (by omega) g, tshortened_l3_p hl hN h1 h2 (by omega) N _ _ (by omega) (by omega)]
      simp only [Option.bind_some, Bool.true_and]
      rw [List.countP_cons]
      generalize (ts.drop (k + 1)).countP (sayP ((l.take (hi + 1)).drop lo)) = C at hj ⊢
      have hs : sayP ((l.take (hi + 1)).drop lo) y = (((wordsL y.2.1 (y.2.2 + 1)).all fun w => ((l.take (hi + 1)).drop lo).contains w) && !((l.take (hi + 1)).drop lo).contains y.1) := rfl
      rw [hs]
      cases hc : (wordsL y.2.1 (y.2.2 + 1)).all fun w => ((l.take (hi + 1)).drop lo).contains w
      · rw [br_false, hj n' (by omega)]
        simp
      · rw [br_true, chk_eq (by omega), grd_eq (by simp; omega), show ((hi : Int) + 1).toNat = hi + 1 by omega, Int.toNat_natCast, containsi_v (by simp; omega) (by simp; omega)]
        simp only [Option.bind_some]
        cases ((l.take (hi + 1)).drop lo).contains y.1
        · have := hj (n' + 1) (by omega)
          rw [show ((n' + 1 : Nat) : Int) = (n' : Int) + 1 by omega] at this
          rw [Bool.not_false, br_true, chk_eq (by omega), this]
          simp
          omega
        · rw [Bool.not_true, br_false, hj n' (by omega)]
          simp
    · rw [br_ndec (by omega), List.drop_of_length_le (l := ts) (i := k) (by omega)]; simp
theorem tshortened_l4_p {l : List Int} (hl : l.length ≤ 100) {x : List Wd} {x2 : List Tn} {x3 : Int} : ∀ (n k : Nat) (b2 b3 : Int) (K : List Int), l.length < n + k → k ≤ l.length → Bell b b2 → okC k 0 K →
    Ok (tshortened_l4 N n l l.length k ws ts br_ b b2 b3 x x2 x3 K (pick l K)) fun z => ∃ K', z = (ws, ts, br_, x, x2, x3, K', pick l K') ∧ okC l.length 0 K'
  | 0, k, b2, b3, K, h, _, _, _ => by omega
  | n + 1, k, b2, b3, K, h, hk, hb, hK => by
    unfold tshortened_l4
    refine Ok.brd (fun c => ?_) (fun c => ?_)
    · have c' : k < l.length := by omega
      have hlen : K.length ≤ 100 := by
        by_cases e : K = []
        · subst e; simp
        · have := okC_len hK e; omega
      have hj : ∀ b2 b3 K, Bell b b2 → okC ((k + 1 : Nat) : Int) 0 K → Ok (tshortened_j3 N (tshortened_l4 N n) l l.length k ws ts br_ b b2 b3 x x2 x3 K (pick l K)) fun z => ∃ K', z = (ws, ts, br_, x, x2, x3, K', pick l K') ∧ okC l.length 0 K' := by
        intro b2 b3 K hb hK
        have ih := tshortened_l4_p hl (x := x) (x2 := x2) (x3 := x3) n (k + 1) b2 b3 K (by omega) (by omega) hb hK
        rw [show ((k + 1 : Nat) : Int) = (k : Int) + 1 by omega] at ih
        unfold tshortened_j3
        exact Ok.chk (by omega) ih
      refine Ok.idx (by omega) (by omega) (fun a ha _ => Ok.bind (seldom_ok N hb (by omega)) ?_)
      have ea : a = l.getD k 0 := by
        have := gets c' 0
        rw [this] at ha; cases ha; rfl
      rintro ⟨z, e1, e2, e3⟩ ⟨hc, hb3⟩
      dsimp only at hc hb3 ⊢
      obtain rfl := hc.symm
      refine Ok.br (fun _ => Ok.lim (by simp; omega) (Ok.lim (by simp [pick]; omega) ?_)) (fun _ => hj _ _ _ hb3 (okC_up (by omega) hK))
      have hs := okC_snoc hK (by omega)
      rw [show (k : Int) + 1 = ((k + 1 : Nat) : Int) by omega] at hs
      have := hj e2 e3 _ hb3 hs
      have ep : pick l (K ++ [(k : Int)]) = pick l K ++ [a] := by
        unfold pick
        rw [List.map_append, List.map_singleton, Int.toNat_natCast, ea]
      rw [ep] at this
      exact this
    · obtain rfl : k = l.length := by omega
      exact Ok.some ⟨K, rfl, hK⟩
end
theorem u8_in {p : Int} (h : Ty.inB (.int .u8) p) : 0 ≤ p ∧ p < 256 := by
  have h' : inR .u8 p := h
  unfold inR at h'
  have a : IntKind.u8.min = 0 := by decide
  have b : IntKind.u8.max = 255 := by decide
  omega
theorem tshortened_true {ns qs : List Int} {p : Int} (h1 : Ty.inB (.sl (.int .u8)) ns) (h2 : Ty.inB (.sl (.int .u8)) qs) (h3 : Ty.inB (.int .u8) p) : tshortened_S 1100 ns qs p = some true := by
  have aw : Ok ((awake_S 1100).bind fun x => some x) (· = true) := by rw [awake_v]; exact ⟨_, rfl, rfl⟩
  have l1 : ns.length ≤ 9223372036854775807 := h1.1
  have l2 : qs.length ≤ 9223372036854775807 := h2.1
  have p0 : 0 ≤ p ∧ p < 256 := by
    exact u8_in h3
  suffices hs : Ok (tshortened_S 1100 ns qs p) (· = true) by
    obtain ⟨r, e, rfl⟩ := hs
    exact e
  unfold tshortened_S hang_S
  simp only [Option.bind_some]
  obtain ⟨⟨ws, ts, br_, b, b2, b3⟩, em, hF, hm, hb⟩ := made_v (N := 1100) (b := ns) (by omega) (words := 9) (turns := 3) (b2 := 0) (b3 := 0) (by omega) (by omega) ⟨l1, by omega, by omega⟩
  dsimp only at hF hm hb
  rw [em]
  simp only [Option.bind_some]
  have hn := hF.n; have ht := hF.t; have hn0 := hF.n0
  have c0 := checkT_of hF
  have hq : Bell qs 0 := ⟨l2, by omega, by omega⟩
  have e1 := tshortened_l1_p (N := 1100) (ws := ws) (ts := ts) (br_ := br_) (p := p) (by omega) (b := qs) hn 1100 0 0 0 [] (by omega) (by omega) hq trivial
  simp only [Int.natCast_zero] at e1
  rw [wordsL_nil (a := 0) (b := 0) (by omega)] at e1
  refine Ok.bind e1 ?_
  rintro ⟨p', t', t2', t3', q, q2, q3, all, l⟩ ⟨z1, z2, z3, z4, ⟨hqq, hq2⟩, z5, hl⟩
  dsimp only at z1 z2 z3 z4 z5 hqq hq2 hl ⊢
  subst z1 z2 z3 z4 z5
  obtain rfl := hqq.symm
  have hll : l.length ≤ 12 := by
    by_cases e : l = []
    · subst e; simp
    · have := okC_len hl e; omega
  have hwl : (wordsL 0 (t'.length : Int)).length ≤ 12 := by rw [wordsL_len]; omega
  rw [shorter_v (by omega) (by omega) (by omega) (by omega), shR_all hF]
  simp only [Option.bind_some]
  rw [br_nd (by first | trivial | rfl), same_v (by omega) (by omega) (by omega) (by omega)]
  simp only [Option.bind_some]
  rw [Bool.not_true, br_false, shorter_v (by omega) (by omega) (by omega) (by omega)]
  simp only [Option.bind_some]
  by_cases h0 : l = []
  · subst h0
    have : shR t' t2' t3' [] = (0, 2, [], []) := by unfold shR keptE; rw [c0]; rfl
    rw [this]
    simp only [List.length_nil]
    rw [br_dec (by first | trivial | rfl), br_dec (by first | trivial | rfl)]
    exact aw
  have hasc := okC_asc hl
  have hin : inW t' l := okC_mem hl
  have hk0 := keptE_of c0 h0 hin hasc
  have hpos := List.length_pos_iff.2 h0
  rw [br_ndec (by omega), lkeeps_v (by omega) (by omega) (by omega) (by omega)]
  simp only [Option.bind_some]
  unfold keepsR
  rw [hk0, if_neg (by simp)]
  simp only
  rw [br_nd (by first | trivial | rfl)]
  cases hkeep : t2'.all (keepP l)
  · have : shR t' t2' t3' l = (0, 8, [], []) := by unfold shR; rw [hk0, hkeep]; rfl
    rw [this]
    simp only
    rw [show (!(false == decide ((8 : Int) = 0))) = false from rfl, br_false, Bool.not_false, br_true, br_nd (by first | trivial | rfl), br_nnd (by decide)]
    exact aw
  have eR : shR t' t2' t3' l = (t3', 0, shW t' l t'.length, t2'.filterMap (trV l)) := by unfold shR; rw [hk0, hkeep]; rfl
  have hF2 := shW_fine hF hasc hin h0
  have c2 := checkT_of hF2
  have hlen2 := shW_len t' t'.length l
  have hfl := filterMap_len (f := trV l) t2'
  rw [eR]
  simp only
  rw [show (!(true == decide True)) = false from rfl, br_false, Bool.not_true, br_false, br_nd (by first | trivial | rfl)]
  have hp : IntKind.i64.wrap p' = p' := IntWalk.i64_in _ (by omega)
  have hp1 : Int.tmod p' 100 = p' % 100 := Int.tmod_eq_emod_of_nonneg (by omega)
  rw [hp, hp1]
  have hpp : 1 ≤ 1 + p' % 100 ∧ 1 + p' % 100 ≤ 100 := by omega
  generalize 1 + p' % 100 = each at hpp ⊢
  have hb1 := priceN_bound t'
  have hb2 := priceN_bound (shW t' l t'.length)
  have hle := priceN_kept (t'.length : Int) hl (by omega)
  rw [show (0 : Int).toNat = 0 from rfl, List.drop_zero] at hle
  rw [chk_eq (by omega), price_v (by omega) (by omega) (by omega), price_v (by omega) (by omega) (by omega)]
  simp only [Option.bind_some]
  unfold priceR
  rw [c0, c2, if_neg (by simp), if_neg (by omega), if_neg (by simp), if_neg (by omega)]
  simp only
  have m1 : priceN (shW t' l t'.length) * each ≤ priceN t' * each := Int.mul_le_mul_of_nonneg_right hle (by omega)
  have m2 : each * (l.length : Int) ≤ priceN (shW t' l t'.length) * each := by
    rw [Int.mul_comm each]
    exact Int.mul_le_mul_of_nonneg_right (by omega) (by omega)
  have m3 : each * (l.length : Int) ≤ 100 * 12 := Int.mul_le_mul (by omega) (by omega) (by omega) (by omega)
  have m4 : 0 ≤ each * (l.length : Int) := Int.mul_nonneg (by omega) (by omega)
  rw [br_nd (by first | trivial | rfl), br_nd (by first | trivial | rfl), br_ndec (by omega), chk_eq (by omega), br_ndec (by omega), br_nd (by omega), br_ndec (by omega)]
  refine Ok.chk (by omega) (Ok.bind (stroke_ok 1100 hq2 (by omega)) ?_)
  rintro ⟨lo, d1, d2, d3⟩ ⟨hlo, hc, hb3⟩
  dsimp only at hlo hc hb3 ⊢
  obtain rfl := hc.symm
  refine Ok.chk (by omega) (Ok.bind (strike_ok 1100 hb3 (by omega)) ?_)
  rintro ⟨hi, f1, f2, f3⟩ ⟨hhi, hc, hb4⟩
  dsimp only at hhi hc hb4 ⊢
  obtain rfl := hc.symm
  obtain ⟨lo, rfl⟩ : ∃ k : Nat, lo = k := ⟨lo.toNat, by omega⟩
  obtain ⟨hi, rfl⟩ : ∃ k : Nat, hi = k := ⟨hi.toNat, by omega⟩
  have hsaid := said_part hF hasc hin hkeep (lo := lo) (hi := hi) (by omega) (by omega)
  rw [says_v (by omega) (by omega) (by omega)]
  simp only [Option.bind_some]
  unfold saysR
  rw [c2, if_neg (by simp), if_neg (by simp [inT, hlen2]; omega), if_neg (by simp [inT, hlen2]; omega), if_neg (by omega)]
  simp only
  have e2 := tshortened_l2_p (N := 1100) (l := l) (by omega) (by omega) (lo := lo) (hi := hi) (by omega) (by omega) hF (e := 0) (said := turnL (t2'.filterMap (trV l)) lo ((hi : Int) + 1)) (q := qs) (q2 := f2) (q3 := f3) (x := shW t' l t'.length) (x2 := t2'.filterMap (trV l)) (x3 := t3') 1100 0 0 (by omega) (by omega) (by omega)
  simp only [Int.natCast_zero, List.drop_zero, Nat.zero_add] at e2
  rw [e2]
  simp only [Option.bind_some]
  rw [br_nd (by first | trivial | rfl), br_nd hsaid]
  have e4 := tshortened_l4_p (N := 1100) (ws := t') (ts := t2') (br_ := t3') (b := qs) (l := l) (by omega) (x := shW t' l t'.length) (x2 := t2'.filterMap (trV l)) (x3 := t3') 1100 0 f2 f3 [] (by omega) (by omega) hb4 trivial
  simp only [Int.natCast_zero] at e4
  refine Ok.bind e4 ?_
  rintro z ⟨K, rfl, hK⟩
  dsimp only
  have hKl : K.length ≤ 12 := by
    by_cases e : K = []
    · subst e; simp
    · have := okC_len hK e; omega
  have hpl : (pick l K).length = K.length := by simp [pick]
  rw [shorter_v (by omega) (by omega) (by omega) (by omega), shorter_v (by omega) (by omega) (by omega) (by omega), shR_twice hF hasc hin h0 hkeep (okC_asc hK) (okC_mem hK)]
  simp only [Option.bind_some]
  have hsl := shR_len (ws := t') (ts := t2') (br_ := t3') (pick l K) (by omega)
  generalize shR t' t2' t3' (pick l K) = z at hsl ⊢
  obtain ⟨za, zb, zc, zd⟩ := z
  dsimp only at hsl ⊢
  rw [br_dec (by first | trivial | rfl), same_v (by omega) (by omega) (by omega) (by omega)]
  simp only [Option.bind_some]
  rw [br_true]
  exact aw
end Go.Proofs.Ytfamlpbdhhikdaa

namespace Go.Proofs.Ytfamlpbdhhikdaa
set_option linter.all false
open Go Go.Proofs

shelf_lay Lays2.n23 Nm2 23 at Try as layDel

theorem Fn.ofCalls {P : Program} {f : FuncId} {args : Array Value} {w : World} {R : Ending → World → Prop} {R' : Value → World → Prop} (h : Calls P f args w R) (hr : ∀ e w', R e w' → ∃ v, e = .returned v ∧ R' v w') : Fn P f args w R' := by
  intro cs
  obtain ⟨e, w', fr, r, s, x⟩ := h cs
  obtain ⟨v, rfl, r'⟩ := hr e w' r
  exact ⟨v, w', fr, r', s, x⟩
theorem RepL_int {M : Nat → Option Obj} {k : IntKind} : ∀ (l : List Int) (vs : List Value), RepL M (.int k) l vs → vs = l.map (.int k) ∧ ∀ x ∈ l, inR k x
  | [], vs, h => ⟨h, fun _ h => by cases h⟩
  | x :: l, vs, h => by
    obtain ⟨v1, v2, rfl, ⟨rfl, h1⟩, h2⟩ := h
    obtain ⟨rfl, h3⟩ := RepL_int l v2 h2
    refine ⟨rfl, fun y hy => ?_⟩
    rcases List.mem_cons.1 hy with rfl | hy
    · exact h1
    · exact h3 y hy
theorem RepL_int_mk {M : Nat → Option Obj} {k : IntKind} : ∀ (l : List Int), (∀ x ∈ l, inR k x) → RepL M (.int k) l (l.map (.int k))
  | [], _ => rfl
  | x :: l, h => ⟨[.int k x], l.map (.int k), rfl, ⟨rfl, h x (by simp)⟩, RepL_int_mk l (fun y hy => h y (by simp [hy]))⟩
theorem putCells_lst (enc : Int → Value) (d : List Int) (vs rest : List Value) (h : vs.length = d.length) : «Sort».putCells enc 0 d.toArray (vs ++ rest).toArray = (d.map enc ++ rest).toArray := by
  apply Array.ext_getElem?
  intro k
  simp only [«Sort».putCells, Array.getElem?_mapIdx, List.getElem?_toArray]
  by_cases c : k < d.length
  · rw [List.getElem?_append_left (by omega), List.getElem?_append_left (by simpa using c), List.getElem?_eq_getElem (by omega), List.getElem?_map, List.getElem?_eq_getElem c]
    simp [c]
  · rw [List.getElem?_append_right (by omega), List.getElem?_append_right (by simp; omega), List.length_map, h]
    cases rest[k - d.length]? with
    | none => rfl
    | some v => simp [c]
def delete_S (_N : Nat) (i j : Int) (l : List Int) : Option (List Int) := if 0 ≤ i ∧ i ≤ j ∧ j ≤ l.length ∧ 0 < l.length then some (l.take i.toNat ++ l.drop j.toNat) else none
noncomputable def sp_delete (N : Nat) : Spec := { f := 73, ins := ⟨[.ols 0, .i .i64, .i .i64], [.lst (.int .i64)]⟩, outs := [⟨[.ols 1], [.dead, .lst (.int .i64)]⟩], run := fun p k => (delete_S N p.1.2.1 p.1.2.2.1 p.2.1).bind fun r => k (((), ()), ((), r, ())) }
/-- An own list is written in place. -/
theorem Sim.inPlace {g : Gh} {w w' : World} {l l' : List Int} {b c n : Nat} {vs rest rest' : List Value} {ty : TypeId} {h0 : Nat → Option Blk'} (hs : Sim g h0 w) (hh : ∀ i k, h0 i = some k → i = 0) (h00 : h0 0 = some (.lst (.int .i64) l)) (he : g.ρ 0 = some (some (b, c, n))) (h1 : g.ρ 1 = none) (hM : g.M b = none) (hb : w.heap[b]? = some (.cells (vs ++ rest).toArray ty (0, 0)))
    (hos : w'.os = w.os) (htp : w'.tape = w.tape) (hout : w'.output = w.output) (hsz : w.heap.size ≤ w'.heap.size) (hsame : ∀ i, i < w.heap.size → i ≠ b → w'.heap[i]? = w.heap[i]?) (hb' : w'.heap[b]? = some (.cells ((l'.map (Value.int .i64)) ++ rest').toArray ty (0, 0))) (hr : ∀ x ∈ l', inR .i64 x) (hl : l'.length ≤ 1000000) (hc : l'.length ≤ c ∧ c ≤ 9223372036854775807) (hrl : rest'.length = c - l'.length) :
    ∃ g', Stp (Sw g h0 (List.range 1)) (fun i => 1 ≤ i ∧ i < 2) g w g' w' ∧ Sim g' (fun i => ([.dead, .lst (.int .i64) l'] : List Blk')[i]?) w' ∧ RepV g' (.ols 1) (.slice (some ⟨b, 0, none⟩) l'.length c) := by
  have hSw : Sw g h0 (List.range 1) b := ⟨0, by simp, _, c, n, h00, rfl, he⟩
  refine ⟨newG g 1 (some (b, c, l'.length)), ⟨hos, htp, hout, hsz, fun i hi hn => ?_, newG_ge h1, fun i h2 h3 => ?_, fun i b' c' n' h2 h3 => ?_, fun b' o h2 => .inl h2⟩, ⟨fun b' o h2 => ?_, fun i k hk => ?_, fun i j ki kj b' ci ni cj nj hi hj mi mj ei ej => ?_⟩, .inr ⟨b, c, l'.length, newG_self _ _ _, rfl⟩⟩
  · exact hsame i hi (fun e => hn (e ▸ hSw))
  · by_cases e : i = 1
    · omega
    · simp only [newG, if_neg e] at h3
      exact absurd h2 h3
  · by_cases e : i = 1
    · subst e
      rw [newG_self] at h3
      simp only [Option.some.injEq, Prod.mk.injEq] at h3
      exact .inr (h3.1 ▸ hSw)
    · simp only [newG, if_neg e] at h3
      rw [h2] at h3; cases h3
  · have h2' : g.M b' = some o := h2
    have hbb := hs.mem b' o h2'
    rw [hsame b' (lt_of_blk hbb) (fun e => by rw [e, hM] at h2'; cases h2')]
    exact hbb
  · match i, hk with
    | 0, hk => simp at hk; subst hk; trivial
    | 1, hk =>
      simp at hk; subst hk
      refine ⟨hl, .inr ⟨b, c, l'.map (Value.int .i64), rest', ty, newG_self _ _ _, hb', RepL_int_mk l' hr, hc, ?_, hM⟩⟩
      simp [Ty.cells, hrl]
    | i + 2, hk => simp at hk
  · match i, j, hi, hj with
    | 0, _, hi, _ => simp at hi; subst hi; cases mi
    | _, 0, _, hj => simp at hj; subst hj; cases mj
    | 1, 1, _, _ => rfl
    | i + 2, _, hi, _ => simp at hi
    | _, j + 2, _, hj => simp at hj
theorem sp_delete_ok (N : Nat) : SpecOK Try.prog (sp_delete N) := by
  refine ⟨fun Z p κ => ?_, fun args w => Sem.pv_run _ _ _ (by kernel_rfl) w, fun p r hpr g w vs hv hs hρ => ?_⟩
  · show ((delete_S N _ _ _).bind _) = ((delete_S N _ _ _).bind _).bind κ
    cases delete_S N _ _ _ <;> rfl
  · obtain ⟨⟨⟨⟩, (i : Int), (j : Int), ⟨⟩⟩, (l : List Int), ⟨⟩⟩ := p
    have hpr' : ((delete_S N i j l).bind fun r => some (((), ()), ((), r, ()))) = some r := hpr
    unfold delete_S at hpr'
    split at hpr'
    rotate_left
    · cases hpr'
    rename_i hc
    simp only [Option.bind_some] at hpr'
    cases hpr'
    obtain ⟨hi0, hij, hjl, hl0⟩ := hc
    -- the arguments
    simp only [encs, enc, RepVs] at hv
    obtain ⟨v0, us, rfl, h0, v1, us1, rfl, h1, v2, us2, rfl, h2, rfl⟩ := hv
    simp only [RepV] at h0 h1 h2
    obtain ⟨rfl, hi1⟩ := h1
    obtain ⟨rfl, hj1⟩ := h2
    have hB := hs.blk 0 (.lst (.int .i64) l) rfl
    obtain ⟨hlen, hB⟩ := hB
    rcases hB with ⟨_, e⟩ | ⟨b, c, cs, rest, ty, e0, hb, hL, hcap, hrest, hM⟩
    · rw [e] at hl0; simp at hl0
    rcases h0 with ⟨e, _⟩ | ⟨b2, c2, n2, e, rfl⟩
    · simp only [id] at e; rw [e0] at e; cases e
    simp only [id] at e
    rw [e0] at e
    simp only [Option.some.injEq, Prod.mk.injEq] at e
    obtain ⟨rfl, rfl, rfl⟩ := e
    obtain ⟨rfl, hr⟩ := RepL_int l cs hL
    obtain ⟨i, rfl⟩ : ∃ k : Nat, i = k := ⟨i.toNat, by omega⟩
    obtain ⟨j, rfl⟩ : ∃ k : Nat, j = k := ⟨j.toNat, by omega⟩
    simp only [Int.toNat_natCast] at *
    have hholds : «Sort».Holds (Value.int .i64) w b 0 l.toArray := by
      intro k hk
      simp only [List.size_toArray] at hk
      have hcell : (l.map (Value.int .i64) ++ rest)[k]? = some (.int .i64 l[k]!) := by
        rw [List.getElem?_append_left (by simpa using hk), List.getElem?_map, List.getElem?_eq_getElem hk]
        simp [hk]
      refine ⟨?_, ?_⟩
      · unfold World.cell?
        rw [hb]
        simpa using hcell
      · unfold World.frozen?
        rw [hb]
        simp
    have hC := Any.slices_Delete_int layDel b 0 c i j l w hholds hcap.1 hcap.2 (by omega) (by omega)
    refine Fn.ofCalls hC (fun e w' he => ?_)
    obtain ⟨rfl, q, hw⟩ := he
    refine ⟨_, rfl, ?_⟩
    have hsz : (l.take i ++ l.drop j).length = l.length - (j - i) := by simp; omega
    have hheap : w'.heap = w.heap.modify b («Sort».onCells («Sort».putCells (Value.int .i64) 0 (l.take i ++ l.drop j ++ List.replicate (j - i) 0).toArray)) := by rw [hw]; rfl
    have hb' : w'.heap[b]? = some (.cells (((l.take i ++ l.drop j).map (Value.int .i64)) ++ ((List.replicate (j - i) (0 : Int)).map (Value.int .i64) ++ rest)).toArray ty (0, 0)) := by
      rw [hheap, Array.getElem?_modify, if_pos rfl, hb]
      simp only [Option.map_some, «Sort».onCells]
      rw [putCells_lst _ _ _ _ (by simp; omega), List.map_append, List.append_assoc]
    obtain ⟨g', st, hs', hv'⟩ := Sim.inPlace (l' := l.take i ++ l.drop j) (w' := w') hs (fun i k hk => by
      match i, hk with
      | 0, _ => rfl
      | i + 1, hk =>
        have hk' : ([.lst (.int .i64) l] : List Blk')[i + 1]? = some k := hk
        simp at hk') rfl e0 (hρ 1 (Nat.le_refl 1)) hM hb (by rw [hw]; rfl) (by rw [hw]; rfl) (by rw [hw]; rfl) (by rw [hheap]; simp) (fun k hk hne => by rw [hheap, Array.getElem?_modify, if_neg (fun h => hne h.symm)]) hb' (fun x hx => by
        rcases List.mem_append.1 hx with hx | hx
        · exact hr x (List.mem_of_mem_take hx)
        · exact hr x (List.mem_of_mem_drop hx)) (by omega) (by omega) (by simp [Ty.cells] at hrest ⊢; omega)
    refine ⟨g', st, hs', ?_⟩
    rw [hsz] at hv'
    exact hv'
end Go.Proofs.Ytfamlpbdhhikdaa

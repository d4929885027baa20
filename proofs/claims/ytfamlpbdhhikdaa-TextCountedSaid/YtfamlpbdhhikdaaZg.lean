/-
  Parts of a proof, put together: TD5, X4, X5, TD6, TD7, TD8, TD9, TB, TL1, TL2, TL3, TL4, TL5, TL6, TL7, TL8, TL9, TM1, TM2, X7, TM3, TShl, X8, TM4, X9, TM5, TM6, TM7, X6, TM8.
  Conditions: none.
-/
import Derived.Ground.Names2Prog
import Derived.Shelf.Lay
import Derived.Shelf.Slices.Delete
import Derived.Test.YtfamlpbdhhikdaaZd
import Derived.Test.YtfamlpbdhhikdaaZf
namespace Go.Proofs.Ytfamlpbdhhikdaa
set_option linter.all false
open Go

section
variable {R : Nat → Nat → Bool} {m : Nat}
theorem good_le : ∀ {l : List Int} {a : Nat}, goodB R m a l = true → a ≤ m
  | [], a, h => by have := good_nil.1 h; omega
  | x :: l, a, h => by have := (good_cons.1 h).1; omega
theorem good_last {k : Nat} : ∀ {l : List Int} {a : Nat}, goodB R k a l = true → l ≠ [] → ∃ p, p < k ∧ (∃ l1, goodB R p a l1 = true) ∧ R p k = true
  | [], a, h, hn => absurd rfl hn
  | x :: l, a, h, _ => by
    obtain ⟨⟨b1, b2⟩, b3, b4⟩ := good_cons.1 h
    by_cases e : l = []
    · subst e
      have := good_nil.1 b4
      exact ⟨a, by omega, ⟨[], by simp [goodB]⟩, by rw [← this]; exact b3⟩
    · obtain ⟨p, c1, ⟨l1, c2⟩, c3⟩ := good_last b4 e
      exact ⟨p, c1, ⟨x :: l1, good_cons.2 ⟨⟨b1, good_le c2⟩, b3, c2⟩⟩, c3⟩
theorem good_app {p : Nat} : ∀ {l1 : List Int} {a : Nat} {l2 : List Int}, goodB R p a l1 = true → goodB R m p l2 = true → goodB R m a (l1 ++ l2) = true
  | [], a, l2, h1, h2 => by obtain rfl := good_nil.1 h1; exact h2
  | x :: l1, a, l2, h1, h2 => by
    obtain ⟨⟨b1, b2⟩, b3, b4⟩ := good_cons.1 h1
    have := good_le h2
    exact good_cons.2 ⟨⟨b1, by omega⟩, b3, good_app b4 h2⟩
/-- The places at which a reading breaks. -/
def psums : Int → List Int → List Int
  | _, [] => []
  | a, x :: l => (a + x) :: psums (a + x) l
theorem mem_psums : ∀ {l : List Int} {a : Nat}, goodB R m a l = true → ∀ p : Nat, (p : Int) ∈ psums a l ↔ ∃ l1 l2, l = l1 ++ l2 ∧ l1 ≠ [] ∧ goodB R p a l1 = true ∧ goodB R m p l2 = true
  | [], a, h, p => by
    simp only [psums, List.not_mem_nil, false_iff]
    rintro ⟨l1, l2, e, hn, _⟩
    exact hn (List.append_eq_nil_iff.1 e.symm).1
  | x :: l, a, h, p => by
    obtain ⟨⟨b1, b2⟩, b3, b4⟩ := good_cons.1 h
    have ih := mem_psums b4 p
    have e : (a : Int) + x = ((a + x.toNat : Nat) : Int) := by omega
    rw [psums, e, List.mem_cons, ih]
    constructor
    · rintro (h1 | ⟨l1, l2, rfl, _, c2, c3⟩)
      · obtain rfl : p = a + x.toNat := by omega
        exact ⟨[x], l, rfl, by simp, good_cons.2 ⟨⟨b1, Nat.le_refl _⟩, b3, by simp [goodB]⟩, b4⟩
      · exact ⟨x :: l1, l2, rfl, by simp, good_cons.2 ⟨⟨b1, good_le c2⟩, b3, c2⟩, c3⟩
    · rintro ⟨l1, l2, e1, hn, c2, c3⟩
      cases l1 with
      | nil => exact absurd rfl hn
      | cons y l1 =>
        simp only [List.cons_append, List.cons.injEq] at e1
        obtain ⟨rfl, rfl⟩ := e1
        obtain ⟨⟨d1, d2⟩, d3, d4⟩ := good_cons.1 c2
        by_cases e2 : l1 = []
        · subst e2
          have := good_nil.1 d4
          exact .inl (by omega)
        · exact .inr ⟨l1, l2, rfl, e2, d4, c3⟩
/-- A place that is met, and from which a reading goes on. -/
def metB (R : Nat → Nat → Bool) (p : Nat) : Bool := !(goodsL R p 0).isEmpty
def finB (R : Nat → Nat → Bool) (m p : Nat) : Bool := !(goodsL R m p).isEmpty
theorem ne_iff {α : Type} {l : List α} : (!l.isEmpty) = true ↔ ∃ x, x ∈ l := by
  cases l with
  | nil => simp
  | cons a l => simp
theorem metB_iff {p : Nat} (hp : p ≤ 12) : metB R p = true ↔ ∃ l, goodB R p 0 l = true := by
  unfold metB
  rw [ne_iff]
  exact ⟨fun ⟨l, h⟩ => ⟨l, (mem_goodsL (by omega) hp).1 h⟩, fun ⟨l, h⟩ => ⟨l, (mem_goodsL (by omega) hp).2 h⟩⟩
theorem finB_iff {p : Nat} (hp : p ≤ m) (hm : m ≤ 12) : finB R m p = true ↔ ∃ l, goodB R m p l = true := by
  unfold finB
  rw [ne_iff]
  exact ⟨fun ⟨l, h⟩ => ⟨l, (mem_goodsL hp hm).1 h⟩, fun ⟨l, h⟩ => ⟨l, (mem_goodsL hp hm).2 h⟩⟩
def brkB (R : Nat → Nat → Bool) (m p : Nat) : Bool := metB R p && finB R m p
/-- At which places readings were found to break so far. -/
def MetSo (R : Nat → Nat → Bool) (m k : Nat) (M : List Bool) : Prop := M.length = 13 ∧ ∀ q, q ≤ m → (M.getD q false = true ↔ q = 0 ∨ ∃ p, p < k ∧ p < q ∧ brkB R m p = true ∧ R p q = true)
theorem MetSo.here {k : Nat} {M : List Bool} (h : MetSo R m k M) (hk : k ≤ m) (hm : m ≤ 12) (hf : finB R m k = true) : M.getD k false = metB R k := by
  rw [Bool.eq_iff_iff, h.2 k hk, metB_iff (by omega)]
  constructor
  · rintro (rfl | ⟨p, h1, h2, h3, h4⟩)
    · exact ⟨[], by simp [goodB]⟩
    · simp only [brkB, Bool.and_eq_true] at h3
      obtain ⟨l, hl⟩ := (metB_iff (by omega)).1 h3.1
      exact ⟨l ++ [((k : Int) - p)], good_app hl (good_step h1 (Nat.le_refl _) h4 (by simp [goodB]))⟩
  · rintro ⟨l, hl⟩
    by_cases e : l = []
    · subst e; exact .inl (good_nil.1 hl).symm
    · obtain ⟨p, c1, c2, c3⟩ := good_last hl e
      refine .inr ⟨p, c1, c1, ?_, c3⟩
      simp only [brkB, Bool.and_eq_true]
      obtain ⟨l2, hl2⟩ := (finB_iff hk hm).1 hf
      exact ⟨(metB_iff (by omega)).2 c2, (finB_iff (by omega) hm).2 ⟨_, good_step c1 hk c3 hl2⟩⟩
theorem MetSo.skip {k : Nat} {M : List Bool} (h : MetSo R m k M) (hb : brkB R m k = false) : MetSo R m (k + 1) M := by
  refine ⟨h.1, fun q hq => (h.2 q hq).trans ?_⟩
  constructor
  · rintro (h1 | ⟨p, h1, h2⟩)
    · exact .inl h1
    · exact .inr ⟨p, by omega, h2⟩
  · rintro (h1 | ⟨p, h1, h2, h3, h4⟩)
    · exact .inl h1
    · by_cases e : p = k
      · subst e; rw [hb] at h3; cases h3
      · exact .inr ⟨p, by omega, h2, h3, h4⟩
/-- The places at which no right reading breaks. -/
def nvK (R : Nat → Nat → Bool) (m k : Nat) : List Int := ((List.range k).filter fun p => !brkB R m p).map fun (p : Nat) => (p : Int)
theorem nvK_len (R : Nat → Nat → Bool) (m k : Nat) : (nvK R m k).length ≤ k := by
  have := List.length_filter_le (fun p => !brkB R m p) (List.range k)
  simp only [nvK, List.length_map]
  simpa using this
theorem nvK_succ (R : Nat → Nat → Bool) (m k : Nat) : nvK R m (k + 1) = nvK R m k ++ (if brkB R m k = true then [] else [(k : Int)]) := by
  simp only [nvK, List.range_succ, List.filter_append, List.map_append]
  congr 1
  rw [List.filter_cons]
  cases brkB R m k <;> rfl
end
section
variable {N : Nat} (hN : 110 ≤ N) {ws : List Wd} {ts : List Tn} {br_ : Int} (hF : TFine ws ts br_)
include hF
theorem never_l2_p {u u2 u3 u4 : Int} {d u5 : Tx} {on : List (Int × Int)} {O : List Int} : ∀ (es : List Nat) (M : List Bool), M.length = 13 → (∀ q ∈ es, q ≤ ws.length) →
    ∃ M', never_l2 N (es.map fun (j : Nat) => ((j : Int), ())) u d u2 u3 u4 u5 on M O = some (u, d, u2, u3, on, M', O) ∧ M'.length = 13 ∧ ∀ q, M'.getD q false = (M.getD q false || decide (q ∈ es))
  | [], M, hM, _ => ⟨M, rfl, hM, fun q => by simp⟩
  | e :: es, M, hM, he => by
    have := hF.n
    have h1 := he e (by simp)
    obtain ⟨M', e1, e2, e3⟩ := never_l2_p es (M.set e true) (by simpa using hM) (fun q hq => he q (by simp [hq]))
    refine ⟨M', ?_, e2, fun q => ?_⟩
    · rw [List.map_cons, never_l2]
      unfold never_l2_b
      rw [rng_eq (by omega), get_get false (by omega)]
      exact e1
    · rw [e3 q, getD_set' (by omega)]
      by_cases h : e = q
      · subst h; simp
      · rw [if_neg h]
        simp [show ¬ q = e from fun h2 => h h2.symm]
theorem never_l1_p {on : List (Int × Int)} (hon : ∀ q : Nat, q ≤ ws.length → look on q = (goodsT ws ts br_ q).length) {u : Int} : ∀ (n k : Nat) (M : List Bool), ws.length < n + k → k ≤ ws.length → MetSo (rightR ws ts br_) ws.length k M →
    never_l1 N n u (ws, ts, br_) ws.length k on M (nvK (rightR ws ts br_) ws.length k) = some (nvK (rightR ws ts br_) ws.length ws.length)
  | 0, k, M, h, _, _ => by omega
  | n + 1, k, M, h, hk, hM => by
    have hn := hF.n
    by_cases c : k < ws.length
    rotate_left
    · obtain rfl : k = ws.length := by omega
      rw [never_l1, br_ndec (by omega)]
    have hl := nvK_len (rightR ws ts br_) ws.length k
    have ih := never_l1_p hon (u := u) n (k + 1)
    rw [nvK_succ] at ih
    have hM0 := hM.1
    have hj : ∀ M O, never_j1 N (never_l1 N n) u (ws, ts, br_) ws.length k on M O = never_l1 N n u (ws, ts, br_) ws.length ((k + 1 : Nat) : Int) on M O := fun M O => by
      unfold never_j1
      rw [chk_eq (by omega)]; rfl
    have hlk := hon k hk
    rw [never_l1, br_dec (by omega), rng_eq (by omega), get_get false (by omega)]
    simp only [Int.toNat_natCast, hj]
    have put : brkB (rightR ws ts br_) ws.length k = false → (lim ((nvK (rightR ws ts br_) ws.length k).length + [(k : Int)].length) <| never_l1 N n u (ws, ts, br_) ws.length ((k + 1 : Nat) : Int) on M (nvK (rightR ws ts br_) ws.length k ++ [(k : Int)])) = some (nvK (rightR ws ts br_) ws.length ws.length) := fun hb => by
      rw [lim_eq (by simp; omega)]
      have := ih M (by omega) (by omega) (hM.skip hb)
      rw [hb] at this
      exact this
    have hfin : finB (rightR ws ts br_) ws.length k = !decide (look on k = 0) := by
      rw [hlk]
      unfold finB goodsT
      cases goodsL (rightR ws ts br_) ws.length k with
      | nil => rfl
      | cons a l => simp; omega
    cases hmet : M.getD k false
    · rw [Bool.not_false, br_true]
      refine put ?_
      cases hf : finB (rightR ws ts br_) ws.length k
      · simp [brkB, hf]
      · have := hM.here hk hn hf
        rw [hmet] at this
        simp [brkB, ← this]
    · rw [Bool.not_true, br_false]
      show br (decide (look on k = 0)) _ _ = _
      by_cases e : look on k = 0
      · rw [br_dec e]
        refine put ?_
        rw [decide_eq_true e] at hfin
        simp [brkB, hfin]
      · rw [br_ndec e]
        rw [decide_eq_false e] at hfin
        have hb : brkB (rightR ws ts br_) ws.length k = true := by
          have := hM.here hk hn hfin
          rw [hmet] at this
          simp [brkB, hfin, ← this]
        simp only [breaths_S, Option.bind_some]
        rw [breathsR_v hF hk]
        simp only [Option.bind_some]
        obtain ⟨M', e1, e2, e3⟩ := never_l2_p (N := N) hF (u := u) (u2 := (ws.length : Int)) (u3 := (k : Int)) (u4 := (k : Int)) (d := (ws, ts, br_)) (u5 := (ws, ts, br_)) (on := on) (O := nvK (rightR ws ts br_) ws.length k) (endsL ws ts br_ k) M hM0 (fun q hq => (mem_toL.1 hq).2.1)
        rw [e1]
        simp only [Option.bind_some, hj]
        have := ih M' (by omega) (by omega) ⟨e2, fun q hq => ?_⟩
        · rw [hb] at this
          simpa using this
        · rw [e3 q]
          simp only [Bool.or_eq_true, decide_eq_true_eq, hM.2 q hq]
          unfold endsL
          rw [mem_toL]
          constructor
          · rintro ((h1 | ⟨p, h1, h2⟩) | ⟨h1, h2, h3⟩)
            · exact .inl h1
            · exact .inr ⟨p, by omega, h2⟩
            · exact .inr ⟨k, by omega, by omega, hb, h3⟩
          · rintro (h1 | ⟨p, h1, h2, h3, h4⟩)
            · exact .inl (.inl h1)
            · by_cases e5 : p = k
              · subst e5; exact .inr ⟨by omega, hq, h4⟩
              · exact .inl (.inr ⟨p, by omega, h2, h3, h4⟩)
end
/-- The places at which no right reading breaks, or the error. -/
def neverR (ws : List Wd) (ts : List Tn) (br_ : Int) : List Int × Int :=
  if checkT ws ts br_ ≠ 0 then ([], checkT ws ts br_) else if goodsT ws ts br_ 0 = [] then ([], 6) else (nvK (rightR ws ts br_) ws.length ws.length, 0)
theorem never_v {N : Nat} (hN : 110 ≤ N) {ws : List Wd} {ts : List Tn} {br_ : Int} (hw : ws.length ≤ 1000000) (ht : ts.length ≤ 1000000) : never_S N ws ts br_ = some (neverR ws ts br_) := by
  unfold never_S neverR
  rw [opened_v (by omega) hw ht]
  by_cases c : checkT ws ts br_ = 0
  · have hF := tfine_of c
    have hn := hF.n; have hn0 := hF.n0
    rw [if_pos c, if_neg (by simpa using c)]
    simp only [Option.bind_some]
    rw [br_nd trivial]
    obtain ⟨M, e, hM⟩ := counts_v hN hF
    rw [e]
    simp only [Option.bind_some]
    show br (decide (look M 0 = 0)) _ _ = _
    have h0 := hM 0 (by omega)
    by_cases d : goodsT ws ts br_ 0 = []
    · rw [if_pos d, br_dec (by rw [show (0 : Int) = ((0 : Nat) : Int) from rfl, h0, d]; rfl)]
    · have : 0 < (goodsT ws ts br_ 0).length := List.length_pos_iff.2 d
      rw [if_neg d, br_ndec (by rw [show (0 : Int) = ((0 : Nat) : Int) from rfl, h0]; omega), get_get false (by simp)]
      simp only [end__S, Option.bind_some]
      have e1 := never_l1_p (N := N) hF hM (u := 0) N 0 ((List.replicate 13 false).set 0 true) (by omega) (by omega) ⟨by simp, fun q hq => ?_⟩
      · have e2 : nvK (rightR ws ts br_) ws.length 0 = [] := rfl
        rw [e2] at e1
        simp only [Int.natCast_zero] at e1
        rw [e1]; rfl
      · rw [getD_set' (by simp)]
        by_cases e : 0 = q
        · rw [if_pos e]; simp [e.symm]
        · rw [if_neg e]
          have : (List.replicate 13 false).getD q false = false := by
            simp only [List.getD, List.getElem?_replicate]
            split <;> rfl
          rw [this]
          simp
          omega
  · rw [if_neg c, if_pos c]
    simp only [Option.bind_some]
    rw [br_nnd c]
end Go.Proofs.Ytfamlpbdhhikdaa

namespace Go.Proofs.Ytfamlpbdhhikdaa
set_option linter.all false
open Go

def made_l1 (N : Nat) : Nat → Int → Int → Int → (List Int) → Int → Int → Int → Int → (List (Int × (Int × Bool))) → Option (Int × List Int × Int × Int × Int × Int × (List (Int × (Int × Bool))))
  | 0, _, _, _, _, _, _, _, _, _ => none
  | n_ + 1, turns, u, u2, b, b2, b3, g, t, t2 =>
    br (decide (u2 < u))
      ((strike_S N 1 4 b b2 b3).bind fun (x_9, y_10, y_11, y_12) =>
      (stroke_S N 9 y_10 y_11 y_12).bind fun (x_13, y_14, y_15, y_16) =>
      (seldom_S N 3 y_14 y_15 y_16).bind fun (x_17, y_18, y_19, y_20) =>
      lim (t2.length + [(x_9, x_13, (!x_17))].length) <|
      chk (u2 + 1) <|
      made_l1 N n_ turns u (u2 + 1) y_18 y_19 y_20 g t (t2 ++ [(x_9, x_13, (!x_17))]))
      (some ((turns, b, b2, b3, g, t, t2)))
def made_j1 (N : Nat) (rec : Int → Int → (List Int) → Int → Int → Int → Int → (List (Int × (Int × Bool))) → (List (Int × (Int × Int))) → Option (List Int × Int × Int × Int × Int × (List (Int × (Int × Bool))) × (List (Int × (Int × Int))))) (u : Int) (u2 : Int) (b : List Int) (b2 : Int) (b3 : Int) (g : Int) (t : Int) (t2 : List (Int × (Int × Bool))) (t3 : List (Int × (Int × Int))) : Option (List Int × Int × Int × Int × Int × (List (Int × (Int × Bool))) × (List (Int × (Int × Int)))) :=
  chk (u2 + 1) <|
  rec u (u2 + 1) b b2 b3 g t t2 t3
def made_l2 (N : Nat) : Nat → Int → Int → (List Int) → Int → Int → Int → Int → (List (Int × (Int × Bool))) → (List (Int × (Int × Int))) → Option (List Int × Int × Int × Int × Int × (List (Int × (Int × Bool))) × (List (Int × (Int × Int))))
  | 0, _, _, _, _, _, _, _, _, _ => none
  | n_ + 1, u, u2, b, b2, b3, g, t, t2, t3 =>
    br (decide (u2 < u))
      (br (decide ((t2.length : Int) < 2))
        (some ((b, b2, b3, g, t, t2, t3)))
        (chk ((t2.length : Int) - 1) <|
        (stroke_S N ((t2.length : Int) - 1) b b2 b3).bind fun (x_32, y_33, y_34, y_35) =>
        chk ((t2.length : Int) - 1) <|
        (stroke_S N 2 y_33 y_34 y_35).bind fun (x_36, y_37, y_38, y_39) =>
        chk (x_32 + x_36) <|
        chk ((t2.length : Int) - 1) <|
        (stroke_S N ((t2.length : Int) - 1) y_37 y_38 y_39).bind fun (x_40, y_41, y_42, y_43) =>
        br (decide (x_40 < x_32))
          (lim (t3.length + [(x_40, x_32, (min ((t2.length : Int) - 1) (x_32 + x_36)))].length) <|
          made_j1 N (made_l2 N n_) u u2 y_41 y_42 y_43 g t t2 (t3 ++ [(x_40, x_32, (min ((t2.length : Int) - 1) (x_32 + x_36)))]))
          (br (decide ((min ((t2.length : Int) - 1) (x_32 + x_36)) < x_40))
            (lim (t3.length + [(x_40, x_32, (min ((t2.length : Int) - 1) (x_32 + x_36)))].length) <|
            made_j1 N (made_l2 N n_) u u2 y_41 y_42 y_43 g t t2 (t3 ++ [(x_40, x_32, (min ((t2.length : Int) - 1) (x_32 + x_36)))]))
            (made_j1 N (made_l2 N n_) u u2 y_41 y_42 y_43 g t t2 t3))))
      (some ((b, b2, b3, g, t, t2, t3)))
def made_S (N : Nat) (words : Int) (turns : Int) (b : List Int) (b2 : Int) (b3 : Int) : Option ((List (Int × (Int × Bool))) × (List (Int × (Int × Int))) × Int × List Int × Int × Int) :=
  (strike_S N 3 14 b b2 b3).bind fun (x_1, y_2, y_3, y_4) =>
  (strike_S N 1 words y_2 y_3 y_4).bind fun (x_5, y_6, y_7, y_8) =>
  (made_l1 N N turns x_5 0 y_6 y_7 y_8 0 x_1 []).bind fun (turns_21, b_22, b2_23, b3_24, g_25, t_26, t2_27) =>
  (stroke_S N turns_21 b_22 b2_23 b3_24).bind fun (x_28, y_29, y_30, y_31) =>
  (made_l2 N N x_28 0 y_29 y_30 y_31 g_25 t_26 t2_27 []).bind fun (g_44, g2_45, g3_46, g4_47, t_48, t2_49, t3_50) =>
  some (t2_49, t3_50, t_48, g_44, g2_45, g3_46)
noncomputable def made_sp (N : Nat) : List Spec := [sp_stroke N, sp_strike N, sp_seldom N]
theorem made_all (N : Nat) : AllP (SpecOK Try.prog) (made_sp N) := ⟨sp_stroke_ok N, sp_strike_ok N, sp_seldom_ok N, trivial⟩
noncomputable def made_c : Code := (Try.f36.body).getD .skip
noncomputable abbrev made_B : Body := { c := made_c, n := 83, res := [.cell 6 25], outs := [⟨[.agg [.sl (.pair (.int .i64) (.pair (.int .i64) .bool)), .sl (.pair (.int .i64) (.pair (.int .i64) (.int .i64))), .i .i64]], [.segs [.sl (.int .u8), .i .i64, .i .u32]]⟩], m0 := 1 }
abbrev made_rt : altD made_B.outs → Option ((List (Int × (Int × Bool))) × (List (Int × (Int × Int))) × Int × List Int × Int × Int) := fun r => some (r.1.1.1, r.1.1.2.1, r.1.1.2.2.1, r.2.1.1, r.2.1.2.1, r.2.1.2.2.1)
abbrev made_l1_at : List PI := [.c [1, 1, 0, 1, 0, 0, 0], .c [1, 1, 0, 1, 0, 0, 1], .l [1, 1, 0, 1, 0, 0], .b 0, .c [1, 1, 1]]
abbrev made_l1_st : Sta := ⟨[0, 2, 6, 7, 16, 17], ⟨[.own 0 0, .i .i64, .own 1 0, .own 2 0, .i .i64, .i .i64], [.segs [.sl (.int .u8), .i .i64, .i .u32], .segs [.nils, .nils, .i .i64], .segs [.ols 3, .nils, .i .i64], .lst (.pair (.int .i64) (.pair (.int .i64) .bool))]⟩⟩
abbrev made_l1_h (rec : Int → Int → Int → (List Int) → Int → Int → Int → Int → (List (Int × (Int × Bool))) → Option (Int × List Int × Int × Int × Int × Int × (List (Int × (Int × Bool))))) : Leaf (Int × List Int × Int × Int × Int × Int × (List (Int × (Int × Bool)))) := ⟨made_l1_at, made_l1_st, fun p => rec p.1.2.1 p.1.2.2.2.2.1 p.1.2.2.2.2.2.1 p.2.1.1 p.2.1.2.1 p.2.1.2.2.1 p.2.2.1.2.2.1 p.2.2.2.1.2.2.1 p.2.2.2.2.1⟩
abbrev made_l1_e0 : Leaf (Int × List Int × Int × Int × Int × Int × (List (Int × (Int × Bool)))) := ⟨[.c [1, 1, 1, 0, 0], .c [1, 1, 1, 0, 1], .c [1, 1, 1, 1]], ⟨[0, 2, 6, 7], ⟨[.own 0 0, .i .i64, .own 1 0, .own 2 0], [.segs [.sl (.int .u8), .i .i64, .i .u32], .segs [.nils, .nils, .i .i64], .segs [.ols 3, .nils, .i .i64], .lst (.pair (.int .i64) (.pair (.int .i64) .bool))]⟩⟩, fun p => some ((p.1.2.1, p.2.1.1, p.2.1.2.1, p.2.1.2.2.1, p.2.2.1.2.2.1, p.2.2.2.1.2.2.1, p.2.2.2.2.1))⟩
noncomputable def made_l1_L (N : Nat) : LoopS := { at_ := made_l1_at, sta := made_l1_st, exits := [([.c [1, 1, 1, 0, 0], .c [1, 1, 1, 0, 1], .c [1, 1, 1, 1]], ⟨[0, 2, 6, 7], ⟨[.own 0 0, .i .i64, .own 1 0, .own 2 0], [.segs [.sl (.int .u8), .i .i64, .i .u32], .segs [.nils, .nils, .i .i64], .segs [.ols 3, .nils, .i .i64], .lst (.pair (.int .i64) (.pair (.int .i64) .bool))]⟩⟩)], run := fun p k => (made_l1 N N p.1.2.1 p.1.2.2.2.2.1 p.1.2.2.2.2.2.1 p.2.1.1 p.2.1.2.1 p.2.1.2.2.1 p.2.2.1.2.2.1 p.2.2.2.1.2.2.1 p.2.2.2.2.1).bind fun e => k (.inl (((), e.1, (), (), ()), ((e.2.1, e.2.2.1, e.2.2.2.1, ()), ((), (), e.2.2.2.2.1, ()), ((), (), e.2.2.2.2.2.1, ()), e.2.2.2.2.2.2, ()))) }
theorem made_l1_eq (N n_ : Nat) (turns : Int) (u : Int) (u2 : Int) (b : List Int) (b2 : Int) (b3 : Int) (g : Int) (t : Int) (t2 : List (Int × (Int × Bool))) : ev (Z := Int × List Int × Int × Int × Int × Int × (List (Int × (Int × Bool)))) Try.prog (made_sp N) made_B [] [made_l1_h (made_l1 N n_), made_l1_e0] none 400 true made_l1_at (stL made_l1_st (((), turns, (), (), u, u2, ()), ((b, b2, b3, ()), ((), (), g, ()), ((), (), t, ()), t2, ()))) (stH made_l1_st (((), turns, (), (), u, u2, ()), ((b, b2, b3, ()), ((), (), g, ()), ((), (), t, ()), t2, ()))) = made_l1 N (n_ + 1) turns u u2 b b2 b3 g t t2 := by kernel_rfl
theorem made_l1_ok (N : Nat) {top : Bool} : LoopOK Try.prog made_B.c made_B.n made_B.m0 top (made_l1_L N) := loop_of_ev (Z := Int × List Int × Int × Int × Int × Int × (List (Int × (Int × Bool)))) (N := N) (fun m p => made_l1 N m p.1.2.1 p.1.2.2.2.2.1 p.1.2.2.2.2.2.1 p.2.1.1 p.2.1.2.1 p.2.1.2.2.1 p.2.2.1.2.2.1 p.2.2.2.1.2.2.1 p.2.2.2.2.1) (fun e => .inl (((), e.1, (), (), ()), ((e.2.1, e.2.2.1, e.2.2.2.1, ()), ((), (), e.2.2.2.2.1, ()), ((), (), e.2.2.2.2.2.1, ()), e.2.2.2.2.2.2, ()))) (fun _ _ _ => rfl) (fun _ => rfl) (fun m z E Xc hE hX hrec hx => leaf_of_ev (B := made_B) (loops := []) (leaves := [made_l1_h (made_l1 N m), made_l1_e0]) (made_all N) mixed trivial hE hX ⟨hrec, (fun p hp => by obtain rfl := Option.some.inj hp; exact hx), trivial⟩ RetOK.no (fun p => made_l1_eq N m p.1.2.1 p.1.2.2.2.2.1 p.1.2.2.2.2.2.1 p.2.1.1 p.2.1.2.1 p.2.1.2.2.1 p.2.2.1.2.2.1 p.2.2.2.1.2.2.1 p.2.2.2.2.1))
abbrev made_l2_at : List PI := [.c [1, 1, 1, 0, 1, 0, 0, 0], .c [1, 1, 1, 0, 1, 0, 0, 1], .l [1, 1, 1, 0, 1, 0, 0], .b 2, .c [1, 1, 1, 1]]
abbrev made_l2_st : Sta := ⟨[0, 6, 7, 35, 36], ⟨[.own 0 0, .own 1 0, .own 2 0, .i .i64, .i .i64], [.segs [.sl (.int .u8), .i .i64, .i .u32], .segs [.nils, .nils, .i .i64], .segs [.ols 3, .ols 4, .i .i64], .lst (.pair (.int .i64) (.pair (.int .i64) .bool)), .lst (.pair (.int .i64) (.pair (.int .i64) (.int .i64)))]⟩⟩
abbrev made_l2_h (rec : Int → Int → (List Int) → Int → Int → Int → Int → (List (Int × (Int × Bool))) → (List (Int × (Int × Int))) → Option (List Int × Int × Int × Int × Int × (List (Int × (Int × Bool))) × (List (Int × (Int × Int))))) : Leaf (List Int × Int × Int × Int × Int × (List (Int × (Int × Bool))) × (List (Int × (Int × Int)))) := ⟨made_l2_at, made_l2_st, fun p => rec p.1.2.2.2.1 p.1.2.2.2.2.1 p.2.1.1 p.2.1.2.1 p.2.1.2.2.1 p.2.2.1.2.2.1 p.2.2.2.1.2.2.1 p.2.2.2.2.1 p.2.2.2.2.2.1⟩
abbrev made_l2_e0 : Leaf (List Int × Int × Int × Int × Int × (List (Int × (Int × Bool))) × (List (Int × (Int × Int)))) := ⟨[.c [1, 1, 1, 1, 0], .c [1, 1, 1, 1, 1]], ⟨[6, 7], ⟨[.own 1 0, .own 2 0], [.segs [.sl (.int .u8), .i .i64, .i .u32], .segs [.nils, .nils, .i .i64], .segs [.ols 3, .ols 4, .i .i64], .lst (.pair (.int .i64) (.pair (.int .i64) .bool)), .lst (.pair (.int .i64) (.pair (.int .i64) (.int .i64)))]⟩⟩, fun p => some ((p.2.1.1, p.2.1.2.1, p.2.1.2.2.1, p.2.2.1.2.2.1, p.2.2.2.1.2.2.1, p.2.2.2.2.1, p.2.2.2.2.2.1))⟩
abbrev made_j1_at : List PI := [.c [1, 1, 1, 0, 1, 0, 0, 1, 1, 1], .l [1, 1, 1, 0, 1, 0, 0], .b 2, .c [1, 1, 1, 1]]
abbrev made_j1_st : Sta := ⟨[0, 6, 7, 35, 36], ⟨[.own 0 0, .own 1 0, .own 2 0, .i .i64, .i .i64], [.segs [.sl (.int .u8), .i .i64, .i .u32], .segs [.nils, .nils, .i .i64], .segs [.ols 3, .ols 4, .i .i64], .lst (.pair (.int .i64) (.pair (.int .i64) .bool)), .lst (.pair (.int .i64) (.pair (.int .i64) (.int .i64)))]⟩⟩
abbrev made_j1_k (N : Nat) (rec : Int → Int → (List Int) → Int → Int → Int → Int → (List (Int × (Int × Bool))) → (List (Int × (Int × Int))) → Option (List Int × Int × Int × Int × Int × (List (Int × (Int × Bool))) × (List (Int × (Int × Int))))) : Leaf (List Int × Int × Int × Int × Int × (List (Int × (Int × Bool))) × (List (Int × (Int × Int)))) := ⟨made_j1_at, made_j1_st, fun p => made_j1 N rec p.1.2.2.2.1 p.1.2.2.2.2.1 p.2.1.1 p.2.1.2.1 p.2.1.2.2.1 p.2.2.1.2.2.1 p.2.2.2.1.2.2.1 p.2.2.2.2.1 p.2.2.2.2.2.1⟩
theorem made_j1_eq (N : Nat) (rec : Int → Int → (List Int) → Int → Int → Int → Int → (List (Int × (Int × Bool))) → (List (Int × (Int × Int))) → Option (List Int × Int × Int × Int × Int × (List (Int × (Int × Bool))) × (List (Int × (Int × Int))))) (u : Int) (u2 : Int) (b : List Int) (b2 : Int) (b3 : Int) (g : Int) (t : Int) (t2 : List (Int × (Int × Bool))) (t3 : List (Int × (Int × Int))) : ev (Z := List Int × Int × Int × Int × Int × (List (Int × (Int × Bool))) × (List (Int × (Int × Int)))) Try.prog (made_sp N) made_B [made_l1_L N] [made_l2_h rec, made_l2_e0] none 400 true made_j1_at (stL made_j1_st (((), (), (), u, u2, ()), ((b, b2, b3, ()), ((), (), g, ()), ((), (), t, ()), t2, t3, ()))) (stH made_j1_st (((), (), (), u, u2, ()), ((b, b2, b3, ()), ((), (), g, ()), ((), (), t, ()), t2, t3, ()))) = made_j1 N rec u u2 b b2 b3 g t t2 t3 := by kernel_rfl
theorem made_j1_lf (N : Nat) (rec : Int → Int → (List Int) → Int → Int → Int → Int → (List (Int × (Int × Bool))) → (List (Int × (Int × Int))) → Option (List Int × Int × Int × Int × Int × (List (Int × (Int × Bool))) × (List (Int × (Int × Int))))) {z : List Int × Int × Int × Int × Int × (List (Int × (Int × Bool))) × (List (Int × (Int × Int)))} {top : Bool} {E : EE} {Xc : Ctx} (hE : EOK made_B.m0 E) (hX : CxOK top Xc) (hrec : LeafOK Try.prog made_B.c made_B.n made_B.m0 E Xc z (made_l2_h rec)) (h0 : LeafOK Try.prog made_B.c made_B.n made_B.m0 E Xc z made_l2_e0) : LeafOK Try.prog made_B.c made_B.n made_B.m0 E Xc z (made_j1_k N rec) := leaf_of_ev (B := made_B) (loops := [made_l1_L N]) (leaves := [made_l2_h rec, made_l2_e0]) (made_all N) mixed ⟨made_l1_ok N, trivial⟩ hE hX ⟨hrec, h0, trivial⟩ RetOK.no (fun p => made_j1_eq N rec p.1.2.2.2.1 p.1.2.2.2.2.1 p.2.1.1 p.2.1.2.1 p.2.1.2.2.1 p.2.2.1.2.2.1 p.2.2.2.1.2.2.1 p.2.2.2.2.1 p.2.2.2.2.2.1)
noncomputable def made_l2_L (N : Nat) : LoopS := { at_ := made_l2_at, sta := made_l2_st, exits := [([.c [1, 1, 1, 1, 0], .c [1, 1, 1, 1, 1]], ⟨[6, 7], ⟨[.own 1 0, .own 2 0], [.segs [.sl (.int .u8), .i .i64, .i .u32], .segs [.nils, .nils, .i .i64], .segs [.ols 3, .ols 4, .i .i64], .lst (.pair (.int .i64) (.pair (.int .i64) .bool)), .lst (.pair (.int .i64) (.pair (.int .i64) (.int .i64)))]⟩⟩)], run := fun p k => (made_l2 N N p.1.2.2.2.1 p.1.2.2.2.2.1 p.2.1.1 p.2.1.2.1 p.2.1.2.2.1 p.2.2.1.2.2.1 p.2.2.2.1.2.2.1 p.2.2.2.2.1 p.2.2.2.2.2.1).bind fun e => k (.inl (((), (), ()), ((e.1, e.2.1, e.2.2.1, ()), ((), (), e.2.2.2.1, ()), ((), (), e.2.2.2.2.1, ()), e.2.2.2.2.2.1, e.2.2.2.2.2.2, ()))) }
theorem made_l2_eq (N n_ : Nat) (u : Int) (u2 : Int) (b : List Int) (b2 : Int) (b3 : Int) (g : Int) (t : Int) (t2 : List (Int × (Int × Bool))) (t3 : List (Int × (Int × Int))) : ev (Z := List Int × Int × Int × Int × Int × (List (Int × (Int × Bool))) × (List (Int × (Int × Int)))) Try.prog (made_sp N) made_B [made_l1_L N] [made_l2_h (made_l2 N n_), made_l2_e0, made_j1_k N (made_l2 N n_)] none 400 true made_l2_at (stL made_l2_st (((), (), (), u, u2, ()), ((b, b2, b3, ()), ((), (), g, ()), ((), (), t, ()), t2, t3, ()))) (stH made_l2_st (((), (), (), u, u2, ()), ((b, b2, b3, ()), ((), (), g, ()), ((), (), t, ()), t2, t3, ()))) = made_l2 N (n_ + 1) u u2 b b2 b3 g t t2 t3 := by kernel_rfl
theorem made_l2_ok (N : Nat) {top : Bool} : LoopOK Try.prog made_B.c made_B.n made_B.m0 top (made_l2_L N) := loop_of_ev (Z := List Int × Int × Int × Int × Int × (List (Int × (Int × Bool))) × (List (Int × (Int × Int)))) (N := N) (fun m p => made_l2 N m p.1.2.2.2.1 p.1.2.2.2.2.1 p.2.1.1 p.2.1.2.1 p.2.1.2.2.1 p.2.2.1.2.2.1 p.2.2.2.1.2.2.1 p.2.2.2.2.1 p.2.2.2.2.2.1) (fun e => .inl (((), (), ()), ((e.1, e.2.1, e.2.2.1, ()), ((), (), e.2.2.2.1, ()), ((), (), e.2.2.2.2.1, ()), e.2.2.2.2.2.1, e.2.2.2.2.2.2, ()))) (fun _ _ _ => rfl) (fun _ => rfl) (fun m z E Xc hE hX hrec hx => leaf_of_ev (B := made_B) (loops := [made_l1_L N]) (leaves := [made_l2_h (made_l2 N m), made_l2_e0, made_j1_k N (made_l2 N m)]) (made_all N) mixed ⟨made_l1_ok N, trivial⟩ hE hX ⟨hrec, (fun p hp => by obtain rfl := Option.some.inj hp; exact hx), made_j1_lf N _ hE hX hrec (fun p hp => by obtain rfl := Option.some.inj hp; exact hx), trivial⟩ RetOK.no (fun p => made_l2_eq N m p.1.2.2.2.1 p.1.2.2.2.2.1 p.2.1.1 p.2.1.2.1 p.2.1.2.2.1 p.2.2.1.2.2.1 p.2.2.2.1.2.2.1 p.2.2.2.2.1 p.2.2.2.2.2.1))
abbrev made_st : Sta := ⟨[0, 1, 2], ⟨[.own 0 0, .i .i64, .i .i64], [.segs [.sl (.int .u8), .i .i64, .i .u32]]⟩⟩
theorem made_eq (N : Nat) (words : Int) (turns : Int) (b : List Int) (b2 : Int) (b3 : Int) : ev (Z := (List (Int × (Int × Bool))) × (List (Int × (Int × Int))) × Int × List Int × Int × Int) Try.prog (made_sp N) made_B [made_l1_L N, made_l2_L N] [] (some made_rt) 400 false [.c [0], .c [1]] (stL made_st (((), words, turns, ()), ((b, b2, b3, ()), ()))) (stH made_st (((), words, turns, ()), ((b, b2, b3, ()), ()))) = made_S N words turns b b2 b3 := by kernel_rfl
noncomputable def sp_made (N : Nat) : Spec := { f := 36, ins := ⟨[.own 0 0, .i .i64, .i .i64], [.segs [.sl (.int .u8), .i .i64, .i .u32]]⟩, outs := [⟨[.agg [.sl (.pair (.int .i64) (.pair (.int .i64) .bool)), .sl (.pair (.int .i64) (.pair (.int .i64) (.int .i64))), .i .i64]], [.segs [.sl (.int .u8), .i .i64, .i .u32]]⟩], run := fun p k => (made_S N p.1.2.1 p.1.2.2.1 p.2.1.1 p.2.1.2.1 p.2.1.2.2.1).bind fun r => k (((r.1, r.2.1, r.2.2.1, ()), ()), ((r.2.2.2.1, r.2.2.2.2.1, r.2.2.2.2.2, ()), ())) }
theorem sp_made_ok (N : Nat) : SpecOK Try.prog (sp_made N) := fn_sound (B := made_B) (loops := [made_l1_L N, made_l2_L N]) (leaves := []) (fun p => made_S N p.1.2.1 p.1.2.2.1 p.2.1.1 p.2.1.2.1 p.2.1.2.2.1) (fun r => (((r.1, r.2.1, r.2.2.1, ()), ()), ((r.2.2.2.1, r.2.2.2.2.1, r.2.2.2.2.2, ()), ()))) made_rt (fun _ _ _ => rfl) (fun r z h => by cases h; rfl) Try.func36 (by kernel_rfl) (by kernel_rfl) (by kernel_rfl) rfl rfl (by kernel_rfl) (fun args w => Sem.pv_run _ _ _ (by kernel_rfl) w) (made_all N) mixed ⟨made_l1_ok N, made_l2_ok N, trivial⟩ (fun z E Xc hE hX hret => trivial) (fun p => made_eq N p.1.2.1 p.1.2.2.1 p.2.1.1 p.2.1.2.1 p.2.1.2.2.1)

def lsays1_S (N : Nat) (x : Int) (x2 : Int) (x3 : Int) (u : Int) (u2 : Int) : Option Bool :=
  br (decide (u ≤ x2))
    (br (decide (x3 < u2))
      (br (decide (x < u))
        (some true)
        (some (decide (u2 ≤ x))))
      (some false))
    (some false)
noncomputable def lsays1_sp (N : Nat) : List Spec := []
theorem lsays1_all (N : Nat) : AllP (SpecOK Try.prog) (lsays1_sp N) := trivial
noncomputable def lsays1_c : Code := (Try.f151.body).getD .skip
noncomputable abbrev lsays1_B : Body := { c := lsays1_c, n := 29, res := [.tmp 4], outs := [⟨[.b], []⟩], m0 := 0 }
abbrev lsays1_rt : altD lsays1_B.outs → Option Bool := fun r => some r.1.1
abbrev lsays1_st : Sta := ⟨[0, 1, 2], ⟨[.agg [.i .i64, .i .i64, .i .i64], .fe (.int .i64), .fe (.int .i64)], []⟩⟩
theorem lsays1_eq (N : Nat) (x : Int) (x2 : Int) (x3 : Int) (u : Int) (u2 : Int) : ev (Z := Bool) Try.prog (lsays1_sp N) lsays1_B [] [] (some lsays1_rt) 400 false [.c [0], .c [1]] (stL lsays1_st (((x, x2, x3, ()), u, u2, ()), ())) (stH lsays1_st (((x, x2, x3, ()), u, u2, ()), ())) = lsays1_S N x x2 x3 u u2 := by kernel_rfl
noncomputable def sp_lsays1 (N : Nat) : Spec := { f := 151, ins := ⟨[.agg [.i .i64, .i .i64, .i .i64], .fe (.int .i64), .fe (.int .i64)], []⟩, outs := [⟨[.b], []⟩], run := fun p k => (lsays1_S N p.1.1.1 p.1.1.2.1 p.1.1.2.2.1 p.1.2.1 p.1.2.2.1).bind fun r => k ((r, ()), ()) }
theorem sp_lsays1_ok (N : Nat) : SpecOK Try.prog (sp_lsays1 N) := fn_sound (B := lsays1_B) (loops := []) (leaves := []) (fun p => lsays1_S N p.1.1.1 p.1.1.2.1 p.1.1.2.2.1 p.1.2.1 p.1.2.2.1) (fun r => ((r, ()), ())) lsays1_rt (fun _ _ _ => rfl) (fun r z h => by cases h; rfl) Try.func151 (by kernel_rfl) (by kernel_rfl) (by kernel_rfl) rfl rfl (by kernel_rfl) (fun args w => Sem.pv_run _ _ _ (by kernel_rfl) w) (lsays1_all N) mixed trivial (fun z E Xc hE hX hret => trivial) (fun p => lsays1_eq N p.1.1.1 p.1.1.2.1 p.1.1.2.2.1 p.1.2.1 p.1.2.2.1)

def ixfls_l1 (N : Nat) : Nat → (List (Int × (Int × Int))) → Int → Int → Int → Int → Option ((Int) ⊕ (Unit))
  | 0, _, _, _, _, _ => none
  | n_ + 1, s, f, f2, u, u2 =>
    br (decide (u2 < u))
      (idx s u2 fun x_1 =>
      (lsays1_S N x_1.1 x_1.2.1 x_1.2.2 f f2).bind fun x_2 =>
      br x_2
        (some (.inl u2))
        (chk (u2 + 1) <|
        ixfls_l1 N n_ s f f2 u (u2 + 1)))
      (some (.inr ()))
def ixfls_S (N : Nat) (s : List (Int × (Int × Int))) (f : Int) (f2 : Int) : Option Int :=
  (ixfls_l1 N N s f f2 (s.length : Int) 0).bind fun e => match e with
  | .inl i_3 =>
    some i_3
  | .inr _ =>
    some (-1)
noncomputable def ixfls_sp (N : Nat) : List Spec := [sp_lsays1 N]
theorem ixfls_all (N : Nat) : AllP (SpecOK Try.prog) (ixfls_sp N) := ⟨sp_lsays1_ok N, trivial⟩
noncomputable def ixfls_c : Code := (Try.f134.body).getD .skip
noncomputable abbrev ixfls_B : Body := { c := ixfls_c, n := 19, res := [.tmp 4], outs := [⟨[.i .i64], []⟩], m0 := 0 }
abbrev ixfls_rt : altD ixfls_B.outs → Option Int := fun r => some r.1.1
abbrev ixfls_l1_at : List PI := [.c [1, 0, 1, 0, 0, 0], .c [1, 0, 1, 0, 0, 1], .l [1, 0, 1, 0, 0], .b 0, .c [1, 1]]
abbrev ixfls_l1_st : Sta := ⟨[0, 1, 7, 8], ⟨[.sl (.pair (.int .i64) (.pair (.int .i64) (.int .i64))), .fn 151 [] [.fe (.int .i64), .fe (.int .i64)], .i .i64, .i .i64], []⟩⟩
abbrev ixfls_l1_h (rec : (List (Int × (Int × Int))) → Int → Int → Int → Int → Option ((Int) ⊕ (Unit))) : Leaf ((Int) ⊕ (Unit)) := ⟨ixfls_l1_at, ixfls_l1_st, fun p => rec p.1.1 p.1.2.1.2.1 p.1.2.1.2.2.1 p.1.2.2.1 p.1.2.2.2.1⟩
abbrev ixfls_l1_e0 : Leaf ((Int) ⊕ (Unit)) := ⟨[.c [1, 0, 1, 0, 0, 1, 1, 0, 0, 1, 1, 0, 0], .c [1, 0, 1, 0, 0, 1, 1, 0, 0, 1, 1, 0, 1], .b 1, .c [1, 0, 1, 0, 0, 1, 1, 1], .l [1, 0, 1, 0, 0], .b 0, .c [1, 1]], ⟨[5], ⟨[.i .i64], []⟩⟩, fun p => some (.inl p.1.1)⟩
abbrev ixfls_l1_e1 : Leaf ((Int) ⊕ (Unit)) := ⟨[.c [1, 1, 0], .c [1, 1, 1]], ⟨[], ⟨[], []⟩⟩, fun p => some (.inr ())⟩
noncomputable def ixfls_l1_L (N : Nat) : LoopS := { at_ := ixfls_l1_at, sta := ixfls_l1_st, exits := [([.c [1, 0, 1, 0, 0, 1, 1, 0, 0, 1, 1, 0, 0], .c [1, 0, 1, 0, 0, 1, 1, 0, 0, 1, 1, 0, 1], .b 1, .c [1, 0, 1, 0, 0, 1, 1, 1], .l [1, 0, 1, 0, 0], .b 0, .c [1, 1]], ⟨[5], ⟨[.i .i64], []⟩⟩), ([.c [1, 1, 0], .c [1, 1, 1]], ⟨[], ⟨[], []⟩⟩)], run := fun p k => (ixfls_l1 N N p.1.1 p.1.2.1.2.1 p.1.2.1.2.2.1 p.1.2.2.1 p.1.2.2.2.1).bind fun e => match e with | .inl x => k (.inl ((x, ()), ())) | .inr x => k (.inr (.inl ((), ()))) }
theorem ixfls_l1_eq (N n_ : Nat) (s : List (Int × (Int × Int))) (f : Int) (f2 : Int) (u : Int) (u2 : Int) : ev (Z := (Int) ⊕ (Unit)) Try.prog (ixfls_sp N) ixfls_B [] [ixfls_l1_h (ixfls_l1 N n_), ixfls_l1_e0, ixfls_l1_e1] none 400 true ixfls_l1_at (stL ixfls_l1_st ((s, ((), (f, f2, ())), u, u2, ()), ())) (stH ixfls_l1_st ((s, ((), (f, f2, ())), u, u2, ()), ())) = ixfls_l1 N (n_ + 1) s f f2 u u2 := by kernel_rfl
theorem ixfls_l1_ok (N : Nat) {top : Bool} : LoopOK Try.prog ixfls_B.c ixfls_B.n ixfls_B.m0 top (ixfls_l1_L N) := loop_of_ev (Z := (Int) ⊕ (Unit)) (N := N) (fun m p => ixfls_l1 N m p.1.1 p.1.2.1.2.1 p.1.2.1.2.2.1 p.1.2.2.1 p.1.2.2.2.1) (fun e => match e with | .inl x => .inl ((x, ()), ()) | .inr x => .inr (.inl ((), ()))) (fun _ p k => bind_congr_ (ixfls_l1 N N p.1.1 p.1.2.1.2.1 p.1.2.1.2.2.1 p.1.2.2.1 p.1.2.2.2.1) _ _ (fun e => by rcases e with x | x <;> rfl)) (fun _ => rfl) (fun m z E Xc hE hX hrec hx => leaf_of_ev (B := ixfls_B) (loops := []) (leaves := [ixfls_l1_h (ixfls_l1 N m), ixfls_l1_e0, ixfls_l1_e1]) (ixfls_all N) mixed trivial hE hX ⟨hrec, (fun p hp => by obtain rfl := Option.some.inj hp; exact hx), (fun p hp => by obtain rfl := Option.some.inj hp; exact hx), trivial⟩ RetOK.no (fun p => ixfls_l1_eq N m p.1.1 p.1.2.1.2.1 p.1.2.1.2.2.1 p.1.2.2.1 p.1.2.2.2.1))
abbrev ixfls_st : Sta := ⟨[0, 1], ⟨[.sl (.pair (.int .i64) (.pair (.int .i64) (.int .i64))), .fn 151 [] [.fe (.int .i64), .fe (.int .i64)]], []⟩⟩
theorem ixfls_eq (N : Nat) (s : List (Int × (Int × Int))) (f : Int) (f2 : Int) : ev (Z := Int) Try.prog (ixfls_sp N) ixfls_B [ixfls_l1_L N] [] (some ixfls_rt) 400 false [.c [0], .c [1]] (stL ixfls_st ((s, ((), (f, f2, ())), ()), ())) (stH ixfls_st ((s, ((), (f, f2, ())), ()), ())) = ixfls_S N s f f2 := by kernel_rfl
noncomputable def sp_ixfls (N : Nat) : Spec := { f := 134, ins := ⟨[.sl (.pair (.int .i64) (.pair (.int .i64) (.int .i64))), .fn 151 [] [.fe (.int .i64), .fe (.int .i64)]], []⟩, outs := [⟨[.i .i64], []⟩], run := fun p k => (ixfls_S N p.1.1 p.1.2.1.2.1 p.1.2.1.2.2.1).bind fun r => k ((r, ()), ()) }
theorem sp_ixfls_ok (N : Nat) : SpecOK Try.prog (sp_ixfls N) := fn_sound (B := ixfls_B) (loops := [ixfls_l1_L N]) (leaves := []) (fun p => ixfls_S N p.1.1 p.1.2.1.2.1 p.1.2.1.2.2.1) (fun r => ((r, ()), ())) ixfls_rt (fun _ _ _ => rfl) (fun r z h => by cases h; rfl) Try.func134 (by kernel_rfl) (by kernel_rfl) (by kernel_rfl) rfl rfl (by kernel_rfl) (fun args w => Sem.pv_run _ _ _ (by kernel_rfl) w) (ixfls_all N) mixed ⟨ixfls_l1_ok N, trivial⟩ (fun z E Xc hE hX hret => trivial) (fun p => ixfls_eq N p.1.1 p.1.2.1.2.1 p.1.2.1.2.2.1)

def cofls_S (N : Nat) (s : List (Int × (Int × Int))) (f : Int) (f2 : Int) : Option Bool :=
  (ixfls_S N s f f2).bind fun x_1 =>
  some (decide (0 ≤ x_1))
noncomputable def cofls_sp (N : Nat) : List Spec := [sp_ixfls N]
theorem cofls_all (N : Nat) : AllP (SpecOK Try.prog) (cofls_sp N) := ⟨sp_ixfls_ok N, trivial⟩
noncomputable def cofls_c : Code := (Try.f75.body).getD .skip
noncomputable abbrev cofls_B : Body := { c := cofls_c, n := 9, res := [.tmp 4], outs := [⟨[.b], []⟩], m0 := 0 }
abbrev cofls_rt : altD cofls_B.outs → Option Bool := fun r => some r.1.1
abbrev cofls_st : Sta := ⟨[0, 1], ⟨[.sl (.pair (.int .i64) (.pair (.int .i64) (.int .i64))), .fn 151 [] [.fe (.int .i64), .fe (.int .i64)]], []⟩⟩
theorem cofls_eq (N : Nat) (s : List (Int × (Int × Int))) (f : Int) (f2 : Int) : ev (Z := Bool) Try.prog (cofls_sp N) cofls_B [] [] (some cofls_rt) 400 false [.c [0], .c [1]] (stL cofls_st ((s, ((), (f, f2, ())), ()), ())) (stH cofls_st ((s, ((), (f, f2, ())), ()), ())) = cofls_S N s f f2 := by kernel_rfl
noncomputable def sp_cofls (N : Nat) : Spec := { f := 75, ins := ⟨[.sl (.pair (.int .i64) (.pair (.int .i64) (.int .i64))), .fn 151 [] [.fe (.int .i64), .fe (.int .i64)]], []⟩, outs := [⟨[.b], []⟩], run := fun p k => (cofls_S N p.1.1 p.1.2.1.2.1 p.1.2.1.2.2.1).bind fun r => k ((r, ()), ()) }
theorem sp_cofls_ok (N : Nat) : SpecOK Try.prog (sp_cofls N) := fn_sound (B := cofls_B) (loops := []) (leaves := []) (fun p => cofls_S N p.1.1 p.1.2.1.2.1 p.1.2.1.2.2.1) (fun r => ((r, ()), ())) cofls_rt (fun _ _ _ => rfl) (fun r z h => by cases h; rfl) Try.func75 (by kernel_rfl) (by kernel_rfl) (by kernel_rfl) rfl rfl (by kernel_rfl) (fun args w => Sem.pv_run _ _ _ (by kernel_rfl) w) (cofls_all N) mixed trivial (fun z E Xc hE hX hret => trivial) (fun p => cofls_eq N p.1.1 p.1.2.1.2.1 p.1.2.1.2.2.1)

def lsays_S (N : Nat) (t : List (Int × (Int × Bool))) (t2 : List (Int × (Int × Int))) (t3 : Int) (from_ : Int) (to : Int) : Option Bool :=
  (cofls_S N t2 from_ to).bind fun x_1 =>
  some x_1
noncomputable def lsays_sp (N : Nat) : List Spec := [sp_cofls N]
theorem lsays_all (N : Nat) : AllP (SpecOK Try.prog) (lsays_sp N) := ⟨sp_cofls_ok N, trivial⟩
noncomputable def lsays_c : Code := (Try.f114.body).getD .skip
noncomputable abbrev lsays_B : Body := { c := lsays_c, n := 11, res := [.tmp 6], outs := [⟨[.b], []⟩], m0 := 0 }
abbrev lsays_rt : altD lsays_B.outs → Option Bool := fun r => some r.1.1
abbrev lsays_st : Sta := ⟨[0, 1, 2], ⟨[.agg [.sl (.pair (.int .i64) (.pair (.int .i64) .bool)), .sl (.pair (.int .i64) (.pair (.int .i64) (.int .i64))), .i .i64], .i .i64, .i .i64], []⟩⟩
theorem lsays_eq (N : Nat) (t : List (Int × (Int × Bool))) (t2 : List (Int × (Int × Int))) (t3 : Int) (from_ : Int) (to : Int) : ev (Z := Bool) Try.prog (lsays_sp N) lsays_B [] [] (some lsays_rt) 400 false [.c [0], .c [1]] (stL lsays_st (((t, t2, t3, ()), from_, to, ()), ())) (stH lsays_st (((t, t2, t3, ()), from_, to, ()), ())) = lsays_S N t t2 t3 from_ to := by kernel_rfl
noncomputable def sp_lsays (N : Nat) : Spec := { f := 114, ins := ⟨[.agg [.sl (.pair (.int .i64) (.pair (.int .i64) .bool)), .sl (.pair (.int .i64) (.pair (.int .i64) (.int .i64))), .i .i64], .i .i64, .i .i64], []⟩, outs := [⟨[.b], []⟩], run := fun p k => (lsays_S N p.1.1.1 p.1.1.2.1 p.1.1.2.2.1 p.1.2.1 p.1.2.2.1).bind fun r => k ((r, ()), ()) }
theorem sp_lsays_ok (N : Nat) : SpecOK Try.prog (sp_lsays N) := fn_sound (B := lsays_B) (loops := []) (leaves := []) (fun p => lsays_S N p.1.1.1 p.1.1.2.1 p.1.1.2.2.1 p.1.2.1 p.1.2.2.1) (fun r => ((r, ()), ())) lsays_rt (fun _ _ _ => rfl) (fun r z h => by cases h; rfl) Try.func114 (by kernel_rfl) (by kernel_rfl) (by kernel_rfl) rfl rfl (by kernel_rfl) (fun args w => Sem.pv_run _ _ _ (by kernel_rfl) w) (lsays_all N) mixed trivial (fun z E Xc hE hX hret => trivial) (fun p => lsays_eq N p.1.1.1 p.1.1.2.1 p.1.1.2.2.1 p.1.2.1 p.1.2.2.1)

def fits_l1 (N : Nat) : Nat → Int → Int → Int → (List (Int × (Int × Bool))) → Int → Int → (List (Int × (Int × Bool))) → (List (Int × (Int × Int))) → Int → Option (Int × Int × Int × (List (Int × (Int × Bool))) × (List (Int × (Int × Int))) × Int)
  | 0, _, _, _, _, _, _, _, _, _ => none
  | n_ + 1, from_, to, n, u, u2, u3, t, t2, t3 =>
    br (decide (u3 < u2))
      (idx u u3 fun x_1 =>
      chk (n + x_1.1) <|
      chk (u3 + 1) <|
      fits_l1 N n_ from_ to (n + x_1.1) u u2 (u3 + 1) t t2 t3)
      (some ((from_, to, n, t, t2, t3)))
def fits_S (N : Nat) (t : List (Int × (Int × Bool))) (t2 : List (Int × (Int × Int))) (t3 : Int) (from_ : Int) (to : Int) : Option Bool :=
  grd (decide ((0 : Int) ≤ from_ ∧ (from_ : Int) ≤ to ∧ to ≤ (t.length : Int))) <|
  (fits_l1 N N from_ to 0 ((t.take to.toNat).drop from_.toNat) (((t.take to.toNat).drop from_.toNat).length : Int) 0 t t2 t3).bind fun (from__2, to_3, n_4, t_5, t2_6, t3_7) =>
  br (decide (n_4 ≤ t3_7))
    (br (decide (from__2 = 0))
      (br (decide (to_3 = (t_5.length : Int)))
        ((lsays_S N t_5 t2_6 t3_7 from__2 to_3).bind fun x_8 =>
        some (!x_8))
        (chk (to_3 - 1) <|
        idx t_5 (to_3 - 1) fun x_9 =>
        br x_9.2.2
          ((lsays_S N t_5 t2_6 t3_7 from__2 to_3).bind fun x_10 =>
          some (!x_10))
          (some false)))
      (chk (from__2 - 1) <|
      idx t_5 (from__2 - 1) fun x_11 =>
      br x_11.2.2
        (br (decide (to_3 = (t_5.length : Int)))
          ((lsays_S N t_5 t2_6 t3_7 from__2 to_3).bind fun x_12 =>
          some (!x_12))
          (chk (to_3 - 1) <|
          idx t_5 (to_3 - 1) fun x_13 =>
          br x_13.2.2
            ((lsays_S N t_5 t2_6 t3_7 from__2 to_3).bind fun x_14 =>
            some (!x_14))
            (some false)))
        (some false)))
    (some false)
noncomputable def fits_sp (N : Nat) : List Spec := [sp_lsays N]
theorem fits_all (N : Nat) : AllP (SpecOK Try.prog) (fits_sp N) := ⟨sp_lsays_ok N, trivial⟩
noncomputable def fits_c : Code := (Try.f64.body).getD .skip
noncomputable abbrev fits_B : Body := { c := fits_c, n := 65, res := [.tmp 6], outs := [⟨[.b], []⟩], m0 := 0 }
abbrev fits_rt : altD fits_B.outs → Option Bool := fun r => some r.1.1
abbrev fits_l1_at : List PI := [.c [1, 1, 0, 1, 0, 0, 0], .c [1, 1, 0, 1, 0, 0, 1], .l [1, 1, 0, 1, 0, 0], .b 0, .c [1, 1, 1]]
abbrev fits_l1_st : Sta := ⟨[1, 2, 3, 7, 14, 15, 16], ⟨[.i .i64, .i .i64, .own 0 0, .i .i64, .sl (.pair (.int .i64) (.pair (.int .i64) .bool)), .i .i64, .i .i64], [.segs [.sl (.pair (.int .i64) (.pair (.int .i64) .bool)), .sl (.pair (.int .i64) (.pair (.int .i64) (.int .i64))), .i .i64]]⟩⟩
abbrev fits_l1_h (rec : Int → Int → Int → (List (Int × (Int × Bool))) → Int → Int → (List (Int × (Int × Bool))) → (List (Int × (Int × Int))) → Int → Option (Int × Int × Int × (List (Int × (Int × Bool))) × (List (Int × (Int × Int))) × Int)) : Leaf (Int × Int × Int × (List (Int × (Int × Bool))) × (List (Int × (Int × Int))) × Int) := ⟨fits_l1_at, fits_l1_st, fun p => rec p.1.1 p.1.2.1 p.1.2.2.2.1 p.1.2.2.2.2.1 p.1.2.2.2.2.2.1 p.1.2.2.2.2.2.2.1 p.2.1.1 p.2.1.2.1 p.2.1.2.2.1⟩
abbrev fits_l1_e0 : Leaf (Int × Int × Int × (List (Int × (Int × Bool))) × (List (Int × (Int × Int))) × Int) := ⟨[.c [1, 1, 1, 0], .c [1, 1, 1, 1]], ⟨[1, 2, 3, 7], ⟨[.i .i64, .i .i64, .own 0 0, .i .i64], [.segs [.sl (.pair (.int .i64) (.pair (.int .i64) .bool)), .sl (.pair (.int .i64) (.pair (.int .i64) (.int .i64))), .i .i64]]⟩⟩, fun p => some ((p.1.1, p.1.2.1, p.1.2.2.2.1, p.2.1.1, p.2.1.2.1, p.2.1.2.2.1))⟩
noncomputable def fits_l1_L (N : Nat) : LoopS := { at_ := fits_l1_at, sta := fits_l1_st, exits := [([.c [1, 1, 1, 0], .c [1, 1, 1, 1]], ⟨[1, 2, 3, 7], ⟨[.i .i64, .i .i64, .own 0 0, .i .i64], [.segs [.sl (.pair (.int .i64) (.pair (.int .i64) .bool)), .sl (.pair (.int .i64) (.pair (.int .i64) (.int .i64))), .i .i64]]⟩⟩)], run := fun p k => (fits_l1 N N p.1.1 p.1.2.1 p.1.2.2.2.1 p.1.2.2.2.2.1 p.1.2.2.2.2.2.1 p.1.2.2.2.2.2.2.1 p.2.1.1 p.2.1.2.1 p.2.1.2.2.1).bind fun e => k (.inl ((e.1, e.2.1, (), e.2.2.1, ()), ((e.2.2.2.1, e.2.2.2.2.1, e.2.2.2.2.2, ()), ()))) }
theorem fits_l1_eq (N n_ : Nat) (from_ : Int) (to : Int) (n : Int) (u : List (Int × (Int × Bool))) (u2 : Int) (u3 : Int) (t : List (Int × (Int × Bool))) (t2 : List (Int × (Int × Int))) (t3 : Int) : ev (Z := Int × Int × Int × (List (Int × (Int × Bool))) × (List (Int × (Int × Int))) × Int) Try.prog (fits_sp N) fits_B [] [fits_l1_h (fits_l1 N n_), fits_l1_e0] none 400 true fits_l1_at (stL fits_l1_st ((from_, to, (), n, u, u2, u3, ()), ((t, t2, t3, ()), ()))) (stH fits_l1_st ((from_, to, (), n, u, u2, u3, ()), ((t, t2, t3, ()), ()))) = fits_l1 N (n_ + 1) from_ to n u u2 u3 t t2 t3 := by kernel_rfl
theorem fits_l1_ok (N : Nat) {top : Bool} : LoopOK Try.prog fits_B.c fits_B.n fits_B.m0 top (fits_l1_L N) := loop_of_ev (Z := Int × Int × Int × (List (Int × (Int × Bool))) × (List (Int × (Int × Int))) × Int) (N := N) (fun m p => fits_l1 N m p.1.1 p.1.2.1 p.1.2.2.2.1 p.1.2.2.2.2.1 p.1.2.2.2.2.2.1 p.1.2.2.2.2.2.2.1 p.2.1.1 p.2.1.2.1 p.2.1.2.2.1) (fun e => .inl ((e.1, e.2.1, (), e.2.2.1, ()), ((e.2.2.2.1, e.2.2.2.2.1, e.2.2.2.2.2, ()), ()))) (fun _ _ _ => rfl) (fun _ => rfl) (fun m z E Xc hE hX hrec hx => leaf_of_ev (B := fits_B) (loops := []) (leaves := [fits_l1_h (fits_l1 N m), fits_l1_e0]) (fits_all N) mixed trivial hE hX ⟨hrec, (fun p hp => by obtain rfl := Option.some.inj hp; exact hx), trivial⟩ RetOK.no (fun p => fits_l1_eq N m p.1.1 p.1.2.1 p.1.2.2.2.1 p.1.2.2.2.2.1 p.1.2.2.2.2.2.1 p.1.2.2.2.2.2.2.1 p.2.1.1 p.2.1.2.1 p.2.1.2.2.1))
abbrev fits_st : Sta := ⟨[0, 1, 2], ⟨[.agg [.sl (.pair (.int .i64) (.pair (.int .i64) .bool)), .sl (.pair (.int .i64) (.pair (.int .i64) (.int .i64))), .i .i64], .i .i64, .i .i64], []⟩⟩
theorem fits_eq (N : Nat) (t : List (Int × (Int × Bool))) (t2 : List (Int × (Int × Int))) (t3 : Int) (from_ : Int) (to : Int) : ev (Z := Bool) Try.prog (fits_sp N) fits_B [fits_l1_L N] [] (some fits_rt) 400 false [.c [0], .c [1]] (stL fits_st (((t, t2, t3, ()), from_, to, ()), ())) (stH fits_st (((t, t2, t3, ()), from_, to, ()), ())) = fits_S N t t2 t3 from_ to := by kernel_rfl
noncomputable def sp_fits (N : Nat) : Spec := { f := 64, ins := ⟨[.agg [.sl (.pair (.int .i64) (.pair (.int .i64) .bool)), .sl (.pair (.int .i64) (.pair (.int .i64) (.int .i64))), .i .i64], .i .i64, .i .i64], []⟩, outs := [⟨[.b], []⟩], run := fun p k => (fits_S N p.1.1.1 p.1.1.2.1 p.1.1.2.2.1 p.1.2.1 p.1.2.2.1).bind fun r => k ((r, ()), ()) }
theorem sp_fits_ok (N : Nat) : SpecOK Try.prog (sp_fits N) := fn_sound (B := fits_B) (loops := [fits_l1_L N]) (leaves := []) (fun p => fits_S N p.1.1.1 p.1.1.2.1 p.1.1.2.2.1 p.1.2.1 p.1.2.2.1) (fun r => ((r, ()), ())) fits_rt (fun _ _ _ => rfl) (fun r z h => by cases h; rfl) Try.func64 (by kernel_rfl) (by kernel_rfl) (by kernel_rfl) rfl rfl (by kernel_rfl) (fun args w => Sem.pv_run _ _ _ (by kernel_rfl) w) (fits_all N) mixed ⟨fits_l1_ok N, trivial⟩ (fun z E Xc hE hX hret => trivial) (fun p => fits_eq N p.1.1.1 p.1.1.2.1 p.1.1.2.2.1 p.1.2.1 p.1.2.2.1)

def places_l1 (N : Nat) : Nat → (List Int) → Int → Int → (List (Int × (Int × Bool))) → (List (Int × (Int × Int))) → Int → (List Int) → Option ((Unit) ⊕ ((List (Int × (Int × Bool))) × (List (Int × (Int × Int))) × Int × List Int))
  | 0, _, _, _, _, _, _, _ => none
  | n_ + 1, u, u2, u3, t, t2, t3, out =>
    br (decide (u3 < u2))
      (idx u u3 fun x_1 =>
      chk ((out.length : Int) - 1) <|
      rng ((out.length : Int) - 1) out.length <|
      get out (((out.length : Int) - 1).toNat) fun x_2 =>
      br (decide (x_1 < 1))
        (some (.inl ()))
        (chk ((t.length : Int) - x_2) <|
        br (decide (((t.length : Int) - x_2) < x_1))
          (some (.inl ()))
          (chk ((out.length : Int) - 1) <|
          rng ((out.length : Int) - 1) out.length <|
          get out (((out.length : Int) - 1).toNat) fun x_3 =>
          chk (x_3 + x_1) <|
          lim (out.length + [(x_3 + x_1)].length) <|
          chk (u3 + 1) <|
          places_l1 N n_ u u2 (u3 + 1) t t2 t3 (out ++ [(x_3 + x_1)]))))
      (some (.inr (t, t2, t3, out)))
def places_S (N : Nat) (t : List (Int × (Int × Bool))) (t2 : List (Int × (Int × Int))) (t3 : Int) (l : List Int) : Option (List Int) :=
  (places_l1 N N l (l.length : Int) 0 t t2 t3 [0]).bind fun e => match e with
  | .inl _ =>
    some []
  | .inr (t_4, t2_5, t3_6, out_7) =>
    chk ((out_7.length : Int) - 1) <|
    rng ((out_7.length : Int) - 1) out_7.length <|
    get out_7 (((out_7.length : Int) - 1).toNat) fun x_8 =>
    br (!decide (x_8 = (t_4.length : Int)))
      (some [])
      (some out_7)
noncomputable def places_sp (N : Nat) : List Spec := []
theorem places_all (N : Nat) : AllP (SpecOK Try.prog) (places_sp N) := trivial
noncomputable def places_c : Code := (Try.f39.body).getD .skip
noncomputable abbrev places_B : Body := { c := places_c, n := 56, res := [.tmp 4], outs := [⟨[.sl (.int .i64)], []⟩], m0 := 0 }
abbrev places_rt : altD places_B.outs → Option (List Int) := fun r => some r.1.1
abbrev places_l1_at : List PI := [.c [1, 1, 0, 1, 0, 0, 0], .c [1, 1, 0, 1, 0, 0, 1], .l [1, 1, 0, 1, 0, 0], .b 0, .c [1, 1, 1]]
abbrev places_l1_st : Sta := ⟨[2, 5, 10, 11, 12], ⟨[.own 0 0, .ols 1, .sl (.int .i64), .i .i64, .i .i64], [.segs [.sl (.pair (.int .i64) (.pair (.int .i64) .bool)), .sl (.pair (.int .i64) (.pair (.int .i64) (.int .i64))), .i .i64], .lst (.int .i64)]⟩⟩
abbrev places_l1_h (rec : (List Int) → Int → Int → (List (Int × (Int × Bool))) → (List (Int × (Int × Int))) → Int → (List Int) → Option ((Unit) ⊕ ((List (Int × (Int × Bool))) × (List (Int × (Int × Int))) × Int × List Int))) : Leaf ((Unit) ⊕ ((List (Int × (Int × Bool))) × (List (Int × (Int × Int))) × Int × List Int)) := ⟨places_l1_at, places_l1_st, fun p => rec p.1.2.2.1 p.1.2.2.2.1 p.1.2.2.2.2.1 p.2.1.1 p.2.1.2.1 p.2.1.2.2.1 p.2.2.1⟩
abbrev places_l1_e0 : Leaf ((Unit) ⊕ ((List (Int × (Int × Bool))) × (List (Int × (Int × Int))) × Int × List Int)) := ⟨[.c [1, 1, 0, 1, 0, 0, 1, 1, 0, 0, 1, 0, 1, 1, 0, 0], .c [1, 1, 0, 1, 0, 0, 1, 1, 0, 0, 1, 0, 1, 1, 0, 1], .c [1, 1, 0, 1, 0, 0, 1, 1, 0, 0, 1, 1], .b 1, .c [1, 1, 0, 1, 0, 0, 1, 1, 1], .l [1, 1, 0, 1, 0, 0], .b 0, .c [1, 1, 1]], ⟨[], ⟨[], []⟩⟩, fun p => some (.inl ())⟩
abbrev places_l1_e1 : Leaf ((Unit) ⊕ ((List (Int × (Int × Bool))) × (List (Int × (Int × Int))) × Int × List Int)) := ⟨[.c [1, 1, 1, 0, 0], .c [1, 1, 1, 0, 1], .c [1, 1, 1, 1]], ⟨[2, 5], ⟨[.own 0 0, .ols 1], [.segs [.sl (.pair (.int .i64) (.pair (.int .i64) .bool)), .sl (.pair (.int .i64) (.pair (.int .i64) (.int .i64))), .i .i64], .lst (.int .i64)]⟩⟩, fun p => some (.inr (p.2.1.1, p.2.1.2.1, p.2.1.2.2.1, p.2.2.1))⟩
noncomputable def places_l1_L (N : Nat) : LoopS := { at_ := places_l1_at, sta := places_l1_st, exits := [([.c [1, 1, 0, 1, 0, 0, 1, 1, 0, 0, 1, 0, 1, 1, 0, 0], .c [1, 1, 0, 1, 0, 0, 1, 1, 0, 0, 1, 0, 1, 1, 0, 1], .c [1, 1, 0, 1, 0, 0, 1, 1, 0, 0, 1, 1], .b 1, .c [1, 1, 0, 1, 0, 0, 1, 1, 1], .l [1, 1, 0, 1, 0, 0], .b 0, .c [1, 1, 1]], ⟨[], ⟨[], []⟩⟩), ([.c [1, 1, 1, 0, 0], .c [1, 1, 1, 0, 1], .c [1, 1, 1, 1]], ⟨[2, 5], ⟨[.own 0 0, .ols 1], [.segs [.sl (.pair (.int .i64) (.pair (.int .i64) .bool)), .sl (.pair (.int .i64) (.pair (.int .i64) (.int .i64))), .i .i64], .lst (.int .i64)]⟩⟩)], run := fun p k => (places_l1 N N p.1.2.2.1 p.1.2.2.2.1 p.1.2.2.2.2.1 p.2.1.1 p.2.1.2.1 p.2.1.2.2.1 p.2.2.1).bind fun e => match e with | .inl x => k (.inl ((), ())) | .inr x => k (.inr (.inl (((), (), ()), ((x.1, x.2.1, x.2.2.1, ()), x.2.2.2, ())))) }
theorem places_l1_eq (N n_ : Nat) (u : List Int) (u2 : Int) (u3 : Int) (t : List (Int × (Int × Bool))) (t2 : List (Int × (Int × Int))) (t3 : Int) (out : List Int) : ev (Z := (Unit) ⊕ ((List (Int × (Int × Bool))) × (List (Int × (Int × Int))) × Int × List Int)) Try.prog (places_sp N) places_B [] [places_l1_h (places_l1 N n_), places_l1_e0, places_l1_e1] none 400 true places_l1_at (stL places_l1_st (((), (), u, u2, u3, ()), ((t, t2, t3, ()), out, ()))) (stH places_l1_st (((), (), u, u2, u3, ()), ((t, t2, t3, ()), out, ()))) = places_l1 N (n_ + 1) u u2 u3 t t2 t3 out := by kernel_rfl
theorem places_l1_ok (N : Nat) {top : Bool} : LoopOK Try.prog places_B.c places_B.n places_B.m0 top (places_l1_L N) := loop_of_ev (Z := (Unit) ⊕ ((List (Int × (Int × Bool))) × (List (Int × (Int × Int))) × Int × List Int)) (N := N) (fun m p => places_l1 N m p.1.2.2.1 p.1.2.2.2.1 p.1.2.2.2.2.1 p.2.1.1 p.2.1.2.1 p.2.1.2.2.1 p.2.2.1) (fun e => match e with | .inl x => .inl ((), ()) | .inr x => .inr (.inl (((), (), ()), ((x.1, x.2.1, x.2.2.1, ()), x.2.2.2, ())))) (fun _ p k => bind_congr_ (places_l1 N N p.1.2.2.1 p.1.2.2.2.1 p.1.2.2.2.2.1 p.2.1.1 p.2.1.2.1 p.2.1.2.2.1 p.2.2.1) _ _ (fun e => by rcases e with x | x <;> rfl)) (fun _ => rfl) (fun m z E Xc hE hX hrec hx => leaf_of_ev (B := places_B) (loops := []) (leaves := [places_l1_h (places_l1 N m), places_l1_e0, places_l1_e1]) (places_all N) mixed trivial hE hX ⟨hrec, (fun p hp => by obtain rfl := Option.some.inj hp; exact hx), (fun p hp => by obtain rfl := Option.some.inj hp; exact hx), trivial⟩ RetOK.no (fun p => places_l1_eq N m p.1.2.2.1 p.1.2.2.2.1 p.1.2.2.2.2.1 p.2.1.1 p.2.1.2.1 p.2.1.2.2.1 p.2.2.1))
abbrev places_st : Sta := ⟨[0, 1], ⟨[.agg [.sl (.pair (.int .i64) (.pair (.int .i64) .bool)), .sl (.pair (.int .i64) (.pair (.int .i64) (.int .i64))), .i .i64], .sl (.int .i64)], []⟩⟩
theorem places_eq (N : Nat) (t : List (Int × (Int × Bool))) (t2 : List (Int × (Int × Int))) (t3 : Int) (l : List Int) : ev (Z := List Int) Try.prog (places_sp N) places_B [places_l1_L N] [] (some places_rt) 400 false [.c [0], .c [1]] (stL places_st (((t, t2, t3, ()), l, ()), ())) (stH places_st (((t, t2, t3, ()), l, ()), ())) = places_S N t t2 t3 l := by kernel_rfl
noncomputable def sp_places (N : Nat) : Spec := { f := 39, ins := ⟨[.agg [.sl (.pair (.int .i64) (.pair (.int .i64) .bool)), .sl (.pair (.int .i64) (.pair (.int .i64) (.int .i64))), .i .i64], .sl (.int .i64)], []⟩, outs := [⟨[.sl (.int .i64)], []⟩], run := fun p k => (places_S N p.1.1.1 p.1.1.2.1 p.1.1.2.2.1 p.1.2.1).bind fun r => k ((r, ()), ()) }
theorem sp_places_ok (N : Nat) : SpecOK Try.prog (sp_places N) := fn_sound (B := places_B) (loops := [places_l1_L N]) (leaves := []) (fun p => places_S N p.1.1.1 p.1.1.2.1 p.1.1.2.2.1 p.1.2.1) (fun r => ((r, ()), ())) places_rt (fun _ _ _ => rfl) (fun r z h => by cases h; rfl) Try.func39 (by kernel_rfl) (by kernel_rfl) (by kernel_rfl) rfl rfl (by kernel_rfl) (fun args w => Sem.pv_run _ _ _ (by kernel_rfl) w) (places_all N) mixed ⟨places_l1_ok N, trivial⟩ (fun z E Xc hE hX hret => trivial) (fun p => places_eq N p.1.1.1 p.1.1.2.1 p.1.1.2.2.1 p.1.2.1)

def sound_l1 (N : Nat) : Nat → (List Int) → Int → Int → (List (Int × (Int × Bool))) → (List (Int × (Int × Int))) → Int → Option ((Unit) ⊕ (List Int))
  | 0, _, _, _, _, _, _ => none
  | n_ + 1, p, u, u2, t, t2, t3 =>
    br (decide (u2 < u))
      (idx p u2 fun x_2 =>
      chk (u2 + 1) <|
      idx p (u2 + 1) fun x_3 =>
      (fits_S N t t2 t3 x_2 x_3).bind fun x_4 =>
      br (!x_4)
        (some (.inl ()))
        (chk (u2 + 1) <|
        sound_l1 N n_ p u (u2 + 1) t t2 t3))
      (some (.inr p))
def sound_S (N : Nat) (t : List (Int × (Int × Bool))) (t2 : List (Int × (Int × Int))) (t3 : Int) (l : List Int) : Option Bool :=
  (places_S N t t2 t3 l).bind fun x_1 =>
  chk ((x_1.length : Int) - 1) <|
  grd (decide ((0 : Int) ≤ (max 0 ((x_1.length : Int) - 1)) ∧ (max 0 ((x_1.length : Int) - 1)) ≤ (x_1.length : Int))) <|
  (sound_l1 N N x_1 ((x_1.take ((max 0 ((x_1.length : Int) - 1)).toNat)).length : Int) 0 t t2 t3).bind fun e => match e with
  | .inl _ =>
    some false
  | .inr p_5 =>
    some (decide (1 < (p_5.length : Int)))
noncomputable def sound_sp (N : Nat) : List Spec := [sp_fits N, sp_places N]
theorem sound_all (N : Nat) : AllP (SpecOK Try.prog) (sound_sp N) := ⟨sp_fits_ok N, sp_places_ok N, trivial⟩
noncomputable def sound_c : Code := (Try.f38.body).getD .skip
noncomputable abbrev sound_B : Body := { c := sound_c, n := 36, res := [.tmp 4], outs := [⟨[.b], []⟩], m0 := 0 }
abbrev sound_rt : altD sound_B.outs → Option Bool := fun r => some r.1.1
abbrev sound_l1_at : List PI := [.c [1, 1, 0, 1, 0, 0, 0], .c [1, 1, 0, 1, 0, 0, 1], .l [1, 1, 0, 1, 0, 0], .b 0, .c [1, 1, 1]]
abbrev sound_l1_st : Sta := ⟨[2, 5, 16, 17], ⟨[.own 0 0, .sl (.int .i64), .i .i64, .i .i64], [.segs [.sl (.pair (.int .i64) (.pair (.int .i64) .bool)), .sl (.pair (.int .i64) (.pair (.int .i64) (.int .i64))), .i .i64]]⟩⟩
abbrev sound_l1_h (rec : (List Int) → Int → Int → (List (Int × (Int × Bool))) → (List (Int × (Int × Int))) → Int → Option ((Unit) ⊕ (List Int))) : Leaf ((Unit) ⊕ (List Int)) := ⟨sound_l1_at, sound_l1_st, fun p => rec p.1.2.1 p.1.2.2.1 p.1.2.2.2.1 p.2.1.1 p.2.1.2.1 p.2.1.2.2.1⟩
abbrev sound_l1_e0 : Leaf ((Unit) ⊕ (List Int)) := ⟨[.c [1, 1, 0, 1, 0, 0, 1, 1, 0, 0, 1, 1, 0, 0], .c [1, 1, 0, 1, 0, 0, 1, 1, 0, 0, 1, 1, 0, 1], .b 1, .c [1, 1, 0, 1, 0, 0, 1, 1, 1], .l [1, 1, 0, 1, 0, 0], .b 0, .c [1, 1, 1]], ⟨[], ⟨[], []⟩⟩, fun p => some (.inl ())⟩
abbrev sound_l1_e1 : Leaf ((Unit) ⊕ (List Int)) := ⟨[.c [1, 1, 1, 0], .c [1, 1, 1, 1]], ⟨[5], ⟨[.sl (.int .i64)], []⟩⟩, fun p => some (.inr p.1.1)⟩
noncomputable def sound_l1_L (N : Nat) : LoopS := { at_ := sound_l1_at, sta := sound_l1_st, exits := [([.c [1, 1, 0, 1, 0, 0, 1, 1, 0, 0, 1, 1, 0, 0], .c [1, 1, 0, 1, 0, 0, 1, 1, 0, 0, 1, 1, 0, 1], .b 1, .c [1, 1, 0, 1, 0, 0, 1, 1, 1], .l [1, 1, 0, 1, 0, 0], .b 0, .c [1, 1, 1]], ⟨[], ⟨[], []⟩⟩), ([.c [1, 1, 1, 0], .c [1, 1, 1, 1]], ⟨[5], ⟨[.sl (.int .i64)], []⟩⟩)], run := fun p k => (sound_l1 N N p.1.2.1 p.1.2.2.1 p.1.2.2.2.1 p.2.1.1 p.2.1.2.1 p.2.1.2.2.1).bind fun e => match e with | .inl x => k (.inl ((), ())) | .inr x => k (.inr (.inl ((x, ()), ()))) }
theorem sound_l1_eq (N n_ : Nat) (p : List Int) (u : Int) (u2 : Int) (t : List (Int × (Int × Bool))) (t2 : List (Int × (Int × Int))) (t3 : Int) : ev (Z := (Unit) ⊕ (List Int)) Try.prog (sound_sp N) sound_B [] [sound_l1_h (sound_l1 N n_), sound_l1_e0, sound_l1_e1] none 400 true sound_l1_at (stL sound_l1_st (((), p, u, u2, ()), ((t, t2, t3, ()), ()))) (stH sound_l1_st (((), p, u, u2, ()), ((t, t2, t3, ()), ()))) = sound_l1 N (n_ + 1) p u u2 t t2 t3 := by kernel_rfl
theorem sound_l1_ok (N : Nat) {top : Bool} : LoopOK Try.prog sound_B.c sound_B.n sound_B.m0 top (sound_l1_L N) := loop_of_ev (Z := (Unit) ⊕ (List Int)) (N := N) (fun m p => sound_l1 N m p.1.2.1 p.1.2.2.1 p.1.2.2.2.1 p.2.1.1 p.2.1.2.1 p.2.1.2.2.1) (fun e => match e with | .inl x => .inl ((), ()) | .inr x => .inr (.inl ((x, ()), ()))) (fun _ p k => bind_congr_ (sound_l1 N N p.1.2.1 p.1.2.2.1 p.1.2.2.2.1 p.2.1.1 p.2.1.2.1 p.2.1.2.2.1) _ _ (fun e => by rcases e with x | x <;> rfl)) (fun _ => rfl) (fun m z E Xc hE hX hrec hx => leaf_of_ev (B := sound_B) (loops := []) (leaves := [sound_l1_h (sound_l1 N m), sound_l1_e0, sound_l1_e1]) (sound_all N) mixed trivial hE hX ⟨hrec, (fun p hp => by obtain rfl := Option.some.inj hp; exact hx), (fun p hp => by obtain rfl := Option.some.inj hp; exact hx), trivial⟩ RetOK.no (fun p => sound_l1_eq N m p.1.2.1 p.1.2.2.1 p.1.2.2.2.1 p.2.1.1 p.2.1.2.1 p.2.1.2.2.1))
abbrev sound_st : Sta := ⟨[0, 1], ⟨[.agg [.sl (.pair (.int .i64) (.pair (.int .i64) .bool)), .sl (.pair (.int .i64) (.pair (.int .i64) (.int .i64))), .i .i64], .sl (.int .i64)], []⟩⟩
theorem sound_eq (N : Nat) (t : List (Int × (Int × Bool))) (t2 : List (Int × (Int × Int))) (t3 : Int) (l : List Int) : ev (Z := Bool) Try.prog (sound_sp N) sound_B [sound_l1_L N] [] (some sound_rt) 400 false [.c [0], .c [1]] (stL sound_st (((t, t2, t3, ()), l, ()), ())) (stH sound_st (((t, t2, t3, ()), l, ()), ())) = sound_S N t t2 t3 l := by kernel_rfl
noncomputable def sp_sound (N : Nat) : Spec := { f := 38, ins := ⟨[.agg [.sl (.pair (.int .i64) (.pair (.int .i64) .bool)), .sl (.pair (.int .i64) (.pair (.int .i64) (.int .i64))), .i .i64], .sl (.int .i64)], []⟩, outs := [⟨[.b], []⟩], run := fun p k => (sound_S N p.1.1.1 p.1.1.2.1 p.1.1.2.2.1 p.1.2.1).bind fun r => k ((r, ()), ()) }
theorem sp_sound_ok (N : Nat) : SpecOK Try.prog (sp_sound N) := fn_sound (B := sound_B) (loops := [sound_l1_L N]) (leaves := []) (fun p => sound_S N p.1.1.1 p.1.1.2.1 p.1.1.2.2.1 p.1.2.1) (fun r => ((r, ()), ())) sound_rt (fun _ _ _ => rfl) (fun r z h => by cases h; rfl) Try.func38 (by kernel_rfl) (by kernel_rfl) (by kernel_rfl) rfl rfl (by kernel_rfl) (fun args w => Sem.pv_run _ _ _ (by kernel_rfl) w) (sound_all N) mixed ⟨sound_l1_ok N, trivial⟩ (fun z E Xc hE hX hret => trivial) (fun p => sound_eq N p.1.1.1 p.1.1.2.1 p.1.1.2.2.1 p.1.2.1)

end Go.Proofs.Ytfamlpbdhhikdaa

namespace Go.Proofs.Ytfamlpbdhhikdaa
set_option linter.all false
open Go

end Go.Proofs.Ytfamlpbdhhikdaa

namespace Go.Proofs.Ytfamlpbdhhikdaa
set_option linter.all false
open Go

section
variable {R : Nat → Nat → Bool} {m : Nat}
end
/-! ### The program of the reference -/
section
variable {N : Nat} (hN : 110 ≤ N)
include hN
end
section
variable {ws : List Wd} {ts : List Tn} {br_ : Int}
variable {N : Nat} (hN : 1030 ≤ N)
include hN
end
/-! ### The fewest breaths -/
section
variable {N : Nat} {l : List (List Int)} (hl : l.length ≤ 100000) (h1 : ∀ x ∈ l, 1 ≤ x.length)
include hl h1
end
end Go.Proofs.Ytfamlpbdhhikdaa

namespace Go.Proofs.Ytfamlpbdhhikdaa
set_option linter.all false
open Go

section
variable {N : Nat} {l : List (List Int)} {ws : List Wd} {ts : List Tn} {br_ : Int} {O : List Int}
end
section
variable {R : Nat → Nat → Bool} {m : Nat}
end
section
variable {N : Nat} {ws : List Wd} {ts : List Tn} {br_ : Int} (hF : TFine ws ts br_) (hN : 1030 ≤ N) (hm : ws.length ≤ 10)
include hF hm hN
end
end Go.Proofs.Ytfamlpbdhhikdaa

namespace Go.Proofs.Ytfamlpbdhhikdaa
set_option linter.all false
open Go

section
variable {ws : List Wd} {ts : List Tn} {br_ : Int}
variable {N : Nat} (hN : 110 ≤ N) (hF : TFine ws ts br_)
include hN hF
end
/-! ### Sure readings -/
section
variable {ws : List Wd} {ts : List Tn} {br_ : Int} {N : Nat} (hN : 110 ≤ N) (hF : TFine ws ts br_)
include hN hF
end
/-! ### No run of a sure reading says a turn otherwise -/
section
variable {ws : List Wd} {ts : List Tn} {br_ : Int}
end
end Go.Proofs.Ytfamlpbdhhikdaa

namespace Go.Proofs.Ytfamlpbdhhikdaa
set_option linter.all false
open Go

section
variable {N : Nat} {ws : List Wd} {ts : List Tn} {br_ : Int} (hN : 110 ≤ N) (hF : TFine ws ts br_)
include hN hF
end
section
variable {N : Nat} {ws : List Wd} {ts : List Tn} {br_ : Int} (hF : TFine ws ts br_) (hN : 1030 ≤ N) (hm : ws.length ≤ 10)
include hF hm hN
end
end Go.Proofs.Ytfamlpbdhhikdaa

namespace Go.Proofs.Ytfamlpbdhhikdaa
set_option linter.all false
open Go

/-! ### Bells -/
theorem wrap32 (x : Int) : 0 ≤ IntKind.u32.wrap x ∧ IntKind.u32.wrap x < 4294967296 := by
  have := wrap_inR .u32 x
  have h1 : IntKind.u32.min = 0 := by decide
  have h2 : IntKind.u32.max = 4294967295 := by decide
  unfold inR at this
  rw [h1, h2] at this
  omega
def Bell (b : List Int) (b2 : Int) : Prop := b.length ≤ 9223372036854775807 ∧ 0 ≤ b2 ∧ b2 ≤ b.length
abbrev BellR (b : List Int) (r : List Int × Int × Int) : Prop := r.1 = b ∧ Bell b r.2.1
theorem and_small (n : Nat) : 0 ≤ IntKind.i64.wrap ((n &&& 65535 : Nat) : Int) ∧ IntKind.i64.wrap ((n &&& 65535 : Nat) : Int) ≤ 65535 := by
  have : n &&& 65535 ≤ 65535 := Nat.and_le_right
  rw [wrap64 (by omega)]
  omega
theorem fdiv_nonneg {x : Int} (h : 0 ≤ x) : 0 ≤ Int.fdiv x (2 ^ 7) := by
  rw [Int.fdiv_eq_ediv_of_nonneg _ (by decide)]
  exact Int.ediv_nonneg h (by decide)
theorem ring_j1_ok (N : Nat) {b : List Int} {b2 b3 : Int} (hb : b.length ≤ 9223372036854775807) (h0 : 0 ≤ b2) (h1 : b2 < b.length ∨ b.length = 0 ∧ b2 = 0) : Ok (ring_j1 N b b2 b3) fun r => (0 ≤ r.1 ∧ r.1 ≤ 65535) ∧ BellR b r.2 := by
  unfold ring_j1
  refine Ok.brd (fun h => ?_) (fun h => ?_)
  · refine Ok.idx h0 (by omega) (fun a _ _ => Ok.chk (by omega) (Ok.grd ?_ (Ok.grd ?_ (Ok.some ?_))))
    · simp only [decide_eq_true_eq]; exact ⟨(wrap32 _).1, fdiv_nonneg (wrap32 _).1⟩
    · simp only [decide_eq_true_eq]; exact ⟨Int.natCast_nonneg _, by decide⟩
    · exact ⟨and_small _, rfl, hb, by dsimp only; omega, by dsimp only; omega⟩
  · refine Ok.grd ?_ (Ok.grd ?_ (Ok.some ?_))
    · simp only [decide_eq_true_eq]; exact ⟨(wrap32 _).1, fdiv_nonneg (wrap32 _).1⟩
    · simp only [decide_eq_true_eq]; exact ⟨Int.natCast_nonneg _, by decide⟩
    · exact ⟨and_small _, rfl, hb, by dsimp only; omega, by dsimp only; omega⟩
theorem ring_ok (N : Nat) {b : List Int} {b2 b3 : Int} (hb : Bell b b2) : Ok (ring_S N b b2 b3) fun r => (0 ≤ r.1 ∧ r.1 ≤ 65535) ∧ BellR b r.2 := by
  obtain ⟨h1, h2, h3⟩ := hb
  unfold ring_S
  refine Ok.brd (fun h => ring_j1_ok N h1 (by omega) (by omega)) (fun h => ring_j1_ok N h1 h2 (by omega))
theorem stroke_ok (N : Nat) {n : Int} {b : List Int} {b2 b3 : Int} (hb : Bell b b2) (hn : -1000000 ≤ n ∧ n ≤ 1000000) : Ok (stroke_S N n b b2 b3) fun r => (0 ≤ r.1 ∧ r.1 ≤ max 0 n) ∧ BellR b r.2 := by
  unfold stroke_S
  refine Ok.bind (ring_ok N hb) (fun r hr => ?_)
  obtain ⟨x, c, c2, c3⟩ := r
  refine Ok.chk (by omega) (Ok.grd (by simp only [Bool.not_eq_true', decide_eq_false_iff_not]; omega) (Ok.some ⟨?_, hr.2⟩))
  obtain ⟨⟨h1, h2⟩, _⟩ := hr
  dsimp only at *
  have hm : 0 < max 1 (n + 1) := by omega
  have := Int.tmod_lt_of_pos x hm
  have := Int.tmod_nonneg (max 1 (n + 1)) h1
  omega
theorem strike_ok (N : Nat) {lo hi : Int} {b : List Int} {b2 b3 : Int} (hb : Bell b b2) (hn : (-1000 ≤ lo ∧ lo ≤ 1000) ∧ -1000 ≤ hi ∧ hi ≤ 1000) : Ok (strike_S N lo hi b b2 b3) fun r => (lo ≤ r.1 ∧ r.1 ≤ max lo hi) ∧ BellR b r.2 := by
  unfold strike_S
  refine Ok.chk (by omega) (Ok.bind (stroke_ok N hb (by omega)) (fun r hr => ?_))
  obtain ⟨x, c, c2, c3⟩ := r
  obtain ⟨h, h2⟩ := hr
  dsimp only at *
  refine Ok.chk (by omega) (Ok.some ⟨by dsimp only; omega, h2⟩)
theorem seldom_ok (N : Nat) {n : Int} {b : List Int} {b2 b3 : Int} (hb : Bell b b2) (hn : -1000 ≤ n ∧ n ≤ 1000) : Ok (seldom_S N n b b2 b3) fun r => BellR b r.2 := by
  unfold seldom_S
  refine Ok.chk (by omega) (Ok.bind (stroke_ok N hb (by omega)) (fun r hr => ?_))
  obtain ⟨x, c, c2, c3⟩ := r
  exact Ok.some hr.2

/-! ### Texts that are made -/
theorem checkT_of {ws : List Wd} {ts : List Tn} {br_ : Int} (h : TFine ws ts br_) : checkT ws ts br_ = 0 := by
  have h1 := h.n0; have h2 := h.n; have h3 := h.t; have h4 := h.b0; have h5 := h.b1
  have e1 : ws.all okw = true := by
    rw [List.all_eq_true]
    intro w hw
    have := h.w w hw
    simp [okw]; omega
  have e2 : ts.all (ok2 ws.length) = true := by
    rw [List.all_eq_true]
    intro x hx
    have := h.x x hx
    simp only [ok2, inT, Bool.and_eq_true, decide_eq_true_eq]; omega
  have e3 : ts.all ok3 = true := by
    rw [List.all_eq_true]
    intro x hx
    have := h.x x hx
    simp only [ok3, decide_eq_true_eq]; omega
  have e4 : ts.all ok4 = true := by
    rw [List.all_eq_true]
    intro x hx
    have := h.x x hx
    simp only [ok4, Bool.not_eq_true', decide_eq_false_iff_not]; omega
  unfold checkT
  rw [if_neg (by omega), if_neg (by omega), if_neg (by omega), if_neg (by simp [e1]), if_neg (by simp [e2]), if_neg (by simp [e3]), if_neg (by simp [e4])]
abbrev BelR (b : List Int) (c : List Int) (c2 : Int) : Prop := c = b ∧ Bell b c2
def okWd (w : Wd) : Prop := (1 ≤ w.1 ∧ w.1 ≤ 9) ∧ 0 ≤ w.2.1 ∧ w.2.1 ≤ 20
def okTn (m : Nat) (x : Tn) : Prop := (0 ≤ x.1 ∧ x.1 < m) ∧ (0 ≤ x.2.1 ∧ x.2.1 < m) ∧ (0 ≤ x.2.2 ∧ x.2.2 < m) ∧ x.2.1 ≤ x.2.2 ∧ ¬ (x.2.1 ≤ x.1 ∧ x.1 ≤ x.2.2)
section
variable {N : Nat} {b : List Int}
theorem made_l1_p {turns u g t : Int} (hu : 0 ≤ u ∧ u ≤ 100) : ∀ (n k : Nat) (b2 b3 : Int) (W : List Wd), u < n + k → (k : Int) ≤ u → Bell b b2 → W.length = k → (∀ w ∈ W, okWd w) →
    Ok (made_l1 N n turns u k b b2 b3 g t W) fun z => z.1 = turns ∧ BelR b z.2.1 z.2.2.1 ∧ z.2.2.2.2.1 = g ∧ z.2.2.2.2.2.1 = t ∧ (z.2.2.2.2.2.2.length : Int) = u ∧ ∀ w ∈ z.2.2.2.2.2.2, okWd w
  | 0, k, b2, b3, W, h, _, _, _, _ => by omega
  | n + 1, k, b2, b3, W, h, hk, hb, hW, hw => by
    unfold made_l1
    refine Ok.brd (fun c => ?_) (fun c => Ok.some ⟨rfl, ⟨rfl, hb⟩, rfl, rfl, by dsimp only; omega, hw⟩)
    refine Ok.bind (strike_ok N hb (by omega)) ?_
    rintro ⟨x, c1, c2, c3⟩ ⟨hx, hc, hb1⟩
    dsimp only at hx hc hb1 ⊢
    obtain rfl := hc.symm
    refine Ok.bind (stroke_ok N hb1 (by omega)) ?_
    rintro ⟨y, d1, d2, d3⟩ ⟨hy, hc, hb2⟩
    dsimp only at hy hc hb2 ⊢
    obtain rfl := hc.symm
    refine Ok.bind (seldom_ok N hb2 (by omega)) ?_
    rintro ⟨z, e1, e2, e3⟩ ⟨hc, hb3⟩
    dsimp only at hc hb3 ⊢
    obtain rfl := hc.symm
    refine Ok.lim (by simp; omega) (Ok.chk (by omega) ?_)
    have := made_l1_p (turns := turns) (g := g) (t := t) hu n (k + 1) e2 e3 (W ++ [(x, y, !z)]) (by omega) (by omega) hb3 (by simp [hW]) (fun w hm => by
      rcases List.mem_append.1 hm with hm | hm
      · exact hw w hm
      · simp at hm; subst hm; exact ⟨by dsimp only; omega, by dsimp only; omega, by dsimp only; omega⟩)
    rw [show ((k + 1 : Nat) : Int) = (k : Int) + 1 by omega] at this
    exact this
theorem made_l2_p {u g t : Int} {W : List Wd} (hu : u ≤ 100) (hW : W.length ≤ 100) : ∀ (n k : Nat) (b2 b3 : Int) (X : List Tn), u < n + k → 0 < n → Bell b b2 → X.length ≤ k → k ≤ 1000 → (∀ x ∈ X, okTn W.length x) → ((X.length : Int) ≤ max u 0) →
    Ok (made_l2 N n u k b b2 b3 g t W X) fun z => BelR b z.1 z.2.1 ∧ z.2.2.2.1 = g ∧ z.2.2.2.2.1 = t ∧ z.2.2.2.2.2.1 = W ∧ ((z.2.2.2.2.2.2.length : Int) ≤ max u 0) ∧ ∀ x ∈ z.2.2.2.2.2.2, okTn W.length x
  | 0, k, b2, b3, X, h, h0, _, _, _, _, _ => by omega
  | n + 1, k, b2, b3, X, h, h0, hb, hX, hk, hx, hl => by
    unfold made_l2
    refine Ok.brd (fun c => ?_) (fun c => Ok.some ⟨⟨rfl, hb⟩, rfl, rfl, rfl, hl, hx⟩)
    refine Ok.brd (fun c => Ok.some ⟨⟨rfl, hb⟩, rfl, rfl, rfl, hl, hx⟩) (fun c2 => ?_)
    refine Ok.chk (by omega) (Ok.bind (stroke_ok N hb (by omega)) ?_)
    rintro ⟨lo, c1, c2', c3⟩ ⟨hlo, hc, hb1⟩
    dsimp only at hlo hc hb1 ⊢
    obtain rfl := hc.symm
    refine Ok.chk (by omega) (Ok.bind (stroke_ok N hb1 (by omega)) ?_)
    rintro ⟨y, d1, d2, d3⟩ ⟨hy, hc, hb2⟩
    dsimp only at hy hc hb2 ⊢
    obtain rfl := hc.symm
    refine Ok.chk (by omega) (Ok.chk (by omega) (Ok.bind (stroke_ok N hb2 (by omega)) ?_))
    rintro ⟨w, e1, e2, e3⟩ ⟨hw, hc, hb3⟩
    dsimp only at hw hc hb3 ⊢
    obtain rfl := hc.symm
    have hj : ∀ X', made_j1 N (made_l2 N n) u k b e2 e3 g t W X' = made_l2 N n u ((k + 1 : Nat) : Int) b e2 e3 g t W X' := fun X' => by
      unfold made_j1
      rw [chk_eq (by omega)]; rfl
    simp only [hj]
    have put : (w < lo ∨ min ((W.length : Int) - 1) (lo + y) < w) → Ok (lim (X.length + [(w, lo, min ((W.length : Int) - 1) (lo + y))].length) <| made_l2 N n u ((k + 1 : Nat) : Int) b e2 e3 g t W (X ++ [(w, lo, min ((W.length : Int) - 1) (lo + y))])) fun z => BelR b z.1 z.2.1 ∧ z.2.2.2.1 = g ∧ z.2.2.2.2.1 = t ∧ z.2.2.2.2.2.1 = W ∧ ((z.2.2.2.2.2.2.length : Int) ≤ max u 0) ∧ ∀ x ∈ z.2.2.2.2.2.2, okTn W.length x := fun hc => by
      refine Ok.lim (by simp; omega) ?_
      exact made_l2_p hu hW n (k + 1) e2 e3 _ (by omega) (by omega) hb3 (by simp; omega) (by omega) (fun x hm => by
        rcases List.mem_append.1 hm with hm | hm
        · exact hx x hm
        · simp at hm; subst hm
          unfold okTn; dsimp only; omega) (by simp; omega)
    refine Ok.brd (fun q => put (.inl q)) (fun q => Ok.brd (fun q2 => put (.inr q2)) (fun q2 => ?_))
    exact made_l2_p hu hW n (k + 1) e2 e3 X (by omega) (by omega) hb3 (by omega) (by omega) hx hl
theorem made_v (hN : 110 ≤ N) {words turns b2 b3 : Int} (hw : 1 ≤ words ∧ words ≤ 12) (ht : 0 ≤ turns ∧ turns ≤ 6) (hb : Bell b b2) :
    Ok (made_S N words turns b b2 b3) fun z => TFine z.1 z.2.1 z.2.2.1 ∧ (z.1.length : Int) ≤ words ∧ BelR b z.2.2.2.1 z.2.2.2.2.1 := by
  unfold made_S
  refine Ok.bind (strike_ok N hb (by omega)) ?_
  rintro ⟨x, c1, c2, c3⟩ ⟨hx, hc, hb1⟩
  dsimp only at hx hc hb1 ⊢
  obtain rfl := hc.symm
  refine Ok.bind (strike_ok N hb1 (by omega)) ?_
  rintro ⟨m, d1, d2, d3⟩ ⟨hm, hc, hb2⟩
  dsimp only at hm hc hb2 ⊢
  obtain rfl := hc.symm
  have e1 := made_l1_p (N := N) (turns := turns) (g := 0) (t := x) (u := m) (by omega) N 0 d2 d3 [] (by omega) (by omega) hb2 rfl (fun w h => by cases h)
  simp only [Int.natCast_zero] at e1
  refine Ok.bind e1 ?_
  rintro ⟨t', f1, f2, f3, g', x', W⟩ ⟨q1, ⟨q2, hb3⟩, q3, q4, hl, hW⟩
  dsimp only at q1 q2 q3 q4 hb3 hl hW ⊢
  obtain rfl := q1.symm
  obtain rfl := q2.symm
  obtain rfl := q3.symm
  obtain rfl := q4.symm
  refine Ok.bind (stroke_ok N hb3 (by omega)) ?_
  rintro ⟨k, h1, h2, h3⟩ ⟨hk, hc, hb4⟩
  dsimp only at hk hc hb4 ⊢
  obtain rfl := hc.symm
  have e2 := made_l2_p (N := N) (u := k) (g := 0) (t := x) (W := W) (by omega) (by omega) N 0 h2 h3 [] (by omega) (by omega) hb4 (by simp) (by omega) (fun x h => by cases h) (by simp; omega)
  simp only [Int.natCast_zero] at e2
  refine Ok.bind e2 ?_
  rintro ⟨i1, i2, i3, g'', x'', W', X⟩ ⟨⟨q2, hb5⟩, q3, q4, q5, hl2, hX⟩
  dsimp only at q2 q3 q4 q5 hb5 hl2 hX ⊢
  obtain rfl := q2.symm
  obtain rfl := q3.symm
  obtain rfl := q4.symm
  obtain rfl := q5.symm
  refine Ok.some ⟨⟨by dsimp only; omega, by dsimp only; omega, by dsimp only; omega, by dsimp only; omega, by dsimp only; omega, hW, hX⟩, by dsimp only; omega, rfl, hb5⟩
/-! ### Readings that are tried -/
end
end Go.Proofs.Ytfamlpbdhhikdaa

namespace Go.Proofs.Ytfamlpbdhhikdaa
set_option linter.all false
open Go

theorem ixfls_gen (N : Nat) (a b : Int) : ∀ (n : Nat) (l : List Tn) (u u2 : Int), ixfls_l1 N n l a b u u2 = ixL (fun x => lsays1_S N x.1 x.2.1 x.2.2 a b) n l u u2
  | 0, _, _, _ => rfl
  | n + 1, l, u, u2 => by unfold ixfls_l1 ixL; simp only [ixfls_gen N a b n]
section
variable {N : Nat} {ws : List Wd} {ts : List Tn} {br_ : Int}
theorem lsays_v (ht : ts.length ≤ 1000) (hN : ts.length < N) (a b : Int) : lsays_S N ws ts br_ a b = some (ts.any (turnP a b)) := by
  have h := ixS_any (f := fun x : Tn => lsays1_S N x.1 x.2.1 x.2.2 a b) (p := turnP a b) (s := ts) (N := N) (fun x _ => by
    unfold lsays1_S turnP
    by_cases h1 : a ≤ x.2.1 <;> by_cases h2 : x.2.2 < b <;> by_cases h3 : x.1 < a <;> by_cases h4 : b ≤ x.1 <;> simp [br, h1, h2, h3, h4] <;> omega) (by omega) hN
  unfold lsays_S cofls_S ixfls_S
  unfold ixS at h
  rw [ixfls_gen]
  rw [show ∀ (o : Option Bool), (o.bind fun x => some x) = o from fun o => by cases o <;> rfl]
  exact h
theorem turnL_any (a b : Int) : decide (0 < ((turnL ts a b).length : Int)) = ts.any (turnP a b) := by
  rw [Bool.eq_iff_iff, decide_eq_true_eq, List.any_eq_true]
  constructor
  · intro h
    obtain ⟨x, hx⟩ := List.exists_mem_of_length_pos (l := turnL ts a b) (by omega)
    unfold turnL turnK at hx
    simp only [List.mem_map, List.mem_filter, List.mem_range] at hx
    obtain ⟨i, ⟨hi, hp⟩, _⟩ := hx
    exact ⟨_, getD_mem hi, hp⟩
  · rintro ⟨x, hx, hp⟩
    obtain ⟨i, hi, rfl⟩ := List.getElem_of_mem hx
    have : (i : Int) ∈ turnL ts a b := mem_turnK.2 ⟨hi, by simpa [List.getD, hi] using hp⟩
    have := List.length_pos_of_mem this
    omega
theorem rightR_eq (a b : Nat) : rightR ws ts br_ a b = (decide (sylR ws a b ≤ br_) && (stopR ws a && (stopR ws b && !(ts.any (turnP a b))))) := by
  unfold rightR faultR
  rw [turnL_any]
  by_cases c : br_ < sylR ws a b
  · rw [if_pos c, decide_eq_false (by omega)]; rfl
  · rw [if_neg c, decide_eq_true (by omega)]
    cases stopR ws a <;> cases stopR ws b <;> simp
theorem fits_l1_p {f t : Int} {u : List Wd} (hu : u.length ≤ 100) (hw : ∀ w ∈ u, 0 ≤ w.1 ∧ w.1 ≤ 1000) : ∀ (n k : Nat) (s : Int), u.length < n + k → k ≤ u.length → 0 ≤ s ∧ s ≤ 1000 * k → fits_l1 N n f t s u u.length k ws ts br_ = some (f, t, s + ((u.drop k).map (·.1)).sum, ws, ts, br_)
  | 0, k, s, h, hk, _ => by omega
  | n + 1, k, s, h, hk, hs => by
    unfold fits_l1
    by_cases hlt : k < u.length
    · rw [br_dec (by omega), idx_eq (by omega) (gets hlt (0, 0, false))]
      have hm := hw _ (getD_mem (d := (0, 0, false)) hlt)
      rw [drop_cons hlt (0, 0, false)]
      generalize u.getD k (0, 0, false) = x at *
      rw [chk_eq (by omega), chk_eq (by omega)]
      have := fits_l1_p (f := f) (t := t) hu hw n (k + 1) (s + x.1) (by omega) (by omega) (by omega)
      rw [show ((k + 1 : Nat) : Int) = (k : Int) + 1 by omega] at this
      rw [this]
      simp only [List.map_cons, List.sum_cons, Int.add_assoc]
    · rw [br_ndec (by omega), List.drop_of_length_le (by omega)]
      simp
variable (hN : 110 ≤ N) (hF : TFine ws ts br_)
include hN hF
theorem fits_v {a b : Nat} (hab : a < b) (hb : b ≤ ws.length) : fits_S N ws ts br_ a b = some (rightR ws ts br_ a b) := by
  have hn := hF.n; have ht := hF.t
  obtain ⟨h1, h2⟩ := okW_iff.1 hF.okW
  have hl : ((ws.take b).drop a).length ≤ 100 := by simp only [List.length_drop, List.length_take]; omega
  have e := fits_l1_p (N := N) (ws := ws) (ts := ts) (br_ := br_) (f := (a : Int)) (t := (b : Int)) (u := (ws.take b).drop a) hl (take_drop_mem h2 _ _) N 0 0 (by omega) (by omega) (by omega)
  simp only [Int.natCast_zero, List.drop_zero, Int.zero_add] at e
  have hst : ∀ p : Nat, 1 ≤ p → p ≤ ws.length → ws[((p : Int) - 1).toNat]? = some (ws.getD (p - 1) (0, 0, false)) := fun p h3 h4 => by
    rw [show (p : Int) - 1 = ((p - 1 : Nat) : Int) by omega]
    exact gets (l := ws) (by omega) _
  unfold fits_S
  rw [grd_eq (by simp; omega)]
  simp only [Int.toNat_natCast]
  rw [e]
  simp only [Option.bind_some]
  rw [rightR_eq, lsays_v (by omega) (by omega)]
  simp only [Option.bind_some]
  change br (decide (sylR ws a b ≤ br_)) _ _ = _
  by_cases c : sylR ws a b ≤ br_
  rotate_left
  · rw [br_ndec c, decide_eq_false c]; rfl
  rw [br_dec c, decide_eq_true c]
  by_cases c1 : a = 0
  · subst c1
    rw [br_dec (by omega)]
    by_cases c2 : b = ws.length
    · rw [br_dec (by omega)]; simp [stopR, c2]
    · rw [br_ndec (by omega), chk_eq (by omega), idx_eq (by omega) (hst b (by omega) hb)]
      have : stopR ws b = (ws.getD (b - 1) (0, 0, false)).2.2 := by
        unfold stopR; simp [c2, show ¬ b = 0 by omega]
      rw [← this]
      cases stopR ws b <;> simp [br, stopR]
  · rw [br_ndec (by omega), chk_eq (by omega), idx_eq (by omega) (hst a (by omega) (by omega))]
    have ea : stopR ws a = (ws.getD (a - 1) (0, 0, false)).2.2 := by
      unfold stopR; simp [show ¬ a = ws.length by omega, c1]
    rw [← ea]
    cases stopR ws a
    · rfl
    rw [br_true]
    by_cases c2 : b = ws.length
    · rw [br_dec (by omega)]; simp [stopR, c2]
    · rw [br_ndec (by omega), chk_eq (by omega), idx_eq (by omega) (hst b (by omega) hb)]
      have : stopR ws b = (ws.getD (b - 1) (0, 0, false)).2.2 := by
        unfold stopR; simp [c2, show ¬ b = 0 by omega]
      rw [← this]
      cases stopR ws b <;> simp [br]
omit hN hF
/-! ### Places -/
/-- A reading of a text. -/
def readB (m : Nat) (l : List Int) : Bool := l.all (fun x => decide (1 ≤ x)) && decide (l.sum = m)
theorem sum_nonneg {l : List Int} (h : l.all (fun x => decide (1 ≤ x)) = true) : (l.length : Int) ≤ l.sum := by
  induction l with
  | nil => simp
  | cons a l ih =>
    simp only [List.all_cons, Bool.and_eq_true, decide_eq_true_eq] at h
    have := ih h.2
    rw [List.sum_cons, List.length_cons]; omega
theorem psums_len : ∀ (l : List Int) (a : Int), (psums a l).length = l.length
  | [], _ => rfl
  | x :: l, a => by rw [psums, List.length_cons, psums_len l, List.length_cons]
theorem places_l1_p (hn : ws.length ≤ 1000) {l : List Int} (hl : l.length ≤ 100000) : ∀ (n k a : Nat) (O : List Int), l.length < n + k → k ≤ l.length → O.length = k + 1 → O.getD k 0 = a → k ≤ a → a ≤ ws.length →
    places_l1 N n l l.length k ws ts br_ O = some (if ((l.drop k).all (fun x => decide (1 ≤ x)) && decide ((a : Int) + (l.drop k).sum ≤ ws.length)) = true then .inr (ws, ts, br_, O ++ psums a (l.drop k)) else .inl ())
  | 0, k, a, O, h, _, _, _, _, _ => by omega
  | n + 1, k, a, O, h, hk, hO, ha, hka, han => by
    by_cases c : k < l.length
    · have g := gets c 0
      have hd := drop_cons c 0
      rw [hd]
      generalize l.getD k 0 = x at *
      have gO : ((O.length : Int) - 1).toNat = k := by omega
      rw [places_l1, br_dec (by omega), idx_eq (by omega) g, chk_eq (by omega), rng_eq (by omega), gO, get_get 0 (by omega), ha]
      by_cases d : x < 1
      · rw [br_dec d, List.all_cons, decide_eq_false (by omega)]; rfl
      · rw [br_ndec d, chk_eq (by omega)]
        by_cases e : (ws.length : Int) - a < x
        · rw [br_dec e, if_neg]
          intro hc
          simp only [Bool.and_eq_true, decide_eq_true_eq, List.all_cons, List.sum_cons] at hc
          obtain ⟨⟨_, h5⟩, h6⟩ := hc
          have h7 := sum_nonneg h5
          have h8 := of_decide_eq_true h6
          omega
        · obtain ⟨y, rfl⟩ : ∃ y : Nat, x = y := ⟨x.toNat, (Int.toNat_of_nonneg (by omega)).symm⟩
          have ih := places_l1_p hn hl n (k + 1) (a + y) (O ++ [((a + y : Nat) : Int)]) (by omega) (by omega) (by simp [hO]) (by
            have : (O ++ [((a + y : Nat) : Int)])[k + 1]? = some ((a + y : Nat) : Int) := by rw [← hO]; simp
            rw [List.getD_eq_getElem?_getD, this]; rfl) (by omega) (by omega)
          rw [show ((k + 1 : Nat) : Int) = (k : Int) + 1 by omega, show ((a + y : Nat) : Int) = (a : Int) + y by omega] at ih
          rw [br_ndec e, chk_eq (by omega), rng_eq (by omega), get_get 0 (by omega), ha, chk_eq (by omega), lim_eq (by simp; omega), chk_eq (by omega), ih, List.all_cons, decide_eq_true (show 1 ≤ (y : Int) by omega), Bool.true_and, List.sum_cons, psums, Int.add_assoc, List.append_assoc]
          rfl
    · rw [places_l1, br_ndec (by omega), List.drop_of_length_le (by omega)]
      simp [psums]; omega
theorem last_psums : ∀ (l : List Int) (a : Int), (a :: psums a l).getD l.length 0 = a + l.sum
  | [], a => by simp [psums, List.getD]
  | x :: l, a => by
    have := last_psums l (a + x)
    rw [psums, List.length_cons, List.getD_cons_succ, this, List.sum_cons]; omega
theorem places_v (hn : ws.length ≤ 1000) {l : List Int} (hl : l.length ≤ 1000) (hN : l.length < N) : places_S N ws ts br_ l = some (if readB ws.length l = true then 0 :: psums 0 l else []) := by
  have e := places_l1_p (N := N) (ts := ts) (br_ := br_) hn (l := l) (by omega) N 0 0 [0] (by omega) (by omega) rfl rfl (by omega) (by omega)
  simp only [Int.natCast_zero, List.drop_zero, Int.zero_add] at e
  unfold places_S readB
  rw [e]
  cases c : l.all (fun x => decide (1 ≤ x))
  · rfl
  simp only [Bool.true_and, decide_eq_true_eq]
  by_cases d : l.sum ≤ ws.length
  · rw [if_pos d]
    simp only [Option.bind_some]
    have hlen : ([(0 : Int)] ++ psums 0 l).length = l.length + 1 := by simp [psums_len]
    have hlast := last_psums l 0
    have gi : (((([(0 : Int)] ++ psums 0 l).length : Nat) : Int) - 1).toNat = l.length := by omega
    rw [chk_eq (by omega), rng_eq (by omega), gi, get_get 0 (by omega), show ([(0 : Int)] ++ psums 0 l) = 0 :: psums 0 l from rfl, hlast, Int.zero_add]
    by_cases f : l.sum = ws.length
    · rw [br_nd f, if_pos f]
    · rw [br_nnd f, if_neg f]
  · rw [if_neg d, if_neg (by omega)]; rfl
/-! ### Right readings -/
theorem good_readB (hm : ws.length ≤ 12) {R : Nat → Nat → Bool} : ∀ {l : List Int} {p : Nat}, goodB R ws.length p l = true → l.all (fun x => decide (1 ≤ x)) = true ∧ (p : Int) + l.sum = ws.length
  | [], p, h => by have := good_nil.1 h; simp; omega
  | x :: l, p, h => by
    obtain ⟨⟨b1, b2⟩, _, b4⟩ := good_cons.1 h
    obtain ⟨c1, c2⟩ := good_readB hm b4
    refine ⟨?_, by rw [List.sum_cons]; omega⟩
    rw [List.all_cons, c1, decide_eq_true b1]; rfl
include hN hF
theorem sound_l1_p {l P : List Int} {u : Int} (hl : l.length ≤ 1000) (hu : u = l.length) : ∀ (n k a : Nat), l.length < n + k → k ≤ l.length → P.drop k = (a : Int) :: psums a (l.drop k) → (l.drop k).all (fun x => decide (1 ≤ x)) = true → (a : Int) + (l.drop k).sum = ws.length →
    sound_l1 N n P u k ws ts br_ = some (if goodB (rightR ws ts br_) ws.length a (l.drop k) = true then .inr P else .inl ())
  | 0, k, a, h, _, _, _, _ => by omega
  | n + 1, k, a, h, hk, hP, h1, hs => by
    have hn := hF.n
    by_cases c : k < l.length
    · have hd := drop_cons c 0
      rw [hd] at hP h1 hs ⊢
      have hge : ((l.drop (k + 1)).length : Int) ≤ (l.drop (k + 1)).sum := by
        rw [List.all_cons, Bool.and_eq_true] at h1
        exact sum_nonneg h1.2
      generalize l.getD k 0 = x at *
      simp only [List.all_cons, Bool.and_eq_true, decide_eq_true_eq] at h1
      rw [List.sum_cons] at hs
      rw [psums] at hP
      obtain ⟨y, rfl⟩ : ∃ y : Nat, x = y := ⟨x.toNat, (Int.toNat_of_nonneg (by omega)).symm⟩
      have g0 : P[((k : Nat) : Int).toNat]? = some (a : Int) := by
        have := congrArg (fun L => L[0]?) hP
        simpa using this
      have g1 : P[(((k : Nat) : Int) + 1).toNat]? = some ((a : Int) + y) := by
        have := congrArg (fun L => L[1]?) hP
        rw [show (((k : Nat) : Int) + 1).toNat = k + 1 by omega]
        simpa using this
      have hP2 : P.drop (k + 1) = ((a + y : Nat) : Int) :: psums ((a + y : Nat) : Int) (l.drop (k + 1)) := by
        have := congrArg (fun L => L.drop 1) hP
        simpa [List.drop_drop] using this
      have ih := sound_l1_p hl hu n (k + 1) (a + y) (by omega) (by omega) hP2 h1.2 (by omega)
      rw [show ((k + 1 : Nat) : Int) = (k : Int) + 1 by omega] at ih
      rw [sound_l1, br_dec (by omega), idx_eq (by omega) g0, chk_eq (by omega), idx_eq (by omega) g1, show (a : Int) + y = ((a + y : Nat) : Int) by omega, fits_v hN hF (by omega) (by omega)]
      simp only [Option.bind_some]
      have eg : goodB (rightR ws ts br_) ws.length a ((y : Int) :: l.drop (k + 1)) = (rightR ws ts br_ a (a + y) && goodB (rightR ws ts br_) ws.length (a + y) (l.drop (k + 1))) := by
        rw [goodB, Int.toNat_natCast, decide_eq_true h1.1, decide_eq_true (show a + y ≤ ws.length by omega)]; rfl
      rw [eg]
      cases hr : rightR ws ts br_ a (a + y)
      · rfl
      · rw [Bool.not_true, br_false, chk_eq (by omega), ih]; rfl
    · have hd : l.drop k = [] := List.drop_of_length_le (by omega)
      rw [hd] at hs ⊢
      rw [sound_l1, br_ndec (by omega), if_pos]
      rw [good_nil]; simp at hs; omega
theorem sound_v {l : List Int} (hl : l.length ≤ 100) : sound_S N ws ts br_ l = some (goodB (rightR ws ts br_) ws.length 0 l) := by
  have hn := hF.n; have hn0 := hF.n0
  unfold sound_S
  rw [places_v (by omega) (by omega) (by omega)]
  simp only [Option.bind_some]
  by_cases c : readB ws.length l = true
  · rw [if_pos c]
    unfold readB at c
    simp only [Bool.and_eq_true, decide_eq_true_eq] at c
    have hpl := psums_len l 0
    have hlen : (0 :: psums 0 l).length = l.length + 1 := by simp [psums_len]
    have e : ((((0 : Int) :: psums 0 l).length : Nat) : Int) - 1 = l.length := by omega
    rw [chk_eq (by omega), e, grd_eq (by simp; omega)]
    have e2 : (max 0 (l.length : Int)).toNat = l.length := by omega
    rw [e2]
    have e1 := sound_l1_p hN hF (l := l) (P := 0 :: psums 0 l) (u := (((((0 : Int) :: psums 0 l).take l.length).length : Nat) : Int)) (by omega) (by rw [List.length_take]; omega) N 0 0 (by omega) (by omega) (by simp) (by simpa using c.1) (by simpa using c.2)
    simp only [Int.natCast_zero, List.drop_zero] at e1
    rw [e1]
    cases hg : goodB (rightR ws ts br_) ws.length 0 l
    · rfl
    · simp only [if_true, Option.bind_some]
      have : l ≠ [] := fun e => by subst e; have := good_nil.1 hg; omega
      have := List.length_pos_iff.2 this
      rw [decide_eq_true (by omega)]
  · rw [if_neg c]
    have e1 : sound_l1 N N [] 0 0 ws ts br_ = some (.inr []) := by
      obtain ⟨M, rfl⟩ : ∃ M, N = M + 1 := ⟨N - 1, by omega⟩
      rw [sound_l1, br_ndec (by omega)]
    simp only [List.length_nil, Int.natCast_zero]
    rw [chk_eq (by omega), grd_eq (by decide)]
    simp only [List.take_nil, List.length_nil, Int.natCast_zero]
    rw [e1]
    cases hg : goodB (rightR ws ts br_) ws.length 0 l
    · rfl
    · exfalso
      refine c ?_
      obtain ⟨h1, h2⟩ := good_readB (by omega) hg
      unfold readB
      rw [h1, decide_eq_true (by simpa using h2)]; rfl
end
end Go.Proofs.Ytfamlpbdhhikdaa

namespace Go.Proofs.Ytfamlpbdhhikdaa
set_option linter.all false
open Go

section
variable {N : Nat} {ws : List Wd} {ts : List Tn} {br_ : Int} (hN : 110 ≤ N) (hF : TFine ws ts br_)
include hN hF
end
end Go.Proofs.Ytfamlpbdhhikdaa

namespace Go.Proofs.Ytfamlpbdhhikdaa
set_option linter.all false
open Go

/-! ### Runs that no turn is said otherwise by -/
section
variable {N : Nat} {ws : List Wd} {ts : List Tn} {br_ : Int} (hN : 110 ≤ N) (ht : ts.length ≤ 100)
include hN ht
end
/-! ### Turns that are parted -/
section
variable {ws : List Wd} {ts : List Tn} {br_ : Int}
end
section
variable {N : Nat} {ws : List Wd} {ts : List Tn} {br_ : Int} (hN : 110 ≤ N) (hF : TFine ws ts br_)
include hN hF
end
end Go.Proofs.Ytfamlpbdhhikdaa

namespace Go.Proofs.Ytfamlpbdhhikdaa
set_option linter.all false
open Go

section
variable {N : Nat} {ws : List Wd} {ts : List Tn} {br_ : Int} (hN : 110 ≤ N) (hF : TFine ws ts br_)
include hN hF
end
end Go.Proofs.Ytfamlpbdhhikdaa

namespace Go.Proofs.Ytfamlpbdhhikdaa
set_option linter.all false
open Go

/-- Marks from others, lowered at the places of right breaths from places ahead of one. -/
structure Low (R : Nat → Nat → Bool) (m f : Nat) (A M : List Int) : Prop where
  len : M.length = 13
  le : ∀ q, M.getD q 0 ≤ A.getD q 0
  hold : ∀ p q, p < f → p < q → q ≤ m → R p q = true → M.getD q 0 ≤ M.getD p 0 + 1
  why : ∀ q, M.getD q 0 = A.getD q 0 ∨ ∃ p, p < f ∧ p < q ∧ q ≤ m ∧ R p q = true ∧ M.getD q 0 = M.getD p 0 + 1
structure Mk (A : List Int) : Prop where
  len : A.length = 13
  bd : ∀ q, 0 ≤ A.getD q 0 ∧ A.getD q 0 ≤ 99
section
variable {R : Nat → Nat → Bool} {m : Nat} {A M : List Int}
theorem Low.start (h : Mk A) : Low R m 0 A A := ⟨h.len, fun q => Int.le_refl _, fun p q h => by omega, fun q => .inl rfl⟩
theorem Low.bd (hA : Mk A) {f : Nat} (h : Low R m f A M) : ∀ q, 0 ≤ M.getD q 0 ∧ M.getD q 0 ≤ 99 := by
  intro q
  induction q using Nat.strongRecOn with
  | ind q ih =>
    have h1 := h.le q
    have h2 := hA.bd q
    rcases h.why q with e | ⟨p, _, hp, _, _, e⟩
    · omega
    · have := ih p hp; omega
theorem Low.next {f : Nat} {M' : List Int} (h : Low R m f A M) (hl : M'.length = 13) (hM : ∀ q, M'.getD q 0 = if (f < q ∧ q ≤ m ∧ R f q = true) then min (M.getD q 0) (M.getD f 0 + 1) else M.getD q 0) : Low R m (f + 1) A M' := by
  have hle : ∀ q, M'.getD q 0 ≤ M.getD q 0 := fun q => by
    rw [hM q]; split <;> omega
  have hsm : ∀ p, p ≤ f → M'.getD p 0 = M.getD p 0 := fun p hp => by rw [hM p, if_neg (by omega)]
  refine ⟨hl, fun q => Int.le_trans (hle q) (h.le q), fun p q h1 h2 h3 h4 => ?_, fun q => ?_⟩
  · rw [hsm p (by omega)]
    by_cases e : p = f
    · subst e
      rw [hM q, if_pos ⟨h2, h3, h4⟩]; omega
    · have := h.hold p q (by omega) h2 h3 h4
      have := hle q; omega
  · by_cases e : M'.getD q 0 = M.getD q 0
    · rw [e]
      rcases h.why q with h1 | ⟨p, h1, h2, h3, h4, h5⟩
      · exact .inl h1
      · exact .inr ⟨p, by omega, h2, h3, h4, by rw [hsm p (by omega)]; exact h5⟩
    · by_cases c : f < q ∧ q ≤ m ∧ R f q = true
      · have h1 := hM q
        rw [if_pos c] at h1
        exact .inr ⟨f, by omega, c.1, c.2.1, c.2.2, by rw [hsm f (Nat.le_refl _)]; omega⟩
      · exact absurd (by rw [hM q, if_neg c]) e
theorem Low.holds (h : Low R m m A A) : ∀ p q, p < q → q ≤ m → R p q = true → A.getD q 0 ≤ A.getD p 0 + 1 := fun p q h1 h2 h3 => h.hold p q (by omega) h1 h2 h3
end
section
variable {N : Nat} {ws : List Wd} {ts : List Tn} {br_ : Int} (hN : 110 ≤ N) (hF : TFine ws ts br_)
include hF
include hN
end
end Go.Proofs.Ytfamlpbdhhikdaa

namespace Go.Proofs.Ytfamlpbdhhikdaa
set_option linter.all false
open Go

section
variable {N : Nat} {ws : List Wd} {ts : List Tn} {br_ : Int} (hN : 110 ≤ N) (hF : TFine ws ts br_)
include hN hF
end
end Go.Proofs.Ytfamlpbdhhikdaa

namespace Go.Proofs.Ytfamlpbdhhikdaa
set_option linter.all false
open Go

section
variable {N : Nat} {ws : List Wd} {ts : List Tn} {br_ : Int}
variable (hN : 110 ≤ N) (hF : TFine ws ts br_)
include hN hF
omit hN hF
def inW (ws : List Wd) (l : List Int) : Prop := ∀ w ∈ l, 0 ≤ w ∧ w < ws.length
include hF
end
/-! ### Errors of kept words -/
def ascB : List Int → Bool
  | a :: b :: r => decide (a < b) && ascB (b :: r)
  | _ => true
section
variable {N : Nat} {ws : List Wd} {ts : List Tn} {br_ : Int}
end
/-! ### Prices -/
section
variable {N : Nat} {ws : List Wd} {ts : List Tn} {br_ : Int}
end
end Go.Proofs.Ytfamlpbdhhikdaa

namespace Go.Proofs.Ytfamlpbdhhikdaa
set_option linter.all false
open Go

/-! ### Ascending lists -/
theorem asc_step : ∀ {l : List Int} (_ : ascB l = true) (i : Nat), i + 1 < l.length → l.getD i 0 < l.getD (i + 1) 0
  | [], _, i, h => by simp at h
  | [a], _, i, h => by simp at h
  | a :: b :: r, hl, i, h => by
    simp only [ascB, Bool.and_eq_true, decide_eq_true_eq] at hl
    cases i with
    | zero => simpa using hl.1
    | succ i => simpa using asc_step hl.2 i (by simpa using h)
theorem asc_get {l : List Int} (h : ascB l = true) (i : Nat) : ∀ (d : Nat), i + d < l.length → l.getD i 0 + d ≤ l.getD (i + d) 0
  | 0, _ => by simp
  | d + 1, hd => by
    have h1 := asc_get h i d (by omega)
    have h2 := asc_step h (i + d) (by omega)
    rw [show i + (d + 1) = i + d + 1 by omega]
    omega
theorem asc_lt {l : List Int} (h : ascB l = true) {i j : Nat} (hij : i < j) (hj : j < l.length) : l.getD i 0 + ((j : Int) - i) ≤ l.getD j 0 := by
  have := asc_get h i (j - i) (by omega)
  rw [show i + (j - i) = j by omega] at this
  omega
/-- Where a number would lie. -/
def posI : List Int → Int → Nat
  | [], _ => 0
  | a :: l, v => if a < v then posI l v + 1 else 0
theorem posI_lt {v : Int} : ∀ {l : List Int} {i : Nat}, i < posI l v → i < l.length ∧ l.getD i 0 < v
  | [], i, h => by simp [posI] at h
  | a :: l, i, h => by
    unfold posI at h
    split at h
    · rename_i c
      cases i with
      | zero => exact ⟨by simp, by simpa using c⟩
      | succ i =>
        have := posI_lt (v := v) (l := l) (i := i) (by omega)
        exact ⟨by simpa using this.1, by simpa using this.2⟩
    · omega
theorem posI_le {v : Int} : ∀ (l : List Int), posI l v ≤ l.length
  | [] => by simp [posI]
  | a :: l => by
    have := posI_le (v := v) l
    unfold posI
    split <;> simp <;> omega
theorem posI_at {v : Int} : ∀ {l : List Int}, posI l v < l.length → v ≤ l.getD (posI l v) 0
  | [], h => by simp at h
  | a :: l, h => by
    unfold posI at h ⊢
    split at h
    · rename_i c
      have := posI_at (v := v) (l := l) (by simpa using h)
      rw [if_pos c]
      simpa using this
    · rename_i c
      rw [if_neg c]
      simp; omega
theorem posI_uniq {v : Int} {l : List Int} {k : Nat} (hk : k ≤ l.length) (h1 : ∀ i, i < k → l.getD i 0 < v) (h2 : k < l.length → v ≤ l.getD k 0) : posI l v = k := by
  rcases Nat.lt_trichotomy (posI l v) k with h | h | h
  · have := posI_at (v := v) (l := l) (by omega)
    have := h1 _ h
    omega
  · exact h
  · have := posI_lt h
    have := h2 this.1
    omega
theorem posI_of {l : List Int} (h : ascB l = true) {i : Nat} (hi : i < l.length) : posI l (l.getD i 0) = i :=
  posI_uniq (by omega) (fun j hj => by have := asc_lt h hj hi; omega) (fun _ => by omega)
theorem contains_iff {l : List Int} (h : ascB l = true) {v : Int} : l.contains v = true ↔ posI l v < l.length ∧ l.getD (posI l v) 0 = v := by
  rw [List.contains_iff_mem]
  constructor
  · intro hm
    obtain ⟨i, hi, rfl⟩ := List.getElem_of_mem hm
    have : l[i] = l.getD i 0 := by simp [List.getD, hi]
    rw [this, posI_of h hi]
    exact ⟨hi, rfl⟩
  · rintro ⟨h1, h2⟩
    rw [← h2]; exact getD_mem h1
theorem posI_succ {l : List Int} (h : ascB l = true) (v : Int) : posI l (v + 1) = if l.contains v = true then posI l v + 1 else posI l v := by
  split
  · rename_i c
    obtain ⟨c1, c2⟩ := (contains_iff h).1 c
    refine posI_uniq (by omega) (fun i hi => ?_) (fun hl => ?_)
    · rcases Nat.lt_or_ge i (posI l v) with c3 | c3
      · have := (posI_lt c3).2; omega
      · obtain rfl : i = posI l v := by omega
        omega
    · have := asc_step h (posI l v) hl
      omega
  · rename_i c
    refine posI_uniq (posI_le l) (fun i hi => by have := (posI_lt hi).2; omega) (fun hl => ?_)
    have := posI_at hl
    rcases Int.lt_or_le v (l.getD (posI l v) 0) with c3 | c3
    · omega
    · exact absurd ((contains_iff h).2 ⟨hl, by omega⟩) c
/-- A stretch of words is kept whole just if its ends lie as far apart among the kept ones. -/
theorem stretch {l : List Int} (h : ascB l = true) {lo hi : Int} (hle : lo ≤ hi) : (wordsL lo (hi + 1)).all (fun w => l.contains w) = (l.contains lo && (l.contains hi && decide ((posI l hi : Int) - posI l lo = hi - lo))) := by
  rw [Bool.eq_iff_iff]
  simp only [Bool.and_eq_true, decide_eq_true_eq, List.all_eq_true, mem_wordsL]
  constructor
  · intro ha
    have key : ∀ (d : Nat), lo + d ≤ hi → posI l (lo + d) = posI l lo + d := by
      intro d
      induction d with
      | zero => intro _; simp
      | succ d ih =>
        intro hd
        have e := posI_succ h (lo + d)
        rw [if_pos (ha _ (by omega)), ih (by omega), show lo + (d : Int) + 1 = lo + ((d + 1 : Nat) : Int) by omega] at e
        rw [e]; omega
    refine ⟨ha _ (by omega), ha _ (by omega), ?_⟩
    have := key (hi - lo).toNat (by omega)
    rw [show lo + ((hi - lo).toNat : Int) = hi by omega] at this
    omega
  · rintro ⟨h1, h2, h3⟩ w ⟨hw1, hw2⟩
    obtain ⟨a1, a2⟩ := (contains_iff h).1 h1
    obtain ⟨b1, b2⟩ := (contains_iff h).1 h2
    rw [List.contains_iff_mem]
    have hi' : posI l lo + (w - lo).toNat < l.length := by omega
    have := asc_get h (posI l lo) (w - lo).toNat hi'
    have hj := asc_get h (posI l lo + (w - lo).toNat) (hi - w).toNat (by omega)
    rw [show posI l lo + (w - lo).toNat + (hi - w).toNat = posI l hi by omega, b2] at hj
    rw [a2] at this
    rw [show w = l.getD (posI l lo + (w - lo).toNat) 0 by omega]
    exact getD_mem hi'
/-! ### The binary search -/
/-! ### Kept words -/
section
variable {N : Nat} {ws : List Wd} {ts : List Tn} {br_ : Int}
variable (hN : 110 ≤ N) (hF : TFine ws ts br_)
include hN hF
omit hN hF
include hN hF
omit hN hF
/-! ### The reference -/
include hN hF
omit hN hF
end
/-! ### The statement -/
section
variable {N : Nat}
end
end Go.Proofs.Ytfamlpbdhhikdaa

namespace Go.Proofs.Ytfamlpbdhhikdaa
set_option linter.all false
open Go

/-- Ascending words from one on. -/
def okC (m : Int) : Int → List Int → Prop
  | _, [] => True
  | lo, a :: r => (lo ≤ a ∧ a < m) ∧ okC m (a + 1) r
theorem okC_mono {m lo lo' : Int} (h : lo' ≤ lo) : ∀ {c : List Int}, okC m lo c → okC m lo' c
  | [], _ => trivial
  | a :: r, ⟨⟨h1, h2⟩, h3⟩ => ⟨⟨by omega, h2⟩, h3⟩
theorem okC_len {m : Int} : ∀ {c : List Int} {lo : Int}, okC m lo c → c ≠ [] → lo + c.length ≤ m
  | [], _, _, h => absurd rfl h
  | [a], lo, ⟨⟨h1, h2⟩, _⟩, _ => by simp; omega
  | a :: b :: r, lo, ⟨⟨h1, h2⟩, h3⟩, _ => by
    have := okC_len h3 (by simp)
    simp at this ⊢; omega
/-- Which of two lists comes ahead. -/
def bef : List Int → List Int → Bool
  | a :: l, b :: r => if a = b then bef l r else decide (a < b)
  | _, _ => false
/-- What a choice of words comes to. -/
def ChF (m : Int) (P : List Int → Bool) (l : List Int) (lo : Int) (k : Nat) : Option (List Int) → Prop
  | none => ∀ c, okC m lo c → c.length = k → P (l ++ c) = false
  | some x => ∃ c, okC m lo c ∧ c.length = k ∧ x = l ++ c ∧ P x = true ∧ ∀ c', okC m lo c' → c'.length = k → P (l ++ c') = true → bef c' c = false
theorem ChF.step {m : Int} {P : List Int → Bool} {l : List Int} {w : Int} {k : Nat} {r : Option (List Int)} (h1 : ∀ c, okC m (w + 1) c → c.length = k → P ((l ++ [w]) ++ c) = false) (h2 : ChF m P l (w + 1) (k + 1) r) : ChF m P l w (k + 1) r := by
  have key : ∀ c, okC m w c → c.length = k + 1 → P (l ++ c) = true → okC m (w + 1) c := by
    intro c hc hl hp
    cases c with
    | nil => simp at hl
    | cons a c =>
      obtain ⟨⟨a1, a2⟩, a3⟩ := hc
      by_cases e : a = w
      · subst e
        have := h1 c a3 (by simpa using hl)
        rw [List.append_assoc, List.singleton_append, hp] at this
        cases this
      · exact ⟨⟨by omega, a2⟩, a3⟩
  cases r with
  | none =>
    intro c hc hl
    cases hp : P (l ++ c)
    · rfl
    · rw [← hp]; exact h2 c (key c hc hl hp) hl
  | some x =>
    obtain ⟨c, c1, c2, c3, c4, c5⟩ := h2
    exact ⟨c, okC_mono (by omega) c1, c2, c3, c4, fun c' d1 d2 d3 => c5 c' (key c' d1 d2 d3) d2 d3⟩
theorem ChF.found {m : Int} {P : List Int → Bool} {l : List Int} {w : Int} {k : Nat} {x : List Int} (hw : w < m) (h : ChF m P (l ++ [w]) (w + 1) k (some x)) : ChF m P l w (k + 1) (some x) := by
  obtain ⟨c, c1, c2, c3, c4, c5⟩ := h
  refine ⟨w :: c, ⟨⟨by omega, hw⟩, c1⟩, by simp [c2], by simp [c3], c4, fun c' d1 d2 d3 => ?_⟩
  cases c' with
  | nil => rfl
  | cons a c' =>
    obtain ⟨⟨a1, a2⟩, a3⟩ := d1
    unfold bef
    by_cases e : a = w
    · subst e
      rw [if_pos rfl]
      exact c5 c' a3 (by simpa using d2) (by simpa using d3)
    · rw [if_neg e, decide_eq_false (by omega)]
section
variable {N : Nat} {ws : List Wd} {ts : List Tn} {br_ : Int}
variable (hN : 110 ≤ N) (hF : TFine ws ts br_)
include hN hF
/-- What is told as the fewest words. -/
def LeastW (m : Int) (P : List Int → Bool) (l : List Int) : Prop := okC m 0 l ∧ l ≠ [] ∧ P l = true ∧ ∀ c, okC m 0 c → c ≠ [] → P c = true → l.length < c.length ∨ l.length = c.length ∧ bef c l = false
omit hN hF
end
/-! ### Words that can be left out -/
section
variable {N : Nat} {ws : List Wd} {ts : List Tn} {br_ : Int} (hN : 110 ≤ N) (hF : TFine ws ts br_)
include hN hF
omit hN hF
include hN hF
omit hN hF
end
end Go.Proofs.Ytfamlpbdhhikdaa

namespace Go.Proofs.Ytfamlpbdhhikdaa
set_option linter.all false
open Go

/-! ### Which list comes ahead -/
theorem bef_self : ∀ l : List Int, bef l l = false
  | [] => rfl
  | a :: l => by unfold bef; rw [if_pos rfl, bef_self l]
theorem bef_trans : ∀ {a b c : List Int}, bef a b = true → bef b c = true → bef a c = true
  | [], _, _, h, _ => by simp [bef] at h
  | _ :: _, [], _, h, _ => by simp [bef] at h
  | _ :: _, _ :: _, [], _, h => by simp [bef] at h
  | x :: a, y :: b, z :: c, h1, h2 => by
    unfold bef at h1 h2 ⊢
    by_cases e : x = y
    · subst e
      rw [if_pos rfl] at h1
      by_cases e2 : x = z
      · subst e2
        rw [if_pos rfl] at h2 ⊢
        exact bef_trans h1 h2
      · rw [if_neg e2] at h2 ⊢; exact h2
    · rw [if_neg e, decide_eq_true_eq] at h1
      by_cases e2 : y = z
      · subst e2
        rw [if_neg e, decide_eq_true_eq]; exact h1
      · rw [if_neg e2, decide_eq_true_eq] at h2
        rw [if_neg (by omega), decide_eq_true_eq]; omega
def prec (a b : List Int) : Prop := a.length < b.length ∨ a.length = b.length ∧ bef a b = true
theorem prec_trans {a b c : List Int} : prec a b → prec b c → prec a c := by
  rintro (h | ⟨h, h2⟩) (g | ⟨g, g2⟩)
  · exact .inl (by omega)
  · exact .inl (by omega)
  · exact .inl (by omega)
  · exact .inr ⟨by omega, bef_trans h2 g2⟩
theorem prec_self (l : List Int) : ¬ prec l l := by
  rintro (h | ⟨_, h⟩)
  · omega
  · rw [bef_self] at h; cases h
/-! ### Lists that numbers say -/
def lst : Nat → Int → Nat → List Int
  | 0, _, _ => []
  | k + 1, w, n => (if n % 2 = 1 then [w] else []) ++ lst k (w + 1) (n / 2)
theorem lst_zero : ∀ (k : Nat) (w : Int), lst k w 0 = []
  | 0, _ => rfl
  | k + 1, w => by unfold lst; rw [if_neg (by decide), List.nil_append, Nat.zero_div, lst_zero k]
theorem lst_ok : ∀ (k : Nat) (w : Int) (n : Nat), okC (w + k) w (lst k w n)
  | 0, _, _ => trivial
  | k + 1, w, n => by
    have := lst_ok k (w + 1) (n / 2)
    rw [show w + 1 + (k : Int) = w + ((k + 1 : Nat) : Int) by omega] at this
    unfold lst
    split
    · exact ⟨by omega, this⟩
    · exact okC_mono (by omega) this
theorem lst_all : ∀ (k : Nat) (w : Int) (c : List Int), okC (w + k) w c → ∃ n, n < 2 ^ k ∧ lst k w n = c
  | 0, w, c, h => by
    cases c with
    | nil => exact ⟨0, by decide, rfl⟩
    | cons a r => have := h.1; omega
  | k + 1, w, c, h => by
    have hp : 2 ^ (k + 1) = 2 * 2 ^ k := by rw [Nat.pow_succ]; omega
    have e : w + ((k + 1 : Nat) : Int) = w + 1 + (k : Int) := by omega
    rw [e] at h
    by_cases d : ∃ r, c = w :: r
    · obtain ⟨r, rfl⟩ := d
      obtain ⟨n, h1, h2⟩ := lst_all k (w + 1) r h.2
      refine ⟨2 * n + 1, by omega, ?_⟩
      unfold lst
      rw [if_pos (by omega), show (2 * n + 1) / 2 = n by omega, h2]; rfl
    · have h' : okC (w + 1 + (k : Int)) (w + 1) c := by
        cases c with
        | nil => trivial
        | cons a r =>
          have : a ≠ w := fun ha => d ⟨r, by rw [ha]⟩
          obtain ⟨⟨h1, h2⟩, h3⟩ := h
          exact ⟨⟨by omega, h2⟩, h3⟩
      obtain ⟨n, h1, h2⟩ := lst_all k (w + 1) c h'
      refine ⟨2 * n, by omega, ?_⟩
      unfold lst
      rw [if_neg (by omega), show (2 * n) / 2 = n by omega, h2]; rfl
theorem lst_ne {k : Nat} {w : Int} {n : Nat} (h : n < 2 ^ k) (h0 : n ≠ 0) : lst k w n ≠ [] := by
  induction k generalizing w n with
  | zero => simp at h; omega
  | succ k ih =>
    have hp : 2 ^ (k + 1) = 2 * 2 ^ k := by rw [Nat.pow_succ]; omega
    unfold lst
    split
    · simp
    · rw [List.nil_append]
      exact ih (by omega) (by omega)
section
variable {N : Nat} {ws : List Wd} {ts : List Tn} {br_ : Int}
/-- The best of the lists that were looked at. -/
def BestI (m : Nat) (P : List Int → Bool) (k : Nat) (best : List Int) : Prop :=
  best = [] ∧ (∀ i, 1 ≤ i → i < k → P (lst m 0 i) = false) ∨ (okC m 0 best ∧ best ≠ [] ∧ P best = true) ∧ ∀ i, 1 ≤ i → i < k → P (lst m 0 i) = true → ¬ prec (lst m 0 i) best
theorem BestI.skip {m : Nat} {P : List Int → Bool} {k : Nat} {best : List Int} (h : BestI m P k best) (hp : P (lst m 0 k) = false) : BestI m P (k + 1) best := by
  rcases h with ⟨h1, h2⟩ | ⟨h1, h2⟩
  · refine .inl ⟨h1, fun i a b => ?_⟩
    by_cases e : i = k
    · rw [e]; exact hp
    · exact h2 i a (by omega)
  · refine .inr ⟨h1, fun i a b c => ?_⟩
    by_cases e : i = k
    · rw [e, hp] at c; cases c
    · exact h2 i a (by omega) c
theorem BestI.keep {m : Nat} {P : List Int → Bool} {k : Nat} {best : List Int} (h : BestI m P k best) (hb : best ≠ []) (hp : ¬ prec (lst m 0 k) best) : BestI m P (k + 1) best := by
  rcases h with ⟨h1, h2⟩ | ⟨h1, h2⟩
  · exact absurd h1 hb
  · refine .inr ⟨h1, fun i a b c => ?_⟩
    by_cases e : i = k
    · rw [e]; exact hp
    · exact h2 i a (by omega) c
theorem BestI.take {m : Nat} {P : List Int → Bool} {k : Nat} {best : List Int} (h : BestI m P k best) (hk : 1 ≤ k ∧ k < 2 ^ m) (hp : P (lst m 0 k) = true) (hb : best = [] ∨ prec (lst m 0 k) best) : BestI m P (k + 1) (lst m 0 k) := by
  have ho := lst_ok m 0 k
  rw [Int.zero_add] at ho
  refine .inr ⟨⟨ho, lst_ne hk.2 (by omega), hp⟩, fun i a b c => ?_⟩
  by_cases e : i = k
  · rw [e]; exact prec_self _
  · rcases h with ⟨h1, h2⟩ | ⟨h1, h2⟩
    · rw [h2 i a (by omega)] at c; cases c
    · rcases hb with hb | hb
      · exact absurd hb h1.2.1
      · exact fun hpr => h2 i a (by omega) c (prec_trans hpr hb)
theorem BestI.done {m : Nat} {P : List Int → Bool} {best : List Int} (h : BestI m P (2 ^ m) best) : best ≠ [] ∧ LeastW m P best ∨ best = [] ∧ ∀ c, okC m 0 c → c ≠ [] → P c = false := by
  have key : ∀ c, okC (m : Int) 0 c → c ≠ [] → ∃ i, 1 ≤ i ∧ i < 2 ^ m ∧ lst m 0 i = c := by
    intro c hc hn
    obtain ⟨n, h1, h2⟩ := lst_all m 0 c (by rw [Int.zero_add]; exact hc)
    refine ⟨n, ?_, h1, h2⟩
    rcases Nat.eq_zero_or_pos n with e | e
    · subst e; rw [lst_zero] at h2; exact absurd h2.symm hn
    · exact e
  rcases h with ⟨h1, h2⟩ | ⟨⟨h1, h3, h4⟩, h2⟩
  · refine .inr ⟨h1, fun c hc hn => ?_⟩
    obtain ⟨i, a, b, rfl⟩ := key c hc hn
    exact h2 i a b
  · refine .inl ⟨h3, h1, h3, h4, fun c hc hn hp => ?_⟩
    obtain ⟨i, a, b, rfl⟩ := key c hc hn
    have := h2 i a b hp
    unfold prec at this
    rcases Nat.lt_trichotomy best.length (lst m 0 i).length with e | e | e
    · exact .inl e
    · refine .inr ⟨e, ?_⟩
      cases hb : bef (lst m 0 i) best
      · rfl
      · exact absurd (.inr ⟨e.symm, hb⟩) this
    · exact absurd (.inl e) this
variable (hN : 110 ≤ N) (hF : TFine ws ts br_)
include hN hF
omit hN hF
end
end Go.Proofs.Ytfamlpbdhhikdaa

namespace Go.Proofs.Ytfamlpbdhhikdaa
set_option linter.all false
open Go

/-! ### All words -/
/-! ### Words of words -/
def pick (l k : List Int) : List Int := k.map fun i => l.getD i.toNat 0
section
variable {ws : List Wd} {ts : List Tn} {br_ : Int} {l : List Int} (hl : ascB l = true) (hw : inW ws l)
include hl hw
omit hw
omit hl
include hl
omit hl
end
end Go.Proofs.Ytfamlpbdhhikdaa

namespace Go.Proofs.Ytfamlpbdhhikdaa
set_option linter.all false
open Go

end Go.Proofs.Ytfamlpbdhhikdaa

namespace Go.Proofs.Ytfamlpbdhhikdaa
set_option linter.all false
open Go

section
variable {N : Nat} {ws : List Wd} {ts : List Tn} {br_ : Int} (hN : 110 ≤ N) {b : List Int}
include hN
omit hN
end
end Go.Proofs.Ytfamlpbdhhikdaa

namespace Go.Proofs.Ytfamlpbdhhikdaa
set_option linter.all false
open Go Go.Proofs

shelf_lay Lays2.n23 Nm2 23 at Try as layDel

theorem Fn.ofCalls {P : Program} {f : FuncId} {args : Array Value} {w : World} {R : Ending → World → Prop} {R' : Value → World → Prop} (h : Calls P f args w R) (hr : ∀ e w', R e w' → ∃ v, e = .returned v ∧ R' v w') : Fn P f args w R' := by
  intro cs
  obtain ⟨e, w', fr, r, s, x⟩ := h cs
  obtain ⟨v, rfl, r'⟩ := hr e w' r
  exact ⟨v, w', fr, r', s, x⟩
theorem RepL_int {M : Nat → Option Obj} {k : IntKind} : ∀ (l : List Int) (vs : List Value), RepL M (.int k) l vs → vs = l.map (.int k) ∧ ∀ x ∈ l, inR k x
  | [], vs, h => ⟨h, fun _ h => by cases h⟩
  | x :: l, vs, h => by
    obtain ⟨v1, v2, rfl, ⟨rfl, h1⟩, h2⟩ := h
    obtain ⟨rfl, h3⟩ := RepL_int l v2 h2
    refine ⟨rfl, fun y hy => ?_⟩
    rcases List.mem_cons.1 hy with rfl | hy
    · exact h1
    · exact h3 y hy
theorem RepL_int_mk {M : Nat → Option Obj} {k : IntKind} : ∀ (l : List Int), (∀ x ∈ l, inR k x) → RepL M (.int k) l (l.map (.int k))
  | [], _ => rfl
  | x :: l, h => ⟨[.int k x], l.map (.int k), rfl, ⟨rfl, h x (by simp)⟩, RepL_int_mk l (fun y hy => h y (by simp [hy]))⟩
theorem putCells_lst (enc : Int → Value) (d : List Int) (vs rest : List Value) (h : vs.length = d.length) : «Sort».putCells enc 0 d.toArray (vs ++ rest).toArray = (d.map enc ++ rest).toArray := by
  apply Array.ext_getElem?
  intro k
  simp only [«Sort».putCells, Array.getElem?_mapIdx, List.getElem?_toArray]
  by_cases c : k < d.length
  · rw [List.getElem?_append_left (by omega), List.getElem?_append_left (by simpa using c), List.getElem?_eq_getElem (by omega), List.getElem?_map, List.getElem?_eq_getElem c]
    simp [c]
  · rw [List.getElem?_append_right (by omega), List.getElem?_append_right (by simp; omega), List.length_map, h]
    cases rest[k - d.length]? with
    | none => rfl
    | some v => simp [c]
def delete_S (_N : Nat) (i j : Int) (l : List Int) : Option (List Int) := if 0 ≤ i ∧ i ≤ j ∧ j ≤ l.length ∧ 0 < l.length then some (l.take i.toNat ++ l.drop j.toNat) else none
noncomputable def sp_delete (N : Nat) : Spec := { f := 73, ins := ⟨[.ols 0, .i .i64, .i .i64], [.lst (.int .i64)]⟩, outs := [⟨[.ols 1], [.dead, .lst (.int .i64)]⟩], run := fun p k => (delete_S N p.1.2.1 p.1.2.2.1 p.2.1).bind fun r => k (((), ()), ((), r, ())) }
/-- An own list is written in place. -/
theorem Sim.inPlace {g : Gh} {w w' : World} {l l' : List Int} {b c n : Nat} {vs rest rest' : List Value} {ty : TypeId} {h0 : Nat → Option Blk'} (hs : Sim g h0 w) (hh : ∀ i k, h0 i = some k → i = 0) (h00 : h0 0 = some (.lst (.int .i64) l)) (he : g.ρ 0 = some (some (b, c, n))) (h1 : g.ρ 1 = none) (hM : g.M b = none) (hb : w.heap[b]? = some (.cells (vs ++ rest).toArray ty (0, 0)))
    (hos : w'.os = w.os) (htp : w'.tape = w.tape) (hout : w'.output = w.output) (hsz : w.heap.size ≤ w'.heap.size) (hsame : ∀ i, i < w.heap.size → i ≠ b → w'.heap[i]? = w.heap[i]?) (hb' : w'.heap[b]? = some (.cells ((l'.map (Value.int .i64)) ++ rest').toArray ty (0, 0))) (hr : ∀ x ∈ l', inR .i64 x) (hl : l'.length ≤ 1000000) (hc : l'.length ≤ c ∧ c ≤ 9223372036854775807) (hrl : rest'.length = c - l'.length) :
    ∃ g', Stp (Sw g h0 (List.range 1)) (fun i => 1 ≤ i ∧ i < 2) g w g' w' ∧ Sim g' (fun i => ([.dead, .lst (.int .i64) l'] : List Blk')[i]?) w' ∧ RepV g' (.ols 1) (.slice (some ⟨b, 0, none⟩) l'.length c) := by
  have hSw : Sw g h0 (List.range 1) b := ⟨0, by simp, _, c, n, h00, rfl, he⟩
  refine ⟨newG g 1 (some (b, c, l'.length)), ⟨hos, htp, hout, hsz, fun i hi hn => ?_, newG_ge h1, fun i h2 h3 => ?_, fun i b' c' n' h2 h3 => ?_, fun b' o h2 => .inl h2⟩, ⟨fun b' o h2 => ?_, fun i k hk => ?_, fun i j ki kj b' ci ni cj nj hi hj mi mj ei ej => ?_⟩, .inr ⟨b, c, l'.length, newG_self _ _ _, rfl⟩⟩
  · exact hsame i hi (fun e => hn (e ▸ hSw))
  · by_cases e : i = 1
    · omega
    · simp only [newG, if_neg e] at h3
      exact absurd h2 h3
  · by_cases e : i = 1
    · subst e
      rw [newG_self] at h3
      simp only [Option.some.injEq, Prod.mk.injEq] at h3
      exact .inr (h3.1 ▸ hSw)
    · simp only [newG, if_neg e] at h3
      rw [h2] at h3; cases h3
  · have h2' : g.M b' = some o := h2
    have hbb := hs.mem b' o h2'
    rw [hsame b' (lt_of_blk hbb) (fun e => by rw [e, hM] at h2'; cases h2')]
    exact hbb
  · match i, hk with
    | 0, hk => simp at hk; subst hk; trivial
    | 1, hk =>
      simp at hk; subst hk
      refine ⟨hl, .inr ⟨b, c, l'.map (Value.int .i64), rest', ty, newG_self _ _ _, hb', RepL_int_mk l' hr, hc, ?_, hM⟩⟩
      simp [Ty.cells, hrl]
    | i + 2, hk => simp at hk
  · match i, j, hi, hj with
    | 0, _, hi, _ => simp at hi; subst hi; cases mi
    | _, 0, _, hj => simp at hj; subst hj; cases mj
    | 1, 1, _, _ => rfl
    | i + 2, _, hi, _ => simp at hi
    | _, j + 2, _, hj => simp at hj
theorem sp_delete_ok (N : Nat) : SpecOK Try.prog (sp_delete N) := by
  refine ⟨fun Z p κ => ?_, fun args w => Sem.pv_run _ _ _ (by kernel_rfl) w, fun p r hpr g w vs hv hs hρ => ?_⟩
  · show ((delete_S N _ _ _).bind _) = ((delete_S N _ _ _).bind _).bind κ
    cases delete_S N _ _ _ <;> rfl
  · obtain ⟨⟨⟨⟩, (i : Int), (j : Int), ⟨⟩⟩, (l : List Int), ⟨⟩⟩ := p
    have hpr' : ((delete_S N i j l).bind fun r => some (((), ()), ((), r, ()))) = some r := hpr
    unfold delete_S at hpr'
    split at hpr'
    rotate_left
    · cases hpr'
    rename_i hc
    simp only [Option.bind_some] at hpr'
    cases hpr'
    obtain ⟨hi0, hij, hjl, hl0⟩ := hc
    -- the arguments
    simp only [encs, enc, RepVs] at hv
    obtain ⟨v0, us, rfl, h0, v1, us1, rfl, h1, v2, us2, rfl, h2, rfl⟩ := hv
    simp only [RepV] at h0 h1 h2
    obtain ⟨rfl, hi1⟩ := h1
    obtain ⟨rfl, hj1⟩ := h2
    have hB := hs.blk 0 (.lst (.int .i64) l) rfl
    obtain ⟨hlen, hB⟩ := hB
    rcases hB with ⟨_, e⟩ | ⟨b, c, cs, rest, ty, e0, hb, hL, hcap, hrest, hM⟩
    · rw [e] at hl0; simp at hl0
    rcases h0 with ⟨e, _⟩ | ⟨b2, c2, n2, e, rfl⟩
    · simp only [id] at e; rw [e0] at e; cases e
    simp only [id] at e
    rw [e0] at e
    simp only [Option.some.injEq, Prod.mk.injEq] at e
    obtain ⟨rfl, rfl, rfl⟩ := e
    obtain ⟨rfl, hr⟩ := RepL_int l cs hL
    obtain ⟨i, rfl⟩ : ∃ k : Nat, i = k := ⟨i.toNat, by omega⟩
    obtain ⟨j, rfl⟩ : ∃ k : Nat, j = k := ⟨j.toNat, by omega⟩
    simp only [Int.toNat_natCast] at *
    have hholds : «Sort».Holds (Value.int .i64) w b 0 l.toArray := by
      intro k hk
      simp only [List.size_toArray] at hk
      have hcell : (l.map (Value.int .i64) ++ rest)[k]? = some (.int .i64 l[k]!) := by
        rw [List.getElem?_append_left (by simpa using hk), List.getElem?_map, List.getElem?_eq_getElem hk]
        simp [hk]
      refine ⟨?_, ?_⟩
      · unfold World.cell?
        rw [hb]
        simpa using hcell
      · unfold World.frozen?
        rw [hb]
        simp
    have hC := Any.slices_Delete_int layDel b 0 c i j l w hholds hcap.1 hcap.2 (by omega) (by omega)
    refine Fn.ofCalls hC (fun e w' he => ?_)
    obtain ⟨rfl, q, hw⟩ := he
    refine ⟨_, rfl, ?_⟩
    have hsz : (l.take i ++ l.drop j).length = l.length - (j - i) := by simp; omega
    have hheap : w'.heap = w.heap.modify b («Sort».onCells («Sort».putCells (Value.int .i64) 0 (l.take i ++ l.drop j ++ List.replicate (j - i) 0).toArray)) := by rw [hw]; rfl
    have hb' : w'.heap[b]? = some (.cells (((l.take i ++ l.drop j).map (Value.int .i64)) ++ ((List.replicate (j - i) (0 : Int)).map (Value.int .i64) ++ rest)).toArray ty (0, 0)) := by
      rw [hheap, Array.getElem?_modify, if_pos rfl, hb]
      simp only [Option.map_some, «Sort».onCells]
      rw [putCells_lst _ _ _ _ (by simp; omega), List.map_append, List.append_assoc]
    obtain ⟨g', st, hs', hv'⟩ := Sim.inPlace (l' := l.take i ++ l.drop j) (w' := w') hs (fun i k hk => by
      match i, hk with
      | 0, _ => rfl
      | i + 1, hk =>
        have hk' : ([.lst (.int .i64) l] : List Blk')[i + 1]? = some k := hk
        simp at hk') rfl e0 (hρ 1 (Nat.le_refl 1)) hM hb (by rw [hw]; rfl) (by rw [hw]; rfl) (by rw [hw]; rfl) (by rw [hheap]; simp) (fun k hk hne => by rw [hheap, Array.getElem?_modify, if_neg (fun h => hne h.symm)]) hb' (fun x hx => by
        rcases List.mem_append.1 hx with hx | hx
        · exact hr x (List.mem_of_mem_take hx)
        · exact hr x (List.mem_of_mem_drop hx)) (by omega) (by omega) (by simp [Ty.cells] at hrest ⊢; omega)
    refine ⟨g', st, hs', ?_⟩
    rw [hsz] at hv'
    exact hv'
end Go.Proofs.Ytfamlpbdhhikdaa

namespace Go.Proofs.Ytfamlpbdhhikdaa
set_option linter.all false
open Go

end Go.Proofs.Ytfamlpbdhhikdaa

namespace Go.Proofs.Ytfamlpbdhhikdaa
set_option linter.all false
open Go

section
variable {N : Nat}
variable {ws : List Wd} {ts : List Tn} {br_ : Int} {b : List Int}
/-! ### To leave out one word -/
/-! ### The rounds -/
end
end Go.Proofs.Ytfamlpbdhhikdaa

namespace Go.Proofs.Ytfamlpbdhhikdaa
set_option linter.all false
open Go

end Go.Proofs.Ytfamlpbdhhikdaa

namespace Go.Proofs.Ytfamlpbdhhikdaa
set_option linter.all false
open Go

/-- Two words lie in the same right breath. -/
def Jn (R : Nat → Nat → Bool) (m : Nat) (x y : Nat) : Prop := ∃ f t, f ≤ x ∧ x < y ∧ y < t ∧ t ≤ m ∧ R f t = true
/-- What a table of pairs says. -/
def Jt (J : List Bool) (P : Nat → Nat → Prop) : Prop := J.length = 144 ∧ ∀ a b, a < 12 → b < 12 → (J.getD (a * 12 + b) false = true ↔ P a b)
theorem Jt.mono {J : List Bool} {P Q : Nat → Nat → Prop} (h : Jt J P) (hpq : ∀ a b, a < 12 → b < 12 → (P a b ↔ Q a b)) : Jt J Q := ⟨h.1, fun a b x y => (h.2 a b x y).trans (hpq a b x y)⟩
theorem Jt.set {J : List Bool} {P : Nat → Nat → Prop} (h : Jt J P) {a b : Nat} (ha : a < 12) (hb : b < 12) : Jt (J.set (a * 12 + b) true) (fun x y => P x y ∨ x = a ∧ y = b) := by
  refine ⟨by rw [List.length_set]; exact h.1, fun x y hx hy => ?_⟩
  have hl := h.1
  rw [getD_set' (by omega)]
  by_cases e : a * 12 + b = x * 12 + y
  · have e1 : x = a := by omega
    have e2 : y = b := by omega
    simp [e1, e2]
  · rw [if_neg e, h.2 x y hx hy]
    constructor
    · exact fun h => .inl h
    · rintro (h | ⟨h1, h2⟩)
      · exact h
      · exact absurd (by rw [h1, h2]) e
section
variable {N : Nat} {ws : List Wd} {ts : List Tn} {br_ : Int}
variable (hN : 110 ≤ N) (hF : TFine ws ts br_)
include hN hF
end
/-! ### Lists of words, no two of which are joined -/
/-- What the search comes to: of lists that go on from one, a longer one, the first of the longest ones. -/
def LnF (m : Int) (V : List Int → Prop) (e0 : Bool) (l : List Int) (lo : Int) (g g' : List Int) : Prop :=
  (g' = g ∨ g.length < g'.length ∧ ∃ c, okC m lo c ∧ (e0 = true → c ≠ []) ∧ g' = l ++ c ∧ V g') ∧ g.length ≤ g'.length ∧
  ∀ c, okC m lo c → (e0 = true → c ≠ []) → V (l ++ c) → (l ++ c).length ≤ g'.length ∧ (g.length < (l ++ c).length → (l ++ c).length = g'.length → bef (l ++ c) g' = false)
theorem bef_app (l : List Int) (a b : List Int) : bef (l ++ a) (l ++ b) = bef a b := by
  induction l with
  | nil => rfl
  | cons x l ih =>
    show (if x = x then bef (l ++ a) (l ++ b) else decide (x < x)) = _
    rw [if_pos rfl, ih]
theorem LnF.none {m : Int} {V : List Int → Prop} {l : List Int} {w : Int} {g : List Int} (h : m ≤ w) : LnF m V true l w g g := by
  refine ⟨.inl rfl, Nat.le_refl _, fun c hc hn => ?_⟩
  have := okC_len hc (hn rfl)
  have : c.length = 0 := by omega
  exact absurd (List.eq_nil_of_length_eq_zero this) (hn rfl)
theorem LnF.skip {m : Int} {V : List Int → Prop} {l : List Int} {w : Int} {g g' : List Int} (hV : ∀ r, ¬ V (l ++ w :: r)) (h : LnF m V true l (w + 1) g g') : LnF m V true l w g g' := by
  obtain ⟨h1, h2, h3⟩ := h
  refine ⟨?_, h2, fun c hc hn hv => ?_⟩
  · rcases h1 with h1 | ⟨h1, c, c1, c2⟩
    · exact .inl h1
    · exact .inr ⟨h1, c, okC_mono (by omega) c1, c2⟩
  · cases c with
    | nil => exact absurd rfl (hn rfl)
    | cons a r =>
      obtain ⟨⟨a1, a2⟩, a3⟩ := hc
      by_cases e : a = w
      · subst e; exact absurd hv (hV r)
      · exact h3 (a :: r) ⟨⟨by omega, a2⟩, a3⟩ hn hv
theorem LnF.step {m : Int} {V : List Int → Prop} {l : List Int} {w : Int} {g g1 g' : List Int} (hw : w < m) (h : LnF m V false (l ++ [w]) (w + 1) g g1) (h' : LnF m V true l (w + 1) g1 g') : LnF m V true l w g g' := by
  obtain ⟨h1, h2, h3⟩ := h
  obtain ⟨k1, k2, k3⟩ := h'
  have e1 : ∀ r, l ++ [w] ++ r = l ++ w :: r := fun r => by simp
  refine ⟨?_, by omega, fun c hc hn hv => ?_⟩
  · rcases k1 with rfl | ⟨k1, c, c1, c2⟩
    · rcases h1 with rfl | ⟨h1, c, c1, _, c3⟩
      · exact .inl rfl
      · exact .inr ⟨h1, w :: c, ⟨⟨by omega, hw⟩, c1⟩, fun _ => by simp, by rw [← e1]; exact c3.1, c3.2⟩
    · exact .inr ⟨by omega, c, okC_mono (by omega) c1, c2⟩
  · cases c with
    | nil => exact absurd rfl (hn rfl)
    | cons a r =>
      obtain ⟨⟨a1, a2⟩, a3⟩ := hc
      by_cases e : a = w
      · subst e
        have := h3 r a3 (fun h => by cases h) (by rw [e1]; exact hv)
        rw [e1] at this
        refine ⟨by omega, fun q1 q2 => ?_⟩
        have hgl : g1.length = g'.length := by omega
        rcases k1 with rfl | ⟨k1, _⟩
        · exact this.2 q1 (by omega)
        · omega
      · have := k3 (a :: r) ⟨⟨by omega, a2⟩, a3⟩ (fun _ => by simp) hv
        refine ⟨this.1, fun q1 q2 => ?_⟩
        by_cases d : g1.length < (l ++ a :: r).length
        · exact this.2 d q2
        · rcases k1 with rfl | ⟨k1, _⟩
          · rcases h1 with rfl | ⟨_, c, _, _, c3, _⟩
            · omega
            · rw [c3, e1, bef_app]
              unfold bef
              rw [if_neg e, decide_eq_false (by omega)]
          · omega
section
variable {N : Nat} {ws : List Wd} {ts : List Tn} {br_ : Int}
variable (hN : 110 ≤ N) (hF : TFine ws ts br_)
include hN hF
/-- As many words as can be, no two of which are joined: of such lists the first one. -/
def LoneW (m : Nat) (R : Nat → Nat → Bool) (l : List Int) : Prop :=
  okC m 0 l ∧ l.Pairwise (fun a b => ¬ Jn R m a.toNat b.toNat) ∧ ∀ c, okC m 0 c → c.Pairwise (fun a b => ¬ Jn R m a.toNat b.toNat) → c.length ≤ l.length ∧ (c.length = l.length → bef c l = false)
end
end Go.Proofs.Ytfamlpbdhhikdaa

namespace Go.Proofs.Ytfamlpbdhhikdaa
set_option linter.all false
open Go

/-! ### The reference's lone words -/
section
variable {N : Nat} {ws : List Wd} {ts : List Tn} {br_ : Int}
variable (hN : 110 ≤ N) (hF : TFine ws ts br_)
include hN hF
omit hN hF
/-- Longer, or as long and ahead. -/
def betr (a b : List Int) : Prop := b.length < a.length ∨ a.length = b.length ∧ bef a b = true
theorem betr_trans {a b c : List Int} : betr a b → betr b c → betr a c := by
  rintro (h | ⟨h, h2⟩) (g | ⟨g, g2⟩)
  · exact .inl (by omega)
  · exact .inl (by omega)
  · exact .inl (by omega)
  · exact .inr ⟨by omega, bef_trans h2 g2⟩
theorem betr_self (l : List Int) : ¬ betr l l := by
  rintro (h | ⟨_, h⟩)
  · omega
  · rw [bef_self] at h; cases h
def BestL (m : Nat) (R : Nat → Nat → Bool) (k : Nat) (best : List Int) : Prop :=
  (okC m 0 best ∧ best.Pairwise (fun a b => ¬ Jn R m a.toNat b.toNat)) ∧ ∀ i, i < k → (lst m 0 i).Pairwise (fun a b => ¬ Jn R m a.toNat b.toNat) → ¬ betr (lst m 0 i) best
theorem BestL.skip {m : Nat} {R : Nat → Nat → Bool} {k : Nat} {best : List Int} (h : BestL m R k best) (hp : (lst m 0 k).Pairwise (fun a b => ¬ Jn R m a.toNat b.toNat) → ¬ betr (lst m 0 k) best) : BestL m R (k + 1) best :=
  ⟨h.1, fun i a b => by
    by_cases e : i = k
    · rw [e] at b ⊢; exact hp b
    · exact h.2 i (by omega) b⟩
theorem BestL.take {m : Nat} {R : Nat → Nat → Bool} {k : Nat} {best : List Int} (h : BestL m R k best) (hp : (lst m 0 k).Pairwise (fun a b => ¬ Jn R m a.toNat b.toNat)) (hb : betr (lst m 0 k) best) : BestL m R (k + 1) (lst m 0 k) := by
  have ho := lst_ok m 0 k
  rw [Int.zero_add] at ho
  refine ⟨⟨ho, hp⟩, fun i a b c => ?_⟩
  by_cases e : i = k
  · rw [e] at c; exact betr_self _ c
  · exact h.2 i (by omega) b (betr_trans c hb)
theorem BestL.done {m : Nat} {R : Nat → Nat → Bool} {best : List Int} (h : BestL m R (2 ^ m) best) : LoneW m R best := by
  refine ⟨h.1.1, h.1.2, fun c hc hp => ?_⟩
  obtain ⟨n, h1, rfl⟩ := lst_all m 0 c (by rw [Int.zero_add]; exact hc)
  have := h.2 n h1 hp
  unfold betr at this
  refine ⟨?_, fun e => ?_⟩
  · rcases Nat.lt_or_ge best.length (lst m 0 n).length with d | d
    · exact absurd (.inl d) this
    · exact d
  · cases hb : bef (lst m 0 n) best
    · rfl
    · exact absurd (.inr ⟨e, hb⟩) this
include hN hF
/-! ### The reference's marks -/
end
end Go.Proofs.Ytfamlpbdhhikdaa

namespace Go.Proofs.Ytfamlpbdhhikdaa
set_option linter.all false
open Go

/-! ### As many words as breaths -/
section
variable {R : Nat → Nat → Bool} {m : Nat}
end
section
variable {N : Nat} {ws : List Wd} {ts : List Tn} {br_ : Int}
variable (hN : 110 ≤ N) (hF : TFine ws ts br_)
include hN hF
end
end Go.Proofs.Ytfamlpbdhhikdaa

namespace Go.Proofs.Ytfamlpbdhhikdaa
set_option linter.all false
open Go

def tcounted_j1 (N : Nat) (rec : Int → (List Int) → Int → Int → Int → Int → Int → Int → (List (Int × (Int × Bool))) → (List (Int × (Int × Int))) → Int → (List Bool) → (List Int) → Option (Int × List Int × Int × Int × Int × (List (Int × (Int × Bool))) × (List (Int × (Int × Int))) × Int × List Bool × List Int)) (n : Int) (never : List Int) (many : Int) (set : Int) (from_ : Int) (at_ : Int) (u : Int) (u2 : Int) (t : List (Int × (Int × Bool))) (t2 : List (Int × (Int × Int))) (t3 : Int) (met : List Bool) (l : List Int) : Option (Int × List Int × Int × Int × Int × (List (Int × (Int × Bool))) × (List (Int × (Int × Int))) × Int × List Bool × List Int) :=
  chk (at_ + 1) <|
  rec n never many set from_ (at_ + 1) u u2 t t2 t3 met l
def tcounted_l2 (N : Nat) : Nat → Int → (List Int) → Int → Int → Int → Int → Int → Int → (List (Int × (Int × Bool))) → (List (Int × (Int × Int))) → Int → (List Bool) → (List Int) → Option (Int × List Int × Int × Int × Int × (List (Int × (Int × Bool))) × (List (Int × (Int × Int))) × Int × List Bool × List Int)
  | 0, _, _, _, _, _, _, _, _, _, _, _, _, _ => none
  | n_ + 1, n, never, many, set, from_, at_, u, u2, t, t2, t3, met, l =>
    br (decide (at_ ≤ (t.length : Int)))
      (br (decide (at_ = (t.length : Int)))
        (chk (at_ - from_) <|
        lim (l.length + [(at_ - from_)].length) <|
        tcounted_j1 N (tcounted_l2 N n_) n never many set at_ at_ u u2 t t2 t3 met (l ++ [(at_ - from_)]))
        (chk (at_ - 1) <|
        grd (decide (0 ≤ (at_ - 1) ∧ (at_ - 1) ≤ 31)) <|
        grd (decide (0 ≤ (Int.fdiv set (2 ^ (at_ - 1).toNat)) ∧ (0 : Int) ≤ 1)) <|
        br (decide ((((Int.fdiv set (2 ^ (at_ - 1).toNat)).toNat &&& 1 : Nat) : Int) = 1))
          (chk (at_ - from_) <|
          lim (l.length + [(at_ - from_)].length) <|
          tcounted_j1 N (tcounted_l2 N n_) n never many set at_ at_ u u2 t t2 t3 met (l ++ [(at_ - from_)]))
          (tcounted_j1 N (tcounted_l2 N n_) n never many set from_ at_ u u2 t t2 t3 met l)))
      (some ((n, never, many, u, u2, t, t2, t3, met, l)))
def tcounted_j2 (N : Nat) (rec : Int → (List Int) → Int → Int → Int → (List (Int × (Int × Bool))) → (List (Int × (Int × Int))) → Int → (List Bool) → Option (Int × List Int × Int × (List (Int × (Int × Bool))) × (List (Int × (Int × Int))) × Int × List Bool)) (n : Int) (never : List Int) (many : Int) (u : Int) (u2 : Int) (t : List (Int × (Int × Bool))) (t2 : List (Int × (Int × Int))) (t3 : Int) (met : List Bool) : Option (Int × List Int × Int × (List (Int × (Int × Bool))) × (List (Int × (Int × Int))) × Int × List Bool) :=
  chk (u2 + 1) <|
  rec n never many u (u2 + 1) t t2 t3 met
def tcounted_l3 (N : Nat) : Nat → Int → (List Int) → Int → Int → Int → (List Int) → Int → Int → (List (Int × (Int × Bool))) → (List (Int × (Int × Int))) → Int → (List Bool) → Option (Int × List Int × Int × Int × Int × (List (Int × (Int × Bool))) × (List (Int × (Int × Int))) × Int × List Bool)
  | 0, _, _, _, _, _, _, _, _, _, _, _, _ => none
  | n_ + 1, n, never, many, u, u2, u3, u4, u5, t, t2, t3, met =>
    br (decide (u5 < u4))
      (idx u3 u5 fun x_26 =>
      rng x_26 met.length <|
      get met x_26.toNat fun _ =>
      chk (u5 + 1) <|
      tcounted_l3 N n_ n never many u u2 u3 u4 (u5 + 1) t t2 t3 (met.set x_26.toNat true))
      (some ((n, never, many, u, u2, t, t2, t3, met)))
def tcounted_l1 (N : Nat) : Nat → Int → (List Int) → Int → Int → Int → (List (Int × (Int × Bool))) → (List (Int × (Int × Int))) → Int → (List Bool) → Option (Int × List Int × Int × (List (Int × (Int × Bool))) × (List (Int × (Int × Int))) × Int × List Bool)
  | 0, _, _, _, _, _, _, _, _, _ => none
  | n_ + 1, n, never, many, u, u2, t, t2, t3, met =>
    br (decide (u2 < u))
      ((tcounted_l2 N N n never many u2 0 1 u u2 t t2 t3 met []).bind fun (n_14, never_15, many_16, u_17, u2_18, t_19, t2_20, t3_21, met_22, l_23) =>
      (sound_S N t_19 t2_20 t3_21 l_23).bind fun x_24 =>
      br (!x_24)
        (tcounted_j2 N (tcounted_l1 N n_) n_14 never_15 many_16 u_17 u2_18 t_19 t2_20 t3_21 met_22)
        (chk (many_16 + 1) <|
        (places_S N t_19 t2_20 t3_21 l_23).bind fun x_25 =>
        (tcounted_l3 N N n_14 never_15 (many_16 + 1) u_17 u2_18 x_25 (x_25.length : Int) 0 t_19 t2_20 t3_21 met_22).bind fun (n_28, never_29, many_30, u_31, u2_32, t_33, t2_34, t3_35, met_36) =>
        tcounted_j2 N (tcounted_l1 N n_) n_28 never_29 many_30 u_31 u2_32 t_33 t2_34 t3_35 met_36))
      (some ((n, never, many, t, t2, t3, met)))
def tcounted_l4 (N : Nat) : Nat → Int → (List Int) → Int → (List (Int × (Int × Bool))) → (List (Int × (Int × Int))) → Int → (List Bool) → Option ((Unit) ⊕ (Unit))
  | 0, _, _, _, _, _, _, _ => none
  | n_ + 1, n, never, at_, t, t2, t3, met =>
    br (decide (at_ < (t.length : Int)))
      (br (decide (0 < n))
        (rng at_ met.length <|
        get met at_.toNat fun x_44 =>
        (containsi_S N never at_).bind fun x_45 =>
        br (x_44 == x_45)
          (some (.inl ()))
          (chk (at_ + 1) <|
          tcounted_l4 N n_ n never (at_ + 1) t t2 t3 met))
        (chk (at_ + 1) <|
        tcounted_l4 N n_ n never (at_ + 1) t t2 t3 met))
      (some (.inr ()))
def tcounted_S (N : Nat) (numbers : List Int) : Option Bool :=
  (hang_S N numbers).bind fun (x_1, y_2, y_3) =>
  (made_S N 8 3 x_1 y_2 y_3).bind fun (x_4, y_5, y_6, y_7, y_8, y_9) =>
  (count_S N x_4 y_5 y_6).bind fun (x_10, y_11) =>
  (never_S N x_4 y_5 y_6).bind fun (x_12, y_13) =>
  br (!decide (y_11 = 0))
    (some false)
    (br (!decide (y_13 = 0))
      (br (!decide (y_13 = 6))
        (some false)
        (br (!((decide (y_13 = 0)) == (decide (0 < x_10))))
          (some false)
          (chk ((x_4.length : Int) + 1) <|
          grd (lmI ((x_4.length : Int) + 1)) <|
          chk ((x_4.length : Int) - 1) <|
          grd (decide (0 ≤ ((x_4.length : Int) - 1) ∧ ((x_4.length : Int) - 1) ≤ 62)) <|
          chk (1 * 2 ^ ((x_4.length : Int) - 1).toNat) <|
          (tcounted_l1 N N x_10 x_12 0 (1 * 2 ^ ((x_4.length : Int) - 1).toNat) 0 x_4 y_5 y_6 (List.replicate ((x_4.length : Int) + 1).toNat (false : Bool))).bind fun (n_37, never_38, many_39, t_40, t2_41, t3_42, met_43) =>
          br (!decide (many_39 = n_37))
            (some false)
            ((tcounted_l4 N N n_37 never_38 1 t_40 t2_41 t3_42 met_43).bind fun e => match e with
            | .inl _ =>
              some false
            | .inr _ =>
              (awake_S N).bind fun x_46 =>
              some x_46))))
      (br (!((decide (y_13 = 0)) == (decide (0 < x_10))))
        (some false)
        (chk ((x_4.length : Int) + 1) <|
        grd (lmI ((x_4.length : Int) + 1)) <|
        chk ((x_4.length : Int) - 1) <|
        grd (decide (0 ≤ ((x_4.length : Int) - 1) ∧ ((x_4.length : Int) - 1) ≤ 62)) <|
        chk (1 * 2 ^ ((x_4.length : Int) - 1).toNat) <|
        (tcounted_l1 N N x_10 x_12 0 (1 * 2 ^ ((x_4.length : Int) - 1).toNat) 0 x_4 y_5 y_6 (List.replicate ((x_4.length : Int) + 1).toNat (false : Bool))).bind fun (n_47, never_48, many_49, t_50, t2_51, t3_52, met_53) =>
        br (!decide (many_49 = n_47))
          (some false)
          ((tcounted_l4 N N n_47 never_48 1 t_50 t2_51 t3_52 met_53).bind fun e => match e with
          | .inl _ =>
            some false
          | .inr _ =>
            (awake_S N).bind fun x_54 =>
            some x_54))))
noncomputable def tcounted_sp (N : Nat) : List Spec := [sp_hang N, sp_containsi N, sp_count N, sp_never N, sp_awake N, sp_made N, sp_places N, sp_sound N]
theorem tcounted_all (N : Nat) : AllP (SpecOK Try.prog) (tcounted_sp N) := ⟨sp_hang_ok N, sp_containsi_ok N, sp_count_ok N, sp_never_ok N, sp_awake_ok N, sp_made_ok N, sp_places_ok N, sp_sound_ok N, trivial⟩
noncomputable def tcounted_c : Code := (Try.f5.body).getD .skip
noncomputable abbrev tcounted_B : Body := { c := tcounted_c, n := 129, res := [.tmp 2], outs := [⟨[.b], []⟩], m0 := 0 }
abbrev tcounted_rt : altD tcounted_B.outs → Option Bool := fun r => some r.1.1
abbrev tcounted_l2_at : List PI := [.c [1, 1, 1, 1, 1, 1, 1, 0, 1, 0, 0, 1, 1, 0, 0, 1, 1, 1, 0, 1, 0, 0, 0, 0], .c [1, 1, 1, 1, 1, 1, 1, 0, 1, 0, 0, 1, 1, 0, 0, 1, 1, 1, 0, 1, 0, 0, 0, 1], .c [1, 1, 1, 1, 1, 1, 1, 0, 1, 0, 0, 1, 1, 0, 0, 1, 1, 1, 0, 1, 0, 0, 1], .l [1, 1, 1, 1, 1, 1, 1, 0, 1, 0, 0, 1, 1, 0, 0, 1, 1, 1, 0, 1, 0, 0], .b 2, .c [1, 1, 1, 1, 1, 1, 1, 0, 1, 0, 0, 1, 1, 0, 0, 1, 1, 1, 1], .b 1, .c [1, 1, 1, 1, 1, 1, 1, 0, 1, 0, 0, 1, 1, 1], .l [1, 1, 1, 1, 1, 1, 1, 0, 1, 0, 0], .b 0, .c [1, 1, 1, 1, 1, 1, 1, 1]]
abbrev tcounted_l2_st : Sta := ⟨[3, 4, 6, 8, 9, 10, 11, 12, 13, 56, 57], ⟨[.own 0 0, .i .i64, .sl (.int .i64), .i .i64, .ols 1, .i .i64, .ols 2, .i .i64, .i .i64, .i .i64, .i .i64], [.segs [.sl (.pair (.int .i64) (.pair (.int .i64) .bool)), .sl (.pair (.int .i64) (.pair (.int .i64) (.int .i64))), .i .i64], .lst .bool, .lst (.int .i64)]⟩⟩
abbrev tcounted_l2_h (rec : Int → (List Int) → Int → Int → Int → Int → Int → Int → (List (Int × (Int × Bool))) → (List (Int × (Int × Int))) → Int → (List Bool) → (List Int) → Option (Int × List Int × Int × Int × Int × (List (Int × (Int × Bool))) × (List (Int × (Int × Int))) × Int × List Bool × List Int)) : Leaf (Int × List Int × Int × Int × Int × (List (Int × (Int × Bool))) × (List (Int × (Int × Int))) × Int × List Bool × List Int) := ⟨tcounted_l2_at, tcounted_l2_st, fun p => rec p.1.2.1 p.1.2.2.1 p.1.2.2.2.1 p.1.2.2.2.2.2.1 p.1.2.2.2.2.2.2.2.1 p.1.2.2.2.2.2.2.2.2.1 p.1.2.2.2.2.2.2.2.2.2.1 p.1.2.2.2.2.2.2.2.2.2.2.1 p.2.1.1 p.2.1.2.1 p.2.1.2.2.1 p.2.2.1 p.2.2.2.1⟩
abbrev tcounted_l2_e0 : Leaf (Int × List Int × Int × Int × Int × (List (Int × (Int × Bool))) × (List (Int × (Int × Int))) × Int × List Bool × List Int) := ⟨[.c [1, 1, 1, 1, 1, 1, 1, 0, 1, 0, 0, 1, 1, 0, 0, 1, 1, 1, 1, 0, 0], .c [1, 1, 1, 1, 1, 1, 1, 0, 1, 0, 0, 1, 1, 0, 0, 1, 1, 1, 1, 0, 1], .c [1, 1, 1, 1, 1, 1, 1, 0, 1, 0, 0, 1, 1, 0, 0, 1, 1, 1, 1, 1], .b 1, .c [1, 1, 1, 1, 1, 1, 1, 0, 1, 0, 0, 1, 1, 1], .l [1, 1, 1, 1, 1, 1, 1, 0, 1, 0, 0], .b 0, .c [1, 1, 1, 1, 1, 1, 1, 1]], ⟨[3, 4, 6, 8, 9, 11, 56, 57], ⟨[.own 0 0, .i .i64, .sl (.int .i64), .i .i64, .ols 1, .ols 2, .i .i64, .i .i64], [.segs [.sl (.pair (.int .i64) (.pair (.int .i64) .bool)), .sl (.pair (.int .i64) (.pair (.int .i64) (.int .i64))), .i .i64], .lst .bool, .lst (.int .i64)]⟩⟩, fun p => some ((p.1.2.1, p.1.2.2.1, p.1.2.2.2.1, p.1.2.2.2.2.2.2.1, p.1.2.2.2.2.2.2.2.1, p.2.1.1, p.2.1.2.1, p.2.1.2.2.1, p.2.2.1, p.2.2.2.1))⟩
abbrev tcounted_j1_at : List PI := [.c [1, 1, 1, 1, 1, 1, 1, 0, 1, 0, 0, 1, 1, 0, 0, 1, 1, 1, 0, 1, 0, 0, 1, 1], .l [1, 1, 1, 1, 1, 1, 1, 0, 1, 0, 0, 1, 1, 0, 0, 1, 1, 1, 0, 1, 0, 0], .b 2, .c [1, 1, 1, 1, 1, 1, 1, 0, 1, 0, 0, 1, 1, 0, 0, 1, 1, 1, 1], .b 1, .c [1, 1, 1, 1, 1, 1, 1, 0, 1, 0, 0, 1, 1, 1], .l [1, 1, 1, 1, 1, 1, 1, 0, 1, 0, 0], .b 0, .c [1, 1, 1, 1, 1, 1, 1, 1]]
abbrev tcounted_j1_st : Sta := ⟨[3, 4, 6, 8, 9, 10, 11, 12, 13, 56, 57], ⟨[.own 0 0, .i .i64, .sl (.int .i64), .i .i64, .ols 1, .i .i64, .ols 2, .i .i64, .i .i64, .i .i64, .i .i64], [.segs [.sl (.pair (.int .i64) (.pair (.int .i64) .bool)), .sl (.pair (.int .i64) (.pair (.int .i64) (.int .i64))), .i .i64], .lst .bool, .lst (.int .i64)]⟩⟩
abbrev tcounted_j1_k (N : Nat) (rec : Int → (List Int) → Int → Int → Int → Int → Int → Int → (List (Int × (Int × Bool))) → (List (Int × (Int × Int))) → Int → (List Bool) → (List Int) → Option (Int × List Int × Int × Int × Int × (List (Int × (Int × Bool))) × (List (Int × (Int × Int))) × Int × List Bool × List Int)) : Leaf (Int × List Int × Int × Int × Int × (List (Int × (Int × Bool))) × (List (Int × (Int × Int))) × Int × List Bool × List Int) := ⟨tcounted_j1_at, tcounted_j1_st, fun p => tcounted_j1 N rec p.1.2.1 p.1.2.2.1 p.1.2.2.2.1 p.1.2.2.2.2.2.1 p.1.2.2.2.2.2.2.2.1 p.1.2.2.2.2.2.2.2.2.1 p.1.2.2.2.2.2.2.2.2.2.1 p.1.2.2.2.2.2.2.2.2.2.2.1 p.2.1.1 p.2.1.2.1 p.2.1.2.2.1 p.2.2.1 p.2.2.2.1⟩
theorem tcounted_j1_eq (N : Nat) (rec : Int → (List Int) → Int → Int → Int → Int → Int → Int → (List (Int × (Int × Bool))) → (List (Int × (Int × Int))) → Int → (List Bool) → (List Int) → Option (Int × List Int × Int × Int × Int × (List (Int × (Int × Bool))) × (List (Int × (Int × Int))) × Int × List Bool × List Int)) (n : Int) (never : List Int) (many : Int) (set : Int) (from_ : Int) (at_ : Int) (u : Int) (u2 : Int) (t : List (Int × (Int × Bool))) (t2 : List (Int × (Int × Int))) (t3 : Int) (met : List Bool) (l : List Int) : ev (Z := Int × List Int × Int × Int × Int × (List (Int × (Int × Bool))) × (List (Int × (Int × Int))) × Int × List Bool × List Int) Try.prog (tcounted_sp N) tcounted_B [] [tcounted_l2_h rec, tcounted_l2_e0] none 400 true tcounted_j1_at (stL tcounted_j1_st (((), n, never, many, (), set, (), from_, at_, u, u2, ()), ((t, t2, t3, ()), met, l, ()))) (stH tcounted_j1_st (((), n, never, many, (), set, (), from_, at_, u, u2, ()), ((t, t2, t3, ()), met, l, ()))) = tcounted_j1 N rec n never many set from_ at_ u u2 t t2 t3 met l := by kernel_rfl
theorem tcounted_j1_lf (N : Nat) (rec : Int → (List Int) → Int → Int → Int → Int → Int → Int → (List (Int × (Int × Bool))) → (List (Int × (Int × Int))) → Int → (List Bool) → (List Int) → Option (Int × List Int × Int × Int × Int × (List (Int × (Int × Bool))) × (List (Int × (Int × Int))) × Int × List Bool × List Int)) {z : Int × List Int × Int × Int × Int × (List (Int × (Int × Bool))) × (List (Int × (Int × Int))) × Int × List Bool × List Int} {top : Bool} {E : EE} {Xc : Ctx} (hE : EOK tcounted_B.m0 E) (hX : CxOK top Xc) (hrec : LeafOK Try.prog tcounted_B.c tcounted_B.n tcounted_B.m0 E Xc z (tcounted_l2_h rec)) (h0 : LeafOK Try.prog tcounted_B.c tcounted_B.n tcounted_B.m0 E Xc z tcounted_l2_e0) : LeafOK Try.prog tcounted_B.c tcounted_B.n tcounted_B.m0 E Xc z (tcounted_j1_k N rec) := leaf_of_ev (B := tcounted_B) (loops := []) (leaves := [tcounted_l2_h rec, tcounted_l2_e0]) (tcounted_all N) mixed trivial hE hX ⟨hrec, h0, trivial⟩ RetOK.no (fun p => tcounted_j1_eq N rec p.1.2.1 p.1.2.2.1 p.1.2.2.2.1 p.1.2.2.2.2.2.1 p.1.2.2.2.2.2.2.2.1 p.1.2.2.2.2.2.2.2.2.1 p.1.2.2.2.2.2.2.2.2.2.1 p.1.2.2.2.2.2.2.2.2.2.2.1 p.2.1.1 p.2.1.2.1 p.2.1.2.2.1 p.2.2.1 p.2.2.2.1)
noncomputable def tcounted_l2_L (N : Nat) : LoopS := { at_ := tcounted_l2_at, sta := tcounted_l2_st, exits := [([.c [1, 1, 1, 1, 1, 1, 1, 0, 1, 0, 0, 1, 1, 0, 0, 1, 1, 1, 1, 0, 0], .c [1, 1, 1, 1, 1, 1, 1, 0, 1, 0, 0, 1, 1, 0, 0, 1, 1, 1, 1, 0, 1], .c [1, 1, 1, 1, 1, 1, 1, 0, 1, 0, 0, 1, 1, 0, 0, 1, 1, 1, 1, 1], .b 1, .c [1, 1, 1, 1, 1, 1, 1, 0, 1, 0, 0, 1, 1, 1], .l [1, 1, 1, 1, 1, 1, 1, 0, 1, 0, 0], .b 0, .c [1, 1, 1, 1, 1, 1, 1, 1]], ⟨[3, 4, 6, 8, 9, 11, 56, 57], ⟨[.own 0 0, .i .i64, .sl (.int .i64), .i .i64, .ols 1, .ols 2, .i .i64, .i .i64], [.segs [.sl (.pair (.int .i64) (.pair (.int .i64) .bool)), .sl (.pair (.int .i64) (.pair (.int .i64) (.int .i64))), .i .i64], .lst .bool, .lst (.int .i64)]⟩⟩)], run := fun p k => (tcounted_l2 N N p.1.2.1 p.1.2.2.1 p.1.2.2.2.1 p.1.2.2.2.2.2.1 p.1.2.2.2.2.2.2.2.1 p.1.2.2.2.2.2.2.2.2.1 p.1.2.2.2.2.2.2.2.2.2.1 p.1.2.2.2.2.2.2.2.2.2.2.1 p.2.1.1 p.2.1.2.1 p.2.1.2.2.1 p.2.2.1 p.2.2.2.1).bind fun e => k (.inl (((), e.1, e.2.1, e.2.2.1, (), (), e.2.2.2.1, e.2.2.2.2.1, ()), ((e.2.2.2.2.2.1, e.2.2.2.2.2.2.1, e.2.2.2.2.2.2.2.1, ()), e.2.2.2.2.2.2.2.2.1, e.2.2.2.2.2.2.2.2.2, ()))) }
theorem tcounted_l2_eq (N n_ : Nat) (n : Int) (never : List Int) (many : Int) (set : Int) (from_ : Int) (at_ : Int) (u : Int) (u2 : Int) (t : List (Int × (Int × Bool))) (t2 : List (Int × (Int × Int))) (t3 : Int) (met : List Bool) (l : List Int) : ev (Z := Int × List Int × Int × Int × Int × (List (Int × (Int × Bool))) × (List (Int × (Int × Int))) × Int × List Bool × List Int) Try.prog (tcounted_sp N) tcounted_B [] [tcounted_l2_h (tcounted_l2 N n_), tcounted_l2_e0, tcounted_j1_k N (tcounted_l2 N n_)] none 400 true tcounted_l2_at (stL tcounted_l2_st (((), n, never, many, (), set, (), from_, at_, u, u2, ()), ((t, t2, t3, ()), met, l, ()))) (stH tcounted_l2_st (((), n, never, many, (), set, (), from_, at_, u, u2, ()), ((t, t2, t3, ()), met, l, ()))) = tcounted_l2 N (n_ + 1) n never many set from_ at_ u u2 t t2 t3 met l := by kernel_rfl
theorem tcounted_l2_ok (N : Nat) {top : Bool} : LoopOK Try.prog tcounted_B.c tcounted_B.n tcounted_B.m0 top (tcounted_l2_L N) := loop_of_ev (Z := Int × List Int × Int × Int × Int × (List (Int × (Int × Bool))) × (List (Int × (Int × Int))) × Int × List Bool × List Int) (N := N) (fun m p => tcounted_l2 N m p.1.2.1 p.1.2.2.1 p.1.2.2.2.1 p.1.2.2.2.2.2.1 p.1.2.2.2.2.2.2.2.1 p.1.2.2.2.2.2.2.2.2.1 p.1.2.2.2.2.2.2.2.2.2.1 p.1.2.2.2.2.2.2.2.2.2.2.1 p.2.1.1 p.2.1.2.1 p.2.1.2.2.1 p.2.2.1 p.2.2.2.1) (fun e => .inl (((), e.1, e.2.1, e.2.2.1, (), (), e.2.2.2.1, e.2.2.2.2.1, ()), ((e.2.2.2.2.2.1, e.2.2.2.2.2.2.1, e.2.2.2.2.2.2.2.1, ()), e.2.2.2.2.2.2.2.2.1, e.2.2.2.2.2.2.2.2.2, ()))) (fun _ _ _ => rfl) (fun _ => rfl) (fun m z E Xc hE hX hrec hx => leaf_of_ev (B := tcounted_B) (loops := []) (leaves := [tcounted_l2_h (tcounted_l2 N m), tcounted_l2_e0, tcounted_j1_k N (tcounted_l2 N m)]) (tcounted_all N) mixed trivial hE hX ⟨hrec, (fun p hp => by obtain rfl := Option.some.inj hp; exact hx), tcounted_j1_lf N _ hE hX hrec (fun p hp => by obtain rfl := Option.some.inj hp; exact hx), trivial⟩ RetOK.no (fun p => tcounted_l2_eq N m p.1.2.1 p.1.2.2.1 p.1.2.2.2.1 p.1.2.2.2.2.2.1 p.1.2.2.2.2.2.2.2.1 p.1.2.2.2.2.2.2.2.2.1 p.1.2.2.2.2.2.2.2.2.2.1 p.1.2.2.2.2.2.2.2.2.2.2.1 p.2.1.1 p.2.1.2.1 p.2.1.2.2.1 p.2.2.1 p.2.2.2.1))
abbrev tcounted_l1_at : List PI := [.c [1, 1, 1, 1, 1, 1, 1, 0, 1, 0, 0, 0], .c [1, 1, 1, 1, 1, 1, 1, 0, 1, 0, 0, 1], .l [1, 1, 1, 1, 1, 1, 1, 0, 1, 0, 0], .b 0, .c [1, 1, 1, 1, 1, 1, 1, 1]]
abbrev tcounted_l1_st : Sta := ⟨[3, 4, 6, 8, 9, 56, 57], ⟨[.own 0 0, .i .i64, .sl (.int .i64), .i .i64, .ols 1, .i .i64, .i .i64], [.segs [.sl (.pair (.int .i64) (.pair (.int .i64) .bool)), .sl (.pair (.int .i64) (.pair (.int .i64) (.int .i64))), .i .i64], .lst .bool]⟩⟩
abbrev tcounted_l1_h (rec : Int → (List Int) → Int → Int → Int → (List (Int × (Int × Bool))) → (List (Int × (Int × Int))) → Int → (List Bool) → Option (Int × List Int × Int × (List (Int × (Int × Bool))) × (List (Int × (Int × Int))) × Int × List Bool)) : Leaf (Int × List Int × Int × (List (Int × (Int × Bool))) × (List (Int × (Int × Int))) × Int × List Bool) := ⟨tcounted_l1_at, tcounted_l1_st, fun p => rec p.1.2.1 p.1.2.2.1 p.1.2.2.2.1 p.1.2.2.2.2.2.1 p.1.2.2.2.2.2.2.1 p.2.1.1 p.2.1.2.1 p.2.1.2.2.1 p.2.2.1⟩
abbrev tcounted_l1_e0 : Leaf (Int × List Int × Int × (List (Int × (Int × Bool))) × (List (Int × (Int × Int))) × Int × List Bool) := ⟨[.c [1, 1, 1, 1, 1, 1, 1, 1, 0, 0], .c [1, 1, 1, 1, 1, 1, 1, 1, 0, 1], .c [1, 1, 1, 1, 1, 1, 1, 1, 1]], ⟨[3, 4, 6, 8, 9], ⟨[.own 0 0, .i .i64, .sl (.int .i64), .i .i64, .ols 1], [.segs [.sl (.pair (.int .i64) (.pair (.int .i64) .bool)), .sl (.pair (.int .i64) (.pair (.int .i64) (.int .i64))), .i .i64], .lst .bool]⟩⟩, fun p => some ((p.1.2.1, p.1.2.2.1, p.1.2.2.2.1, p.2.1.1, p.2.1.2.1, p.2.1.2.2.1, p.2.2.1))⟩
abbrev tcounted_j2_at : List PI := [.c [1, 1, 1, 1, 1, 1, 1, 0, 1, 0, 0, 1, 1, 1], .l [1, 1, 1, 1, 1, 1, 1, 0, 1, 0, 0], .b 0, .c [1, 1, 1, 1, 1, 1, 1, 1]]
abbrev tcounted_j2_st : Sta := ⟨[3, 4, 6, 8, 9, 56, 57], ⟨[.own 0 0, .i .i64, .sl (.int .i64), .i .i64, .ols 1, .i .i64, .i .i64], [.segs [.sl (.pair (.int .i64) (.pair (.int .i64) .bool)), .sl (.pair (.int .i64) (.pair (.int .i64) (.int .i64))), .i .i64], .lst .bool]⟩⟩
abbrev tcounted_j2_k (N : Nat) (rec : Int → (List Int) → Int → Int → Int → (List (Int × (Int × Bool))) → (List (Int × (Int × Int))) → Int → (List Bool) → Option (Int × List Int × Int × (List (Int × (Int × Bool))) × (List (Int × (Int × Int))) × Int × List Bool)) : Leaf (Int × List Int × Int × (List (Int × (Int × Bool))) × (List (Int × (Int × Int))) × Int × List Bool) := ⟨tcounted_j2_at, tcounted_j2_st, fun p => tcounted_j2 N rec p.1.2.1 p.1.2.2.1 p.1.2.2.2.1 p.1.2.2.2.2.2.1 p.1.2.2.2.2.2.2.1 p.2.1.1 p.2.1.2.1 p.2.1.2.2.1 p.2.2.1⟩
theorem tcounted_j2_eq (N : Nat) (rec : Int → (List Int) → Int → Int → Int → (List (Int × (Int × Bool))) → (List (Int × (Int × Int))) → Int → (List Bool) → Option (Int × List Int × Int × (List (Int × (Int × Bool))) × (List (Int × (Int × Int))) × Int × List Bool)) (n : Int) (never : List Int) (many : Int) (u : Int) (u2 : Int) (t : List (Int × (Int × Bool))) (t2 : List (Int × (Int × Int))) (t3 : Int) (met : List Bool) : ev (Z := Int × List Int × Int × (List (Int × (Int × Bool))) × (List (Int × (Int × Int))) × Int × List Bool) Try.prog (tcounted_sp N) tcounted_B [tcounted_l2_L N] [tcounted_l1_h rec, tcounted_l1_e0] none 400 true tcounted_j2_at (stL tcounted_j2_st (((), n, never, many, (), u, u2, ()), ((t, t2, t3, ()), met, ()))) (stH tcounted_j2_st (((), n, never, many, (), u, u2, ()), ((t, t2, t3, ()), met, ()))) = tcounted_j2 N rec n never many u u2 t t2 t3 met := by kernel_rfl
theorem tcounted_j2_lf (N : Nat) (rec : Int → (List Int) → Int → Int → Int → (List (Int × (Int × Bool))) → (List (Int × (Int × Int))) → Int → (List Bool) → Option (Int × List Int × Int × (List (Int × (Int × Bool))) × (List (Int × (Int × Int))) × Int × List Bool)) {z : Int × List Int × Int × (List (Int × (Int × Bool))) × (List (Int × (Int × Int))) × Int × List Bool} {top : Bool} {E : EE} {Xc : Ctx} (hE : EOK tcounted_B.m0 E) (hX : CxOK top Xc) (hrec : LeafOK Try.prog tcounted_B.c tcounted_B.n tcounted_B.m0 E Xc z (tcounted_l1_h rec)) (h0 : LeafOK Try.prog tcounted_B.c tcounted_B.n tcounted_B.m0 E Xc z tcounted_l1_e0) : LeafOK Try.prog tcounted_B.c tcounted_B.n tcounted_B.m0 E Xc z (tcounted_j2_k N rec) := leaf_of_ev (B := tcounted_B) (loops := [tcounted_l2_L N]) (leaves := [tcounted_l1_h rec, tcounted_l1_e0]) (tcounted_all N) mixed ⟨tcounted_l2_ok N, trivial⟩ hE hX ⟨hrec, h0, trivial⟩ RetOK.no (fun p => tcounted_j2_eq N rec p.1.2.1 p.1.2.2.1 p.1.2.2.2.1 p.1.2.2.2.2.2.1 p.1.2.2.2.2.2.2.1 p.2.1.1 p.2.1.2.1 p.2.1.2.2.1 p.2.2.1)
abbrev tcounted_l3_at : List PI := [.c [1, 1, 1, 1, 1, 1, 1, 0, 1, 0, 0, 1, 1, 0, 0, 1, 1, 1, 1, 1, 1, 1, 0, 0, 0], .c [1, 1, 1, 1, 1, 1, 1, 0, 1, 0, 0, 1, 1, 0, 0, 1, 1, 1, 1, 1, 1, 1, 0, 0, 1], .l [1, 1, 1, 1, 1, 1, 1, 0, 1, 0, 0, 1, 1, 0, 0, 1, 1, 1, 1, 1, 1, 1, 0, 0], .b 4, .b 1, .c [1, 1, 1, 1, 1, 1, 1, 0, 1, 0, 0, 1, 1, 1], .l [1, 1, 1, 1, 1, 1, 1, 0, 1, 0, 0], .b 0, .c [1, 1, 1, 1, 1, 1, 1, 1]]
abbrev tcounted_l3_st : Sta := ⟨[3, 4, 6, 8, 9, 56, 57, 95, 96, 97], ⟨[.own 0 0, .i .i64, .sl (.int .i64), .i .i64, .ols 1, .i .i64, .i .i64, .sl (.int .i64), .i .i64, .i .i64], [.segs [.sl (.pair (.int .i64) (.pair (.int .i64) .bool)), .sl (.pair (.int .i64) (.pair (.int .i64) (.int .i64))), .i .i64], .lst .bool]⟩⟩
abbrev tcounted_l3_h (rec : Int → (List Int) → Int → Int → Int → (List Int) → Int → Int → (List (Int × (Int × Bool))) → (List (Int × (Int × Int))) → Int → (List Bool) → Option (Int × List Int × Int × Int × Int × (List (Int × (Int × Bool))) × (List (Int × (Int × Int))) × Int × List Bool)) : Leaf (Int × List Int × Int × Int × Int × (List (Int × (Int × Bool))) × (List (Int × (Int × Int))) × Int × List Bool) := ⟨tcounted_l3_at, tcounted_l3_st, fun p => rec p.1.2.1 p.1.2.2.1 p.1.2.2.2.1 p.1.2.2.2.2.2.1 p.1.2.2.2.2.2.2.1 p.1.2.2.2.2.2.2.2.1 p.1.2.2.2.2.2.2.2.2.1 p.1.2.2.2.2.2.2.2.2.2.1 p.2.1.1 p.2.1.2.1 p.2.1.2.2.1 p.2.2.1⟩
abbrev tcounted_l3_e0 : Leaf (Int × List Int × Int × Int × Int × (List (Int × (Int × Bool))) × (List (Int × (Int × Int))) × Int × List Bool) := ⟨[.c [1, 1, 1, 1, 1, 1, 1, 0, 1, 0, 0, 1, 1, 1], .l [1, 1, 1, 1, 1, 1, 1, 0, 1, 0, 0], .b 0, .c [1, 1, 1, 1, 1, 1, 1, 1]], ⟨[3, 4, 6, 8, 9, 56, 57], ⟨[.own 0 0, .i .i64, .sl (.int .i64), .i .i64, .ols 1, .i .i64, .i .i64], [.segs [.sl (.pair (.int .i64) (.pair (.int .i64) .bool)), .sl (.pair (.int .i64) (.pair (.int .i64) (.int .i64))), .i .i64], .lst .bool]⟩⟩, fun p => some ((p.1.2.1, p.1.2.2.1, p.1.2.2.2.1, p.1.2.2.2.2.2.1, p.1.2.2.2.2.2.2.1, p.2.1.1, p.2.1.2.1, p.2.1.2.2.1, p.2.2.1))⟩
noncomputable def tcounted_l3_L (N : Nat) : LoopS := { at_ := tcounted_l3_at, sta := tcounted_l3_st, exits := [([.c [1, 1, 1, 1, 1, 1, 1, 0, 1, 0, 0, 1, 1, 1], .l [1, 1, 1, 1, 1, 1, 1, 0, 1, 0, 0], .b 0, .c [1, 1, 1, 1, 1, 1, 1, 1]], ⟨[3, 4, 6, 8, 9, 56, 57], ⟨[.own 0 0, .i .i64, .sl (.int .i64), .i .i64, .ols 1, .i .i64, .i .i64], [.segs [.sl (.pair (.int .i64) (.pair (.int .i64) .bool)), .sl (.pair (.int .i64) (.pair (.int .i64) (.int .i64))), .i .i64], .lst .bool]⟩⟩)], run := fun p k => (tcounted_l3 N N p.1.2.1 p.1.2.2.1 p.1.2.2.2.1 p.1.2.2.2.2.2.1 p.1.2.2.2.2.2.2.1 p.1.2.2.2.2.2.2.2.1 p.1.2.2.2.2.2.2.2.2.1 p.1.2.2.2.2.2.2.2.2.2.1 p.2.1.1 p.2.1.2.1 p.2.1.2.2.1 p.2.2.1).bind fun e => k (.inl (((), e.1, e.2.1, e.2.2.1, (), e.2.2.2.1, e.2.2.2.2.1, ()), ((e.2.2.2.2.2.1, e.2.2.2.2.2.2.1, e.2.2.2.2.2.2.2.1, ()), e.2.2.2.2.2.2.2.2, ()))) }
theorem tcounted_l3_eq (N n_ : Nat) (n : Int) (never : List Int) (many : Int) (u : Int) (u2 : Int) (u3 : List Int) (u4 : Int) (u5 : Int) (t : List (Int × (Int × Bool))) (t2 : List (Int × (Int × Int))) (t3 : Int) (met : List Bool) : ev (Z := Int × List Int × Int × Int × Int × (List (Int × (Int × Bool))) × (List (Int × (Int × Int))) × Int × List Bool) Try.prog (tcounted_sp N) tcounted_B [tcounted_l2_L N] [tcounted_l3_h (tcounted_l3 N n_), tcounted_l3_e0] none 400 true tcounted_l3_at (stL tcounted_l3_st (((), n, never, many, (), u, u2, u3, u4, u5, ()), ((t, t2, t3, ()), met, ()))) (stH tcounted_l3_st (((), n, never, many, (), u, u2, u3, u4, u5, ()), ((t, t2, t3, ()), met, ()))) = tcounted_l3 N (n_ + 1) n never many u u2 u3 u4 u5 t t2 t3 met := by kernel_rfl
theorem tcounted_l3_ok (N : Nat) {top : Bool} : LoopOK Try.prog tcounted_B.c tcounted_B.n tcounted_B.m0 top (tcounted_l3_L N) := loop_of_ev (Z := Int × List Int × Int × Int × Int × (List (Int × (Int × Bool))) × (List (Int × (Int × Int))) × Int × List Bool) (N := N) (fun m p => tcounted_l3 N m p.1.2.1 p.1.2.2.1 p.1.2.2.2.1 p.1.2.2.2.2.2.1 p.1.2.2.2.2.2.2.1 p.1.2.2.2.2.2.2.2.1 p.1.2.2.2.2.2.2.2.2.1 p.1.2.2.2.2.2.2.2.2.2.1 p.2.1.1 p.2.1.2.1 p.2.1.2.2.1 p.2.2.1) (fun e => .inl (((), e.1, e.2.1, e.2.2.1, (), e.2.2.2.1, e.2.2.2.2.1, ()), ((e.2.2.2.2.2.1, e.2.2.2.2.2.2.1, e.2.2.2.2.2.2.2.1, ()), e.2.2.2.2.2.2.2.2, ()))) (fun _ _ _ => rfl) (fun _ => rfl) (fun m z E Xc hE hX hrec hx => leaf_of_ev (B := tcounted_B) (loops := [tcounted_l2_L N]) (leaves := [tcounted_l3_h (tcounted_l3 N m), tcounted_l3_e0]) (tcounted_all N) mixed ⟨tcounted_l2_ok N, trivial⟩ hE hX ⟨hrec, (fun p hp => by obtain rfl := Option.some.inj hp; exact hx), trivial⟩ RetOK.no (fun p => tcounted_l3_eq N m p.1.2.1 p.1.2.2.1 p.1.2.2.2.1 p.1.2.2.2.2.2.1 p.1.2.2.2.2.2.2.1 p.1.2.2.2.2.2.2.2.1 p.1.2.2.2.2.2.2.2.2.1 p.1.2.2.2.2.2.2.2.2.2.1 p.2.1.1 p.2.1.2.1 p.2.1.2.2.1 p.2.2.1))
noncomputable def tcounted_l1_L (N : Nat) : LoopS := { at_ := tcounted_l1_at, sta := tcounted_l1_st, exits := [([.c [1, 1, 1, 1, 1, 1, 1, 1, 0, 0], .c [1, 1, 1, 1, 1, 1, 1, 1, 0, 1], .c [1, 1, 1, 1, 1, 1, 1, 1, 1]], ⟨[3, 4, 6, 8, 9], ⟨[.own 0 0, .i .i64, .sl (.int .i64), .i .i64, .ols 1], [.segs [.sl (.pair (.int .i64) (.pair (.int .i64) .bool)), .sl (.pair (.int .i64) (.pair (.int .i64) (.int .i64))), .i .i64], .lst .bool]⟩⟩)], run := fun p k => (tcounted_l1 N N p.1.2.1 p.1.2.2.1 p.1.2.2.2.1 p.1.2.2.2.2.2.1 p.1.2.2.2.2.2.2.1 p.2.1.1 p.2.1.2.1 p.2.1.2.2.1 p.2.2.1).bind fun e => k (.inl (((), e.1, e.2.1, e.2.2.1, (), ()), ((e.2.2.2.1, e.2.2.2.2.1, e.2.2.2.2.2.1, ()), e.2.2.2.2.2.2, ()))) }
theorem tcounted_l1_eq (N n_ : Nat) (n : Int) (never : List Int) (many : Int) (u : Int) (u2 : Int) (t : List (Int × (Int × Bool))) (t2 : List (Int × (Int × Int))) (t3 : Int) (met : List Bool) : ev (Z := Int × List Int × Int × (List (Int × (Int × Bool))) × (List (Int × (Int × Int))) × Int × List Bool) Try.prog (tcounted_sp N) tcounted_B [tcounted_l2_L N, tcounted_l3_L N] [tcounted_l1_h (tcounted_l1 N n_), tcounted_l1_e0, tcounted_j2_k N (tcounted_l1 N n_)] none 400 true tcounted_l1_at (stL tcounted_l1_st (((), n, never, many, (), u, u2, ()), ((t, t2, t3, ()), met, ()))) (stH tcounted_l1_st (((), n, never, many, (), u, u2, ()), ((t, t2, t3, ()), met, ()))) = tcounted_l1 N (n_ + 1) n never many u u2 t t2 t3 met := by kernel_rfl
theorem tcounted_l1_ok (N : Nat) {top : Bool} : LoopOK Try.prog tcounted_B.c tcounted_B.n tcounted_B.m0 top (tcounted_l1_L N) := loop_of_ev (Z := Int × List Int × Int × (List (Int × (Int × Bool))) × (List (Int × (Int × Int))) × Int × List Bool) (N := N) (fun m p => tcounted_l1 N m p.1.2.1 p.1.2.2.1 p.1.2.2.2.1 p.1.2.2.2.2.2.1 p.1.2.2.2.2.2.2.1 p.2.1.1 p.2.1.2.1 p.2.1.2.2.1 p.2.2.1) (fun e => .inl (((), e.1, e.2.1, e.2.2.1, (), ()), ((e.2.2.2.1, e.2.2.2.2.1, e.2.2.2.2.2.1, ()), e.2.2.2.2.2.2, ()))) (fun _ _ _ => rfl) (fun _ => rfl) (fun m z E Xc hE hX hrec hx => leaf_of_ev (B := tcounted_B) (loops := [tcounted_l2_L N, tcounted_l3_L N]) (leaves := [tcounted_l1_h (tcounted_l1 N m), tcounted_l1_e0, tcounted_j2_k N (tcounted_l1 N m)]) (tcounted_all N) mixed ⟨tcounted_l2_ok N, tcounted_l3_ok N, trivial⟩ hE hX ⟨hrec, (fun p hp => by obtain rfl := Option.some.inj hp; exact hx), tcounted_j2_lf N _ hE hX hrec (fun p hp => by obtain rfl := Option.some.inj hp; exact hx), trivial⟩ RetOK.no (fun p => tcounted_l1_eq N m p.1.2.1 p.1.2.2.1 p.1.2.2.2.1 p.1.2.2.2.2.2.1 p.1.2.2.2.2.2.2.1 p.2.1.1 p.2.1.2.1 p.2.1.2.2.1 p.2.2.1))
abbrev tcounted_l4_at : List PI := [.c [1, 1, 1, 1, 1, 1, 1, 1, 1, 0, 1, 0, 0, 0, 0], .c [1, 1, 1, 1, 1, 1, 1, 1, 1, 0, 1, 0, 0, 0, 1], .c [1, 1, 1, 1, 1, 1, 1, 1, 1, 0, 1, 0, 0, 1], .l [1, 1, 1, 1, 1, 1, 1, 1, 1, 0, 1, 0, 0], .b 6, .c [1, 1, 1, 1, 1, 1, 1, 1, 1, 1]]
abbrev tcounted_l4_st : Sta := ⟨[3, 4, 6, 9, 16], ⟨[.own 0 0, .i .i64, .sl (.int .i64), .ols 1, .i .i64], [.segs [.sl (.pair (.int .i64) (.pair (.int .i64) .bool)), .sl (.pair (.int .i64) (.pair (.int .i64) (.int .i64))), .i .i64], .lst .bool]⟩⟩
abbrev tcounted_l4_h (rec : Int → (List Int) → Int → (List (Int × (Int × Bool))) → (List (Int × (Int × Int))) → Int → (List Bool) → Option ((Unit) ⊕ (Unit))) : Leaf ((Unit) ⊕ (Unit)) := ⟨tcounted_l4_at, tcounted_l4_st, fun p => rec p.1.2.1 p.1.2.2.1 p.1.2.2.2.2.1 p.2.1.1 p.2.1.2.1 p.2.1.2.2.1 p.2.2.1⟩
abbrev tcounted_l4_e0 : Leaf ((Unit) ⊕ (Unit)) := ⟨[.c [1, 1, 1, 1, 1, 1, 1, 1, 1, 0, 1, 0, 0, 1, 0, 0, 1, 0, 0], .c [1, 1, 1, 1, 1, 1, 1, 1, 1, 0, 1, 0, 0, 1, 0, 0, 1, 0, 1], .b 7, .c [1, 1, 1, 1, 1, 1, 1, 1, 1, 0, 1, 0, 0, 1, 1], .l [1, 1, 1, 1, 1, 1, 1, 1, 1, 0, 1, 0, 0], .b 6, .c [1, 1, 1, 1, 1, 1, 1, 1, 1, 1]], ⟨[], ⟨[], []⟩⟩, fun p => some (.inl ())⟩
abbrev tcounted_l4_e1 : Leaf ((Unit) ⊕ (Unit)) := ⟨[.c [1, 1, 1, 1, 1, 1, 1, 1, 1, 1, 0], .c [1, 1, 1, 1, 1, 1, 1, 1, 1, 1, 1]], ⟨[], ⟨[], []⟩⟩, fun p => some (.inr ())⟩
noncomputable def tcounted_l4_L (N : Nat) : LoopS := { at_ := tcounted_l4_at, sta := tcounted_l4_st, exits := [([.c [1, 1, 1, 1, 1, 1, 1, 1, 1, 0, 1, 0, 0, 1, 0, 0, 1, 0, 0], .c [1, 1, 1, 1, 1, 1, 1, 1, 1, 0, 1, 0, 0, 1, 0, 0, 1, 0, 1], .b 7, .c [1, 1, 1, 1, 1, 1, 1, 1, 1, 0, 1, 0, 0, 1, 1], .l [1, 1, 1, 1, 1, 1, 1, 1, 1, 0, 1, 0, 0], .b 6, .c [1, 1, 1, 1, 1, 1, 1, 1, 1, 1]], ⟨[], ⟨[], []⟩⟩), ([.c [1, 1, 1, 1, 1, 1, 1, 1, 1, 1, 0], .c [1, 1, 1, 1, 1, 1, 1, 1, 1, 1, 1]], ⟨[], ⟨[], []⟩⟩)], run := fun p k => (tcounted_l4 N N p.1.2.1 p.1.2.2.1 p.1.2.2.2.2.1 p.2.1.1 p.2.1.2.1 p.2.1.2.2.1 p.2.2.1).bind fun e => match e with | .inl x => k (.inl ((), ())) | .inr x => k (.inr (.inl ((), ()))) }
theorem tcounted_l4_eq (N n_ : Nat) (n : Int) (never : List Int) (at_ : Int) (t : List (Int × (Int × Bool))) (t2 : List (Int × (Int × Int))) (t3 : Int) (met : List Bool) : ev (Z := (Unit) ⊕ (Unit)) Try.prog (tcounted_sp N) tcounted_B [tcounted_l2_L N, tcounted_l3_L N, tcounted_l1_L N] [tcounted_l4_h (tcounted_l4 N n_), tcounted_l4_e0, tcounted_l4_e1] none 400 true tcounted_l4_at (stL tcounted_l4_st (((), n, never, (), at_, ()), ((t, t2, t3, ()), met, ()))) (stH tcounted_l4_st (((), n, never, (), at_, ()), ((t, t2, t3, ()), met, ()))) = tcounted_l4 N (n_ + 1) n never at_ t t2 t3 met := by kernel_rfl
theorem tcounted_l4_ok (N : Nat) {top : Bool} : LoopOK Try.prog tcounted_B.c tcounted_B.n tcounted_B.m0 top (tcounted_l4_L N) := loop_of_ev (Z := (Unit) ⊕ (Unit)) (N := N) (fun m p => tcounted_l4 N m p.1.2.1 p.1.2.2.1 p.1.2.2.2.2.1 p.2.1.1 p.2.1.2.1 p.2.1.2.2.1 p.2.2.1) (fun e => match e with | .inl x => .inl ((), ()) | .inr x => .inr (.inl ((), ()))) (fun _ p k => bind_congr_ (tcounted_l4 N N p.1.2.1 p.1.2.2.1 p.1.2.2.2.2.1 p.2.1.1 p.2.1.2.1 p.2.1.2.2.1 p.2.2.1) _ _ (fun e => by rcases e with x | x <;> rfl)) (fun _ => rfl) (fun m z E Xc hE hX hrec hx => leaf_of_ev (B := tcounted_B) (loops := [tcounted_l2_L N, tcounted_l3_L N, tcounted_l1_L N]) (leaves := [tcounted_l4_h (tcounted_l4 N m), tcounted_l4_e0, tcounted_l4_e1]) (tcounted_all N) mixed ⟨tcounted_l2_ok N, tcounted_l3_ok N, tcounted_l1_ok N, trivial⟩ hE hX ⟨hrec, (fun p hp => by obtain rfl := Option.some.inj hp; exact hx), (fun p hp => by obtain rfl := Option.some.inj hp; exact hx), trivial⟩ RetOK.no (fun p => tcounted_l4_eq N m p.1.2.1 p.1.2.2.1 p.1.2.2.2.2.1 p.2.1.1 p.2.1.2.1 p.2.1.2.2.1 p.2.2.1))
abbrev tcounted_st : Sta := ⟨[0], ⟨[.sl (.int .u8)], []⟩⟩
theorem tcounted_eq (N : Nat) (numbers : List Int) : ev (Z := Bool) Try.prog (tcounted_sp N) tcounted_B [tcounted_l2_L N, tcounted_l3_L N, tcounted_l1_L N, tcounted_l4_L N] [] (some tcounted_rt) 400 false [.c [0], .c [1]] (stL tcounted_st ((numbers, ()), ())) (stH tcounted_st ((numbers, ()), ())) = tcounted_S N numbers := by kernel_rfl
noncomputable def sp_tcounted (N : Nat) : Spec := { f := 5, ins := ⟨[.sl (.int .u8)], []⟩, outs := [⟨[.b], []⟩], run := fun p k => (tcounted_S N p.1.1).bind fun r => k ((r, ()), ()) }
theorem sp_tcounted_ok (N : Nat) : SpecOK Try.prog (sp_tcounted N) := fn_sound (B := tcounted_B) (loops := [tcounted_l2_L N, tcounted_l3_L N, tcounted_l1_L N, tcounted_l4_L N]) (leaves := []) (fun p => tcounted_S N p.1.1) (fun r => ((r, ()), ())) tcounted_rt (fun _ _ _ => rfl) (fun r z h => by cases h; rfl) Try.func5 (by kernel_rfl) (by kernel_rfl) (by kernel_rfl) rfl rfl (by kernel_rfl) (fun args w => Sem.pv_run _ _ _ (by kernel_rfl) w) (tcounted_all N) mixed ⟨tcounted_l2_ok N, tcounted_l3_ok N, tcounted_l1_ok N, tcounted_l4_ok N, trivial⟩ (fun z E Xc hE hX hret => trivial) (fun p => tcounted_eq N p.1.1)

end Go.Proofs.Ytfamlpbdhhikdaa

namespace Go.Proofs.Ytfamlpbdhhikdaa
set_option linter.all false
open Go

/-- The reading that a number says, from one place on, when the next one may be a break. -/
def blL : Nat → Nat → Nat → Nat → List Int
  | 0, f, a, _ => [(a : Int) - f]
  | d + 1, f, a, s => if s % 2 = 1 then ((a : Int) - f) :: blL d a (a + 1) (s / 2) else blL d f (a + 1) (s / 2)
theorem blL_len : ∀ (d f a s : Nat), (blL d f a s).length ≤ d + 1
  | 0, _, _, _ => by simp [blL]
  | d + 1, f, a, s => by
    unfold blL
    split
    · have := blL_len d a (a + 1) (s / 2); simp; omega
    · have := blL_len d f (a + 1) (s / 2); omega
section
variable {R : Nat → Nat → Bool} {m : Nat}
/-- How many right readings there are whose first break is at a place, or behind. -/
def cntG (R : Nat → Nat → Bool) (m f a : Nat) : Nat := ((toL (R f) m a).map fun q => (goodsL R m q).length).sum
theorem flat_len {α β : Type} {f : α → List β} {g : α → Nat} (l : List α) (h : ∀ x ∈ l, (f x).length = g x) : (l.flatMap f).length = (l.map g).sum := by
  induction l with
  | nil => rfl
  | cons x l ih => rw [List.flatMap_cons, List.length_append, List.map_cons, List.sum_cons, h x (by simp), ih (fun y hy => h y (by simp [hy]))]
theorem goodsL_cnt {a : Nat} (h : a < m) (hm : m ≤ 12) : (goodsL R m a).length = cntG R m a (a + 1) := by
  rw [goodsL_step h hm]
  exact flat_len _ (fun x _ => by rw [List.length_map])
theorem countP_two (p : Nat → Bool) : ∀ n : Nat, (List.range (2 * n)).countP p = (List.range n).countP (fun s => p (2 * s)) + (List.range n).countP (fun s => p (2 * s + 1))
  | 0 => rfl
  | n + 1 => by
    rw [show 2 * (n + 1) = 2 * n + 1 + 1 by omega, List.range_succ, List.range_succ, List.range_succ, List.countP_append, List.countP_append, List.countP_append, List.countP_append, countP_two p n]
    simp only [List.countP_singleton]
    omega
theorem good_bl_cons {d f a s : Nat} (hfa : f < a) (had : a + d = m) (hd : 0 < d) : goodB R m f (((a : Int) - f) :: blL (d - 1) a (a + 1) s) = (R f a && goodB R m a (blL (d - 1) a (a + 1) s)) := by
  rw [Bool.eq_iff_iff, good_cons, show f + ((a : Int) - f).toNat = a by omega, Bool.and_eq_true]
  constructor
  · rintro ⟨_, h2, h3⟩; exact ⟨h2, h3⟩
  · rintro ⟨h2, h3⟩; exact ⟨⟨by omega, by omega⟩, h2, h3⟩
theorem bl_count (hm : m ≤ 12) : ∀ (d f a : Nat), f < a → a + d = m → (List.range (2 ^ d)).countP (fun s => goodB R m f (blL d f a s)) = cntG R m f a
  | 0, f, a, hfa, had => by
    obtain rfl : a = m := by omega
    unfold cntG
    have e : (List.range (2 ^ 0)).countP (fun s => goodB R a f (blL 0 f a s)) = if goodB R a f [(a : Int) - f] = true then 1 else 0 := by
      show List.countP _ [0] = _
      rw [List.countP_singleton]; rfl
    rw [e]
    have e2 : goodB R a f [(a : Int) - f] = R f a := by
      rw [Bool.eq_iff_iff, good_cons, show f + ((a : Int) - f).toNat = a by omega, good_nil]
      constructor
      · rintro ⟨_, h2, _⟩; exact h2
      · intro h2; exact ⟨⟨by omega, by omega⟩, h2, rfl⟩
    rw [e2]
    cases hR : R f a
    · rw [toL_no (Nat.le_refl _) hR, toL_end (by omega)]; simp
    · rw [toL_yes (Nat.le_refl _) hR, toL_end (by omega)]; simp [goodsL_end]
  | d + 1, f, a, hfa, had => by
    rw [Nat.pow_succ, Nat.mul_comm, countP_two]
    have h1 := bl_count hm d f (a + 1) (by omega) (by omega)
    have h2 := bl_count hm d a (a + 1) (by omega) (by omega)
    have e0 : (fun s => goodB R m f (blL (d + 1) f a (2 * s))) = fun s => goodB R m f (blL d f (a + 1) s) := by
      funext s
      unfold blL
      rw [if_neg (by omega), show 2 * s / 2 = s by omega]
      cases d <;> rfl
    have e1 : (fun s => goodB R m f (blL (d + 1) f a (2 * s + 1))) = fun s => (R f a && goodB R m a (blL d a (a + 1) s)) := by
      funext s
      have := good_bl_cons (R := R) (d := d + 1) (s := s) hfa had (by omega)
      rw [show d + 1 - 1 = d by omega] at this
      rw [← this]
      show goodB R m f (if (2 * s + 1) % 2 = 1 then ((a : Int) - f) :: blL d a (a + 1) ((2 * s + 1) / 2) else _) = _
      rw [if_pos (by omega), show (2 * s + 1) / 2 = s by omega]
    rw [e0, e1, h1]
    have hga := goodsL_cnt (R := R) (a := a) (by omega) hm
    unfold cntG at h2 hga ⊢
    cases hR : R f a
    · rw [toL_no (by omega) hR]; simp
    · rw [toL_yes (by omega) hR, List.map_cons, List.sum_cons, hga, ← h2]
      simp only [Bool.true_and]
      omega
theorem bl_all : ∀ (d f a : Nat) (l : List Int), f < a → a + d = m → goodB R m f l = true → (∀ x ∈ l.head?, (a : Int) ≤ f + x) → ∃ s, s < 2 ^ d ∧ blL d f a s = l
  | d, f, a, [], hfa, had, h, _ => by have := good_nil.1 h; omega
  | 0, f, a, x :: l, hfa, had, h, hx => by
    obtain ⟨⟨b1, b2⟩, _, b4⟩ := good_cons.1 h
    have h1 := hx x (by simp)
    refine ⟨0, by decide, ?_⟩
    have e : f + x.toNat = m := by omega
    rw [e] at b4
    have : l = [] := by
      cases l with
      | nil => rfl
      | cons y l => have := (good_cons.1 b4).1; omega
    subst this
    unfold blL
    congr 1; omega
  | d + 1, f, a, x :: l, hfa, had, h, hx => by
    have h1 := hx x (by simp)
    obtain ⟨⟨b1, b2⟩, _, b4⟩ := good_cons.1 h
    by_cases e : f + x.toNat = a
    · rw [e] at b4
      have hl : ∀ y ∈ l.head?, ((a + 1 : Nat) : Int) ≤ a + y := by
        intro y hy
        cases l with
        | nil => cases hy
        | cons z l =>
          simp only [List.head?_cons, Option.mem_some_iff] at hy
          subst hy
          have := (good_cons.1 b4).1; omega
      obtain ⟨s, s1, s2⟩ := bl_all d a (a + 1) l (by omega) (by omega) b4 hl
      refine ⟨2 * s + 1, by rw [Nat.pow_succ]; omega, ?_⟩
      unfold blL
      rw [if_pos (by omega), show (2 * s + 1) / 2 = s by omega, s2]
      congr 1; omega
    · obtain ⟨s, s1, s2⟩ := bl_all d f (a + 1) (x :: l) (by omega) (by omega) h (fun y hy => by
        simp only [List.head?_cons, Option.mem_some_iff] at hy
        subst hy; omega)
      refine ⟨2 * s, by rw [Nat.pow_succ]; omega, ?_⟩
      rw [← s2]
      show (if (2 * s) % 2 = 1 then _ else blL d f (a + 1) (2 * s / 2)) = _
      rw [if_neg (by omega), show 2 * s / 2 = s by omega]
end
/-- At which places readings were found to break. -/
def MetC (R : Nat → Nat → Bool) (m k : Nat) (M : List Bool) : Prop := M.length = m + 1 ∧ ∀ q : Nat, 1 ≤ q → q ≤ m → (M.getD q false = true ↔ ∃ s, s < k ∧ goodB R m 0 (blL (m - 1) 0 1 s) = true ∧ (q : Int) ∈ psums 0 (blL (m - 1) 0 1 s))
theorem bit_v {s k : Nat} : Int.fdiv (s : Int) (2 ^ k) = ((s / 2 ^ k : Nat) : Int) := by
  have e : (2 : Int) ^ k = ((2 ^ k : Nat) : Int) := by simp
  rw [e, Int.fdiv_eq_ediv_of_nonneg _ (Int.natCast_nonneg _)]
  rfl
section
variable {N : Nat} {ws : List Wd} {ts : List Tn} {br_ : Int}
theorem tcounted_l2_p {nn many u u2 : Int} {never : List Int} {M : List Bool} {s : Nat} (hn : ws.length ≤ 12) : ∀ (n d f a : Nat) (L : List Int), d + 2 ≤ n → a + d = ws.length → f < a → L.length + d ≤ 20 →
    tcounted_l2 N n nn never many s f a u u2 ws ts br_ M L = some (nn, never, many, u, u2, ws, ts, br_, M, L ++ blL d f a (s / 2 ^ (a - 1)))
  | 0, d, f, a, L, h, _, _, _ => by omega
  | n + 1, d, f, a, L, h, had, hfa, hL => by
    unfold tcounted_l2
    rw [br_dec (by omega)]
    cases d with
    | zero =>
      obtain rfl : a = ws.length := by omega
      obtain ⟨n, rfl⟩ : ∃ k, n = k + 1 := ⟨n - 1, by omega⟩
      rw [br_dec rfl, chk_eq (by omega), lim_eq (by simp; omega)]
      unfold tcounted_j1
      rw [chk_eq (by omega)]
      unfold tcounted_l2
      rw [br_ndec (by omega)]
      rfl
    | succ d =>
      have ih := fun f' L' => tcounted_l2_p (nn := nn) (many := many) (u := u) (u2 := u2) (never := never) (M := M) (s := s) hn n d f' (a + 1) L' (by omega) (by omega)
      have hj : ∀ (f' : Nat) (L' : List Int), f' < a + 1 → L'.length + d ≤ 20 → tcounted_j1 N (tcounted_l2 N n) nn never many s f' a u u2 ws ts br_ M L' = some (nn, never, many, u, u2, ws, ts, br_, M, L' ++ blL d f' (a + 1) (s / 2 ^ a)) := by
        intro f' L' h1 h2
        have := ih f' L' h1 h2
        rw [show a + 1 - 1 = a by omega, show ((a + 1 : Nat) : Int) = (a : Int) + 1 by omega] at this
        unfold tcounted_j1
        rw [chk_eq (by omega), this]
      have e : s / 2 ^ (a - 1) / 2 = s / 2 ^ a := by
        rw [Nat.div_div_eq_div_mul, ← Nat.pow_succ, show (a - 1).succ = a by omega]
      rw [br_ndec (by omega), chk_eq (by omega), grd_eq (by simp; omega), show ((a : Int) - 1).toNat = a - 1 by omega, bit_v, grd_eq (decide_eq_true ⟨Int.natCast_nonneg _, by decide⟩), Int.toNat_natCast, Nat.and_one_is_mod]
      show br (decide (((s / 2 ^ (a - 1) % 2 : Nat) : Int) = 1)) _ _ = some (_, _, _, _, _, _, _, _, _, L ++ (if s / 2 ^ (a - 1) % 2 = 1 then ((a : Int) - f) :: blL d a (a + 1) (s / 2 ^ (a - 1) / 2) else blL d f (a + 1) (s / 2 ^ (a - 1) / 2)))
      rw [e]
      by_cases c : s / 2 ^ (a - 1) % 2 = 1
      · rw [br_dec (by omega), if_pos c, chk_eq (by omega), lim_eq (by simp; omega), hj a _ (by omega) (by simp; omega)]; simp
      · rw [br_ndec (by omega), if_neg c, hj f _ (by omega) (by omega)]
theorem tcounted_l3_p {nn many u u2 : Int} {never : List Int} {P : List Int} (hn : ws.length ≤ 12) (hP : P.length ≤ 20) (hb : ∀ x ∈ P, 0 ≤ x ∧ x ≤ ws.length) : ∀ (n k : Nat) (M : List Bool), P.length < n + k → k ≤ P.length → M.length = ws.length + 1 →
    ∃ M', tcounted_l3 N n nn never many u u2 P P.length k ws ts br_ M = some (nn, never, many, u, u2, ws, ts, br_, M') ∧ M'.length = ws.length + 1 ∧ ∀ q : Nat, q ≤ ws.length → (M'.getD q false = true ↔ M.getD q false = true ∨ (q : Int) ∈ P.drop k)
  | 0, k, M, h, _, _ => by omega
  | n + 1, k, M, h, hk, hM => by
    unfold tcounted_l3
    by_cases c : k < P.length
    · have hx := hb _ (getD_mem (d := 0) c)
      obtain ⟨a, ha⟩ : ∃ a : Nat, P.getD k 0 = a := ⟨(P.getD k 0).toNat, by omega⟩
      obtain ⟨M', e1, e2, e3⟩ := tcounted_l3_p (nn := nn) (many := many) (u := u) (u2 := u2) (never := never) hn hP hb n (k + 1) (M.set a true) (by omega) (by omega) (by simpa using hM)
      rw [show ((k + 1 : Nat) : Int) = (k : Int) + 1 by omega] at e1
      rw [br_dec (by omega), idx_eq (by omega) (gets c 0), ha, rng_eq (by omega), Int.toNat_natCast, get_get false (by omega), chk_eq (by omega), e1]
      refine ⟨M', rfl, e2, fun q hq => ?_⟩
      rw [e3 q hq, getD_set' (by omega), drop_cons c 0, ha, List.mem_cons]
      by_cases d : a = q
      · subst d; simp
      · rw [if_neg d]
        have : ¬ (q : Int) = a := by omega
        simp [this]
    · rw [br_ndec (by omega), List.drop_of_length_le (by omega)]
      exact ⟨M, rfl, hM, fun q _ => by simp⟩
theorem psums_bd {m : Nat} {R : Nat → Nat → Bool} : ∀ {l : List Int} {a : Nat}, goodB R m a l = true → ∀ x ∈ psums a l, 0 ≤ x ∧ x ≤ m
  | [], a, _, x, hx => by cases hx
  | y :: l, a, h, x, hx => by
    obtain ⟨⟨b1, b2⟩, _, b4⟩ := good_cons.1 h
    have e : (a : Int) + y = ((a + y.toNat : Nat) : Int) := by omega
    rw [psums, e] at hx
    rcases List.mem_cons.1 hx with rfl | hx
    · omega
    · exact psums_bd b4 x hx
variable (hN : 110 ≤ N) (hF : TFine ws ts br_)
include hN hF
theorem tcounted_l1_p {nn : Int} {never : List Int} (h8 : ws.length ≤ 8) : ∀ (n k : Nat) (M : List Bool), 2 ^ (ws.length - 1) < n + k → k ≤ 2 ^ (ws.length - 1) → MetC (rightR ws ts br_) ws.length k M →
    ∃ M', tcounted_l1 N n nn never ((List.range k).countP (fun s => goodB (rightR ws ts br_) ws.length 0 (blL (ws.length - 1) 0 1 s)) : Nat) ((2 ^ (ws.length - 1) : Nat) : Int) k ws ts br_ M =
      some (nn, never, (((List.range (2 ^ (ws.length - 1))).countP (fun s => goodB (rightR ws ts br_) ws.length 0 (blL (ws.length - 1) 0 1 s)) : Nat) : Int), ws, ts, br_, M') ∧ MetC (rightR ws ts br_) ws.length (2 ^ (ws.length - 1)) M'
  | 0, k, M, h, _, _ => by omega
  | n + 1, k, M, h, hk, hM => by
    have hn := hF.n; have hn0 := hF.n0
    have hp2 : 2 ^ (ws.length - 1) ≤ 2 ^ 7 := Nat.pow_le_pow_right (by decide) (by omega)
    unfold tcounted_l1
    by_cases c : k < 2 ^ (ws.length - 1)
    · have hcl : (List.range k).countP (fun s => goodB (rightR ws ts br_) ws.length 0 (blL (ws.length - 1) 0 1 s)) ≤ k := by
        have := List.countP_le_length (l := List.range k) (p := fun s => goodB (rightR ws ts br_) ws.length 0 (blL (ws.length - 1) 0 1 s))
        simpa using this
      have hcs : (List.range (k + 1)).countP (fun s => goodB (rightR ws ts br_) ws.length 0 (blL (ws.length - 1) 0 1 s)) = (List.range k).countP (fun s => goodB (rightR ws ts br_) ws.length 0 (blL (ws.length - 1) 0 1 s)) + (if goodB (rightR ws ts br_) ws.length 0 (blL (ws.length - 1) 0 1 k) = true then 1 else 0) := by
        rw [List.range_succ, List.countP_append, List.countP_singleton]
      generalize (List.range k).countP (fun s => goodB (rightR ws ts br_) ws.length 0 (blL (ws.length - 1) 0 1 s)) = C at hcl hcs ⊢
      have hlen := blL_len (ws.length - 1) 0 1 k
      have e2 := tcounted_l2_p (N := N) (ts := ts) (br_ := br_) (nn := nn) (many := (C : Int)) (u := ((2 ^ (ws.length - 1) : Nat) : Int)) (u2 := (k : Int)) (never := never) (M := M) (s := k) hn N (ws.length - 1) 0 1 [] (by omega) (by omega) (by omega) (by simp; omega)
      simp only [Int.natCast_zero, Int.natCast_one, List.nil_append, Nat.sub_self, Nat.pow_zero, Nat.div_one] at e2
      have hj : ∀ M1 : List Bool, MetC (rightR ws ts br_) ws.length (k + 1) M1 → ∃ M', tcounted_j2 N (tcounted_l1 N n) nn never ((C + (if goodB (rightR ws ts br_) ws.length 0 (blL (ws.length - 1) 0 1 k) = true then 1 else 0) : Nat) : Int) ((2 ^ (ws.length - 1) : Nat) : Int) k ws ts br_ M1 = some (nn, never, (((List.range (2 ^ (ws.length - 1))).countP (fun s => goodB (rightR ws ts br_) ws.length 0 (blL (ws.length - 1) 0 1 s)) : Nat) : Int), ws, ts, br_, M') ∧ MetC (rightR ws ts br_) ws.length (2 ^ (ws.length - 1)) M' := by
        intro M1 h1
        obtain ⟨M', e, h2⟩ := tcounted_l1_p (nn := nn) (never := never) h8 n (k + 1) M1 (by omega) (by omega) h1
        rw [hcs, show ((k + 1 : Nat) : Int) = (k : Int) + 1 by omega] at e
        unfold tcounted_j2
        rw [chk_eq (by omega), e]
        exact ⟨M', rfl, h2⟩
      rw [br_dec (by omega), e2]
      simp only [Option.bind_some]
      rw [sound_v hN hF (by omega)]
      simp only [Option.bind_some]
      cases hg : goodB (rightR ws ts br_) ws.length 0 (blL (ws.length - 1) 0 1 k)
      · rw [hg] at hj
        simp only [Bool.false_eq_true, if_false, Nat.add_zero] at hj
        rw [Bool.not_false, br_true]
        refine hj M ⟨hM.1, fun q h1 h2 => (hM.2 q h1 h2).trans ?_⟩
        constructor
        · rintro ⟨s, s1, s2⟩; exact ⟨s, by omega, s2⟩
        · rintro ⟨s, s1, s2, s3⟩
          by_cases e : s = k
          · subst e; rw [hg] at s2; cases s2
          · exact ⟨s, by omega, s2, s3⟩
      · rw [hg] at hj
        simp only [if_true] at hj
        obtain ⟨q1, q2⟩ := good_readB hn hg
        have hrb : readB ws.length (blL (ws.length - 1) 0 1 k) = true := by
          unfold readB
          rw [q1, decide_eq_true (by omega)]; rfl
        have hpl := psums_len (blL (ws.length - 1) 0 1 k) 0
        obtain ⟨M1, e3, h3, h4⟩ := tcounted_l3_p (N := N) (ts := ts) (br_ := br_) (nn := nn) (many := (C : Int) + 1) (u := ((2 ^ (ws.length - 1) : Nat) : Int)) (u2 := (k : Int)) (never := never) (P := 0 :: psums 0 (blL (ws.length - 1) 0 1 k)) hn (by simp; omega) (fun x hx => by
          rcases List.mem_cons.1 hx with rfl | hx
          · omega
          · exact psums_bd hg x hx) N 0 M (by simp; omega) (by omega) hM.1
        simp only [Int.natCast_zero, List.drop_zero] at e3 h4
        rw [Bool.not_true, br_false, chk_eq (by omega), places_v (by omega) (by omega) (by omega), if_pos hrb]
        simp only [Option.bind_some]
        rw [e3]
        simp only [Option.bind_some]
        have := hj M1 ⟨h3, fun q h1 h2 => ?_⟩
        · rw [show ((C + 1 : Nat) : Int) = (C : Int) + 1 by omega] at this
          exact this
        · rw [h4 q h2, hM.2 q h1 h2, List.mem_cons]
          constructor
          · rintro (⟨s, s1, s2⟩ | h | h)
            · exact ⟨s, by omega, s2⟩
            · omega
            · exact ⟨k, by omega, hg, h⟩
          · rintro ⟨s, s1, s2, s3⟩
            by_cases e : s = k
            · subst e; exact .inr (.inr s3)
            · exact .inl ⟨s, by omega, s2, s3⟩
    · obtain rfl : k = 2 ^ (ws.length - 1) := by omega
      rw [br_ndec (by omega)]
      exact ⟨M, rfl, hM⟩
theorem met_never {M : List Bool} (hM : MetC (rightR ws ts br_) ws.length (2 ^ (ws.length - 1)) M) {q : Nat} (h1 : 1 ≤ q) (h2 : q < ws.length) : M.getD q false = brkB (rightR ws ts br_) ws.length q := by
  have hn := hF.n; have hn0 := hF.n0
  rw [Bool.eq_iff_iff, hM.2 q h1 (by omega)]
  unfold brkB
  rw [Bool.and_eq_true, metB_iff (by omega), finB_iff (by omega) hn]
  constructor
  · rintro ⟨s, _, s2, s3⟩
    obtain ⟨l1, l2, _, _, g1, g2⟩ := (mem_psums s2 q).1 (by simpa using s3)
    exact ⟨⟨l1, g1⟩, l2, g2⟩
  · rintro ⟨⟨l1, g1⟩, l2, g2⟩
    have hg := good_app g1 g2
    obtain ⟨s, s1, s2⟩ := bl_all (R := rightR ws ts br_) (m := ws.length) (ws.length - 1) 0 1 (l1 ++ l2) (by omega) (by omega) hg (fun x hx => by
      cases hl : l1 ++ l2 with
      | nil => rw [hl] at hx; cases hx
      | cons y l =>
        rw [hl] at hx hg
        simp only [List.head?_cons, Option.mem_some_iff] at hx
        subst hx
        have := (good_cons.1 hg).1; omega)
    refine ⟨s, s1, by rw [s2]; exact hg, ?_⟩
    rw [s2]
    have := (mem_psums hg q).2 ⟨l1, l2, rfl, fun e => by subst e; have := good_nil.1 g1; omega, g1, g2⟩
    simpa using this
theorem nvK_mem {R : Nat → Nat → Bool} {m k q : Nat} : (nvK R m k).contains (q : Int) = (decide (q < k) && !brkB R m q) := by
  rw [Bool.eq_iff_iff, List.contains_iff_mem]
  unfold nvK
  simp only [List.mem_map, List.mem_filter, List.mem_range, Bool.and_eq_true, decide_eq_true_eq]
  constructor
  · rintro ⟨a, ⟨h1, h2⟩, h3⟩
    obtain rfl : a = q := by omega
    exact ⟨h1, h2⟩
  · rintro ⟨h1, h2⟩; exact ⟨q, ⟨h1, h2⟩, rfl⟩
theorem tcounted_l4_p {M : List Bool} {nn : Int} {never : List Int} (hM : MetC (rightR ws ts br_) ws.length (2 ^ (ws.length - 1)) M) (hv : 0 < nn → never = nvK (rightR ws ts br_) ws.length ws.length) (hvl : never.length ≤ 100) : ∀ (n k : Nat), ws.length < n + k → 1 ≤ k → k ≤ ws.length →
    tcounted_l4 N n nn never k ws ts br_ M = some (.inr ())
  | 0, k, h, _, _ => by omega
  | n + 1, k, h, h1, hk => by
    have hn := hF.n; have hl := hM.1
    unfold tcounted_l4
    by_cases c : k < ws.length
    · have ih := tcounted_l4_p hM hv hvl n (k + 1) (by omega) (by omega) (by omega)
      rw [show ((k + 1 : Nat) : Int) = (k : Int) + 1 by omega] at ih
      rw [br_dec (by omega)]
      by_cases d : 0 < nn
      · have hb := met_never hN hF hM h1 c
        rw [br_dec d, rng_eq (by omega), Int.toNat_natCast, get_get false (by omega), containsi_v (by omega) (by omega), hb]
        simp only [Option.bind_some]
        have e : never.contains (k : Int) = !brkB (rightR ws ts br_) ws.length k := by
          rw [hv d, nvK_mem hN hF, decide_eq_true c, Bool.true_and]
        rw [e]
        have e2 : (brkB (rightR ws ts br_) ws.length k == !brkB (rightR ws ts br_) ws.length k) = false := by cases brkB (rightR ws ts br_) ws.length k <;> rfl
        rw [e2, br_false, chk_eq (by omega), ih]
      · rw [br_ndec d, chk_eq (by omega), ih]
    · rw [br_ndec (by omega)]
end
theorem tcounted_true {ns : List Int} (h1 : Ty.inB (.sl (.int .u8)) ns) : tcounted_S 1100 ns = some true := by
  have aw : ((awake_S 1100).bind fun x => some x) = some true := by rw [awake_v]; rfl
  have l1 : ns.length ≤ 9223372036854775807 := h1.1
  unfold tcounted_S hang_S
  simp only [Option.bind_some]
  obtain ⟨⟨ws, ts, br_, b, b2, b3⟩, em, hF, hm, hb⟩ := made_v (N := 1100) (b := ns) (by omega) (words := 8) (turns := 3) (b2 := 0) (b3 := 0) (by omega) (by omega) ⟨l1, by omega, by omega⟩
  dsimp only at hF hm hb
  rw [em]
  simp only [Option.bind_some]
  have hn := hF.n; have ht := hF.t; have hn0 := hF.n0
  have c0 := checkT_of hF
  have hp2 : 2 ^ (ws.length - 1) ≤ 2 ^ 7 := Nat.pow_le_pow_right (by decide) (by omega)
  have hcnt : (List.range (2 ^ (ws.length - 1))).countP (fun s => goodB (rightR ws ts br_) ws.length 0 (blL (ws.length - 1) 0 1 s)) = (goodsT ws ts br_ 0).length := by
    rw [bl_count hn (ws.length - 1) 0 1 (by omega) (by omega), goodsL_cnt (by omega) hn]
  rw [count_v (by omega) (by omega) (by omega), never_v (by omega) (by omega) (by omega)]
  simp only [Option.bind_some]
  have key : ∀ never : List Int, (0 < ((goodsT ws ts br_ 0).length : Int) → never = nvK (rightR ws ts br_) ws.length ws.length) → never.length ≤ 100 →
      (chk ((ws.length : Int) + 1) <|
        grd (lmI ((ws.length : Int) + 1)) <|
        chk ((ws.length : Int) - 1) <|
        grd (decide (0 ≤ ((ws.length : Int) - 1) ∧ ((ws.length : Int) - 1) ≤ 62)) <|
        chk (1 * 2 ^ ((ws.length : Int) - 1).toNat) <|
        (tcounted_l1 1100 1100 ((goodsT ws ts br_ 0).length : Int) never 0 (1 * 2 ^ ((ws.length : Int) - 1).toNat) 0 ws ts br_ (List.replicate ((ws.length : Int) + 1).toNat (false : Bool))).bind fun (n_47, never_48, many_49, t_50, t2_51, t3_52, met_53) =>
        br (!decide (many_49 = n_47))
          (some false)
          ((tcounted_l4 1100 1100 n_47 never_48 1 t_50 t2_51 t3_52 met_53).bind fun e => match e with
          | .inl _ =>
            some false
          | .inr _ =>
            (awake_S 1100).bind fun x_54 =>
            some x_54)) = some true := by
    intro never hv hvl
    have ep : (1 * 2 ^ ((ws.length : Int) - 1).toNat : Int) = ((2 ^ (ws.length - 1) : Nat) : Int) := by
      rw [show ((ws.length : Int) - 1).toNat = ws.length - 1 by omega]; simp
    have el : ((ws.length : Int) + 1).toNat = ws.length + 1 := by omega
    obtain ⟨M, e1, hM⟩ := tcounted_l1_p (N := 1100) (by omega) hF (nn := ((goodsT ws ts br_ 0).length : Int)) (never := never) (by omega) 1100 0 (List.replicate (ws.length + 1) false) (by omega) (Nat.zero_le _) ⟨by simp, fun q h1 h2 => by
      simp only [List.getD, List.getElem?_replicate]
      split <;> simp⟩
    rw [show (List.range 0).countP (fun s => goodB (rightR ws ts br_) ws.length 0 (blL (ws.length - 1) 0 1 s)) = 0 from rfl, hcnt] at e1
    simp only [Int.natCast_zero] at e1
    have e4 := tcounted_l4_p (N := 1100) (by omega) hF hM (nn := ((goodsT ws ts br_ 0).length : Int)) (never := never) hv hvl 1100 1 (by omega) (by omega) (by omega)
    simp only [Int.natCast_one] at e4
    simp only [ep, el]
    rw [chk_eq (by omega), grd_eq (lmI_iff.2 (by omega)), chk_eq (by omega), grd_eq (by simp; omega), chk_eq ⟨Int.le_trans (by decide) (Int.natCast_nonneg _), Int.le_trans (Int.ofNat_le.2 hp2) (by decide)⟩, e1]
    simp only [Option.bind_some]
    rw [br_nd (by first | trivial | rfl), e4]
    exact aw
  unfold countR neverR
  rw [if_neg (by simpa using c0), if_neg (by simpa using c0)]
  by_cases g0 : goodsT ws ts br_ 0 = []
  · rw [if_pos g0]
    dsimp only
    have hz : ((goodsT ws ts br_ 0).length : Int) = 0 := by rw [g0]; rfl
    rw [br_nd (by first | trivial | rfl), br_nnd (by decide), br_nd (by first | trivial | rfl)]
    have := key [] (fun h => by omega) (by simp)
    rw [hz] at this ⊢
    rw [show (!((decide ((6 : Int) = 0)) == (decide ((0 : Int) < 0)))) = false from rfl, br_false]
    exact this
  · rw [if_neg g0]
    dsimp only
    have hpos : 0 < (goodsT ws ts br_ 0).length := List.length_pos_iff.2 g0
    rw [br_nd (by first | trivial | rfl), br_nd (by first | trivial | rfl)]
    have := key _ (fun _ => rfl) (by have := nvK_len (rightR ws ts br_) ws.length ws.length; omega)
    rw [show (!((decide ((0 : Int) = 0)) == (decide (0 < ((goodsT ws ts br_ 0).length : Int))))) = false by rw [decide_eq_true (show 0 < ((goodsT ws ts br_ 0).length : Int) by omega)]; rfl, br_false]
    exact this
end Go.Proofs.Ytfamlpbdhhikdaa

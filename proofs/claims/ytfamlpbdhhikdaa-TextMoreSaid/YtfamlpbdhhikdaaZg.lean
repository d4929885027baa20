/-
  Parts of a proof, put together: TP3, TP4, TP5, TD1, TD2, TD3, TD4, TD5, X4, X5, TD6, TD7, TD8, TD9, TB, TL1, TL2, TL3, TL4, TL5, TL6, TL7, TL8, TL9, TM1, TM2, X7, TM3, TShl, X8, TM4, X9, TM5, TM6, TM7, X6, TM8, TM9, Dl, TDl, X10.
  Conditions: none.
-/
import Derived.Ground.Names2Prog
import Derived.Shelf.Lay
import Derived.Shelf.Slices.Delete
import Derived.Test.YtfamlpbdhhikdaaZd
import Derived.Test.YtfamlpbdhhikdaaZf
namespace Go.Proofs.Ytfamlpbdhhikdaa
set_option linter.all false
open Go

structure TFine (ws : List Wd) (ts : List Tn) (br_ : Int) : Prop where
  n0 : 1 ≤ ws.length
  n : ws.length ≤ 12
  t : ts.length ≤ 6
  b0 : 1 ≤ br_
  b1 : br_ ≤ 40
  w : ∀ w ∈ ws, (1 ≤ w.1 ∧ w.1 ≤ 9) ∧ 0 ≤ w.2.1 ∧ w.2.1 ≤ 20
  x : ∀ x ∈ ts, (0 ≤ x.1 ∧ x.1 < ws.length) ∧ (0 ≤ x.2.1 ∧ x.2.1 < ws.length) ∧ (0 ≤ x.2.2 ∧ x.2.2 < ws.length) ∧ x.2.1 ≤ x.2.2 ∧ ¬ (x.2.1 ≤ x.1 ∧ x.1 ≤ x.2.2)
section
variable {N : Nat} {ws : List Wd} {ts : List Tn} {br_ : Int}
theorem tfine_of (h : checkT ws ts br_ = 0) : TFine ws ts br_ := by
  unfold checkT at h
  split at h
  · omega
  rename_i c1
  split at h
  · omega
  split at h
  · omega
  rename_i c3
  split at h
  · omega
  rename_i c4
  split at h
  · omega
  rename_i c5
  split at h
  · omega
  rename_i c6
  split at h
  · omega
  rename_i c7
  simp only [Bool.not_eq_false, List.all_eq_true] at c4 c5 c6 c7
  refine ⟨by omega, by omega, by omega, by omega, by omega, fun w hw => ?_, fun x hx => ?_⟩
  · have := c4 w hw
    simpa [okw] using this
  · have h1 := c5 x hx; have h2 := c6 x hx; have h3 := c7 x hx
    simp only [ok2, inT, ok3, ok4, Bool.and_eq_true, decide_eq_true_eq, Bool.not_eq_true', decide_eq_false_iff_not] at h1 h2 h3
    exact ⟨by omega, by omega, by omega, h2, h3⟩
theorem TFine.okW (h : TFine ws ts br_) : okW ws = true := okW_iff.2 ⟨by have := h.n; omega, fun w hw => by have := (h.w w hw).1; omega⟩
theorem opened_v (hN : 20 ≤ N) (hw : ws.length ≤ 1000000) (ht : ts.length ≤ 1000000) : opened_S N ws ts br_ = some (if checkT ws ts br_ = 0 then .inl ((ws, ts, br_), 0) else .inr (checkT ws ts br_)) := by
  unfold opened_S
  rw [check_v hN hw ht]
  simp only [Option.bind_some]
  by_cases c : checkT ws ts br_ = 0
  · rw [br_nd c, if_pos c]
  · rw [br_nnd c, if_neg c]
/-! ### Lists of words -/
theorem has_l1_p {l : List Int} {v : Int} (hl : l.length ≤ 1000000) : ∀ (n k : Nat), l.length < n + k → k ≤ l.length → has_l1 N n l v k = some (if (l.drop k).contains v then .inl () else .inr ())
  | 0, k, h, _ => by omega
  | n + 1, k, h, hk => by
    unfold has_l1
    by_cases c : k < l.length
    · have ih := has_l1_p (v := v) hl n (k + 1) (by omega) (by omega)
      rw [show ((k + 1 : Nat) : Int) = (k : Int) + 1 by omega] at ih
      rw [br_dec (by omega), idx_eq (by omega) (gets c 0), drop_cons c 0, List.contains_cons]
      generalize l.getD k 0 = x at *
      by_cases d : x = v
      · subst d; rw [br_dec rfl]; simp
      · rw [br_ndec d, chk_eq (by omega), ih, show (v == x) = false by simp; exact fun e => d e.symm, Bool.false_or]
    · rw [br_ndec (by omega), List.drop_of_length_le (by omega)]; rfl
theorem has_v {l : List Int} {v : Int} (hl : l.length ≤ 1000000) (hN : l.length < N) : has_S N l v = some (l.contains v) := by
  unfold has_S
  have := has_l1_p (N := N) (v := v) hl N 0 (by omega) (by omega)
  simp only [Int.natCast_zero, List.drop_zero] at this
  rw [this]
  cases l.contains v <;> rfl
/-- The numbers from one on up to another one. -/
def wordsL (a b : Int) : List Int := (List.range (b - a).toNat).map fun (i : Nat) => a + (i : Int)
theorem mem_wordsL {a b x : Int} : x ∈ wordsL a b ↔ a ≤ x ∧ x < b := by
  simp only [wordsL, List.mem_map, List.mem_range]
  constructor
  · rintro ⟨i, hi, rfl⟩; omega
  · rintro ⟨h1, h2⟩; exact ⟨(x - a).toNat, by omega, by omega⟩
/-- Some words have the whole core of a turn. -/
def coreB (l : List Int) (x : Tn) : Bool := (wordsL x.2.1 (x.2.2 + 1)).all fun w => l.contains w
def sayP (l : List Int) (x : Tn) : Bool := coreB l x && !l.contains x.1
theorem otherwise_l1_p {l : List Int} (hl : l.length ≤ 1000000) (hN : l.length < N) {x : Tn} (hx : -1000 ≤ x.2.1 ∧ x.2.2 ≤ 1000) : ∀ (n : Nat) (w : Int), (x.2.2 + 1 - w).toNat < n → x.2.1 ≤ w →
    otherwise_l1 N n l w x.1 x.2.1 x.2.2 = some (if (wordsL w (x.2.2 + 1)).all (fun w => l.contains w) then .inr (l, x.1, x.2.1, x.2.2) else .inl ())
  | 0, w, h, _ => by omega
  | n + 1, w, h, h1 => by
    unfold otherwise_l1
    by_cases c : w ≤ x.2.2
    · have ih := otherwise_l1_p hl hN hx n (w + 1) (by omega) (by omega)
      have e : wordsL w (x.2.2 + 1) = w :: wordsL (w + 1) (x.2.2 + 1) := by
        unfold wordsL
        rw [show (x.2.2 + 1 - w).toNat = (x.2.2 + 1 - (w + 1)).toNat + 1 by omega, List.range_succ_eq_map, List.map_cons, List.map_map]
        congr 1
        · simp
        · refine List.map_congr_left fun i _ => ?_
          simp only [Function.comp]; omega
      rw [e, List.all_cons, br_dec c, has_v hl hN]
      simp only [Option.bind_some]
      cases l.contains w
      · rfl
      · rw [Bool.not_true, br_false, chk_eq (by omega), ih, Bool.true_and]
    · rw [br_ndec c]
      have : wordsL w (x.2.2 + 1) = [] := by unfold wordsL; rw [show (x.2.2 + 1 - w).toNat = 0 by omega]; rfl
      rw [this]; rfl
theorem otherwise_v {l : List Int} (hl : l.length ≤ 1000000) (hN : l.length < N) {x : Tn} (hx : -1000 ≤ x.2.1 ∧ x.2.2 ≤ 1000) (hN2 : (x.2.2 + 1 - x.2.1).toNat < N) : otherwise_S N x.1 x.2.1 x.2.2 l = some (sayP l x) := by
  unfold otherwise_S sayP coreB
  rw [otherwise_l1_p hl hN hx N x.2.1 hN2 (by omega)]
  cases (wordsL x.2.1 (x.2.2 + 1)).all (fun w => l.contains w)
  · rfl
  · simp only [if_true, Option.bind_some]
    rw [has_v hl hN]; rfl
/-- The turns that are so. -/
def selK (p : Tn → Bool) (ts : List Tn) (k : Nat) : List Int := ((List.range k).filter fun i => p (ts.getD i (0, 0, 0))).map fun (i : Nat) => (i : Int)
theorem selK_len (p : Tn → Bool) (ts : List Tn) (k : Nat) : (selK p ts k).length ≤ k := by
  have := List.length_filter_le (fun i => p (ts.getD i (0, 0, 0))) (List.range k)
  simp only [selK, List.length_map]
  simpa using this
theorem selK_succ (p : Tn → Bool) (ts : List Tn) (k : Nat) : selK p ts (k + 1) = selK p ts k ++ (if p (ts.getD k (0, 0, 0)) = true then [(k : Int)] else []) := by
  simp only [selK, List.range_succ, List.filter_append, List.map_append]
  congr 1
  rw [List.filter_cons]
  by_cases h : p (ts.getD k (0, 0, 0)) = true
  · rw [if_pos h, if_pos h]; rfl
  · rw [if_neg h, if_neg h]; rfl
theorem said_l1_p {l : List Int} {p : Tn → Bool} (ht : ts.length ≤ 1000) (ho : ∀ x ∈ ts, otherwise_S N x.1 x.2.1 x.2.2 l = some (p x)) : ∀ (n k : Nat), ts.length < n + k → k ≤ ts.length → said_l1 N n l k ws ts br_ (selK p ts k) = some (selK p ts ts.length)
  | 0, k, h, _ => by omega
  | n + 1, k, h, hk => by
    unfold said_l1
    by_cases c : k < ts.length
    · have ih := said_l1_p ht ho n (k + 1) (by omega) (by omega)
      rw [selK_succ] at ih
      have hl := selK_len p ts k
      have hp := ho _ (getD_mem (d := (0, 0, 0)) c)
      have g := gets c (0, 0, 0)
      generalize ts.getD k (0, 0, 0) = x at *
      have hj : ∀ out, said_j1 N (said_l1 N n) l k ws ts br_ out = said_l1 N n l ((k + 1 : Nat) : Int) ws ts br_ out := fun out => by
        unfold said_j1
        rw [chk_eq (by omega)]; rfl
      rw [br_dec (by omega), idx_eq (by omega) g, hp]
      simp only [Option.bind_some, hj]
      cases hq : p x
      · rw [br_false]
        simpa [hq] using ih
      · rw [br_true, lim_eq (by simp; omega)]
        simpa [hq] using ih
    · rw [br_ndec (by omega)]
      obtain rfl : k = ts.length := by omega
      rfl
theorem said_v {l : List Int} {p : Tn → Bool} (ht : ts.length ≤ 1000) (hN : ts.length < N) (ho : ∀ x ∈ ts, otherwise_S N x.1 x.2.1 x.2.2 l = some (p x)) : said_S N ws ts br_ l = some (selK p ts ts.length) := by
  unfold said_S
  have := said_l1_p (N := N) (ws := ws) (br_ := br_) ht ho N 0 (by omega) (by omega)
  simp only [Int.natCast_zero] at this
  have e : selK p ts 0 = [] := rfl
  rw [e] at this
  rw [this]; rfl
theorem TFine.said (h : TFine ws ts br_) (hN : 20 ≤ N) {l : List Int} (hl : l.length ≤ 1000000) (hlN : l.length < N) : said_S N ws ts br_ l = some (selK (sayP l) ts ts.length) := by
  have := h.t; have := h.n
  exact said_v (by omega) (by omega) fun x hx => by
    have := h.x x hx
    exact otherwise_v hl hlN (by omega) (by omega)
/-! ### What a part says -/
/-! ### Readings -/
end
end Go.Proofs.Ytfamlpbdhhikdaa

namespace Go.Proofs.Ytfamlpbdhhikdaa
set_option linter.all false
open Go

section
variable {N : Nat} {ws : List Wd} {ts : List Tn} {br_ : Int}
theorem sylR_step {a b : Nat} (h : a < b) (hb : b ≤ ws.length) : sylR ws a b = (ws.getD a (0, 0, false)).1 + sylR ws (a + 1) b := by
  unfold sylR
  rw [drop_cons (l := ws.take b) (by simp; omega) (0, 0, false), List.map_cons, List.sum_cons]
  congr 2
  simp [List.getD, List.getElem?_take, h]
end
end Go.Proofs.Ytfamlpbdhhikdaa

namespace Go.Proofs.Ytfamlpbdhhikdaa
set_option linter.all false
open Go

theorem indexi_gen (N : Nat) (v : Int) : ∀ (n : Nat) (s : List Int) (u u2 : Int), indexi_l1 N n s v u u2 = ixL (fun x => some (decide (v = x))) n s u u2
  | 0, _, _, _ => rfl
  | n + 1, s, u, u2 => by unfold indexi_l1 ixL; simp only [indexi_gen N v n, Option.bind_some]
theorem containsi_v {N : Nat} {s : List Int} {v : Int} (hs : s.length ≤ 1000) (hN : s.length < N) : containsi_S N s v = some (s.contains v) := by
  have h := ixS_any (f := fun x => some (decide (v = x))) (p := fun x => decide (v = x)) (s := s) (N := N) (fun x _ => rfl) (by omega) hN
  unfold containsi_S indexi_S
  unfold ixS at h
  rw [indexi_gen]
  refine Eq.trans h ?_
  congr 1
  rw [Bool.eq_iff_iff]
  simp
section
variable {N : Nat} (hN : 110 ≤ N) {ws : List Wd} {ts : List Tn} {br_ : Int} (hF : TFine ws ts br_) {l : List Int} (hl : l.length ≤ 20) (h12 : ∀ x ∈ l, 1 ≤ x ∧ x ≤ 12) (hs : l.sum = ws.length)
include hN hF hl h12
include hs
omit hs
include hs
end
section
variable {N : Nat} (hN : 110 ≤ N) {ws : List Wd} {ts : List Tn} {br_ : Int}
include hN
end
end Go.Proofs.Ytfamlpbdhhikdaa

namespace Go.Proofs.Ytfamlpbdhhikdaa
set_option linter.all false
open Go

/-- A reading from a place to the end, all of whose breaths are right. -/
def goodB (R : Nat → Nat → Bool) (m : Nat) : Nat → List Int → Bool
  | a, [] => a == m
  | a, x :: l => (decide (1 ≤ x) && decide (a + x.toNat ≤ m)) && (R a (a + x.toNat) && goodB R m (a + x.toNat) l)
/-- The fewest breaths from a place. -/
structure IsMin (R : Nat → Nat → Bool) (m a : Nat) (k : Int) : Prop where
  ex : ∃ l, goodB R m a l = true ∧ (l.length : Int) = k
  le : ∀ l, goodB R m a l = true → k ≤ l.length
section
variable {R : Nat → Nat → Bool} {m : Nat}
theorem good_cons {a : Nat} {x : Int} {l : List Int} : goodB R m a (x :: l) = true ↔ (1 ≤ x ∧ a + x.toNat ≤ m) ∧ R a (a + x.toNat) = true ∧ goodB R m (a + x.toNat) l = true := by
  simp [goodB]
theorem good_nil {a : Nat} : goodB R m a [] = true ↔ a = m := by simp [goodB]
theorem good_step {a q : Nat} {l : List Int} (h : a < q) (hq : q ≤ m) (hR : R a q = true) (hl : goodB R m q l = true) : goodB R m a (((q : Int) - a) :: l) = true := by
  have e : a + ((q : Int) - a).toNat = q := by omega
  rw [good_cons, e]
  exact ⟨⟨by omega, hq⟩, hR, hl⟩
theorem IsMin.end_ : IsMin R m m 0 := ⟨⟨[], by simp [goodB], rfl⟩, fun l _ => by omega⟩
theorem getD_set' {α : Type} {l : List α} {i j : Nat} {v d : α} (hi : i < l.length) : (l.set i v).getD j d = if i = j then v else l.getD j d := by
  by_cases h : i = j
  · subst h; simp [List.getD, hi]
  · simp [List.getD, List.getElem?_set, h]
/-- What the tables say of a place. -/
def Told (R : Nat → Nat → Bool) (m : Nat) (L X : List Int) (i : Nat) : Prop :=
  (X.getD i 0 = 0 ∧ ∀ l, goodB R m i l = false) ∨ ∃ q : Nat, X.getD i 0 = q ∧ i < q ∧ q ≤ m ∧ R i q = true ∧ IsMin R m i (L.getD i 0) ∧ IsMin R m q (L.getD i 0 - 1)
structure Tab (R : Nat → Nat → Bool) (m f : Nat) (L X : List Int) : Prop where
  hL : L.length = 13
  hX : X.length = 13
  bd : ∀ i, i < 13 → 0 ≤ L.getD i 0 ∧ L.getD i 0 ≤ 13 - (i : Int)
  lo : ∀ i, i < f → X.getD i 0 = 0
  en : L.getD m 0 = 0
  told : ∀ i, f < i → i < m → Told R m L X i
/-- What is known of a place, when ends ahead of one were tried. -/
def Cur (R : Nat → Nat → Bool) (m f to : Nat) (L X : List Int) : Prop :=
  (X.getD f 0 = 0 ∧ ∀ q, f < q → q < to → R f q = true → ∀ l, goodB R m q l = false) ∨
  ∃ q : Nat, X.getD f 0 = q ∧ f < q ∧ q < to ∧ q ≤ m ∧ R f q = true ∧ IsMin R m q (L.getD f 0 - 1) ∧ ∀ p, f < p → p < to → R f p = true → ∀ l, goodB R m p l = true → L.getD f 0 ≤ l.length + 1
theorem Cur.start {f : Nat} {L X : List Int} (h : X.getD f 0 = 0) : Cur R m f (f + 1) L X := .inl ⟨h, fun q h1 h2 => by omega⟩
theorem Cur.skip {f to : Nat} {L X : List Int} (h : Cur R m f to L X) (hs : R f to = true → ∀ l, goodB R m to l = false) : Cur R m f (to + 1) L X := by
  rcases h with ⟨h1, h2⟩ | ⟨q, h1, h2, h3, h4, h5, h6, h7⟩
  · refine .inl ⟨h1, fun q a b hR => ?_⟩
    by_cases e : q = to
    · subst e; exact hs hR
    · exact h2 q a (by omega) hR
  · refine .inr ⟨q, h1, h2, by omega, h4, h5, h6, fun p a b hR l hl => ?_⟩
    by_cases e : p = to
    · subst e; rw [hs hR l] at hl; cases hl
    · exact h7 p a (by omega) hR l hl
theorem Cur.keep {f to : Nat} {L X : List Int} (h : Cur R m f to L X) (hx : X.getD f 0 ≠ 0) (ht : IsMin R m to (L.getD to 0)) (hle : L.getD f 0 ≤ L.getD to 0 + 1) : Cur R m f (to + 1) L X := by
  rcases h with ⟨h1, h2⟩ | ⟨q, h1, h2, h3, h4, h5, h6, h7⟩
  · exact absurd h1 hx
  · refine .inr ⟨q, h1, h2, by omega, h4, h5, h6, fun p a b hR l hl => ?_⟩
    by_cases e : p = to
    · subst e; have := ht.le l hl; omega
    · exact h7 p a (by omega) hR l hl
theorem Cur.put {f to : Nat} {L X : List Int} (h : Cur R m f to L X) (hL : L.length = 13) (hX : X.length = 13) (hf : f < 13) (hto : f < to) (hm : to ≤ m) (hR : R f to = true) (ht : IsMin R m to (L.getD to 0)) (hbetter : X.getD f 0 = 0 ∨ L.getD to 0 + 1 < L.getD f 0) :
    Cur R m f (to + 1) (L.set f (L.getD to 0 + 1)) (X.set f to) := by
  refine .inr ⟨to, by rw [getD_set' (by omega), if_pos rfl], hto, by omega, hm, hR, ?_, fun p a b hRp l hl => ?_⟩
  · rw [getD_set' (by omega), if_pos rfl]
    simpa using ht
  · rw [getD_set' (by omega), if_pos rfl]
    by_cases e : p = to
    · subst e; have := ht.le l hl; omega
    · rcases h with ⟨h1, h2⟩ | ⟨q, h1, h2, h3, h4, h5, h6, h7⟩
      · rw [h2 p a (by omega) hRp l] at hl; cases hl
      · have := h7 p a (by omega) hRp l hl
        rcases hbetter with hb | hb
        · omega
        · omega
theorem Tab.put {f to : Nat} {L X : List Int} (h : Tab R m f L X) (hf : f < m) (hm : m ≤ 12) (hto : f < to) (htm : to ≤ m) : Tab R m f (L.set f (L.getD to 0 + 1)) (X.set f to) := by
  have hL := h.hL; have hX := h.hX
  refine ⟨by simpa using hL, by simpa using hX, fun i hi => ?_, fun i hi => ?_, ?_, fun i h1 h2 => ?_⟩
  · rw [getD_set' (by omega)]
    split
    · rename_i e; subst e
      have := h.bd to (by omega)
      omega
    · exact h.bd i hi
  · rw [getD_set' (by omega), if_neg (by omega)]; exact h.lo i hi
  · rw [getD_set' (by omega), if_neg (by omega)]; exact h.en
  · unfold Told
    rw [getD_set' (by omega), getD_set' (by omega), if_neg (by omega), if_neg (by omega)]
    exact h.told i h1 h2
theorem Tab.min {f i : Nat} {L X : List Int} (h : Tab R m f L X) (h1 : f < i) (h2 : i ≤ m) (hx : i < m → X.getD i 0 ≠ 0) : IsMin R m i (L.getD i 0) := by
  by_cases e : i = m
  · subst e; rw [h.en]; exact IsMin.end_
  · rcases h.told i h1 (by omega) with ⟨h3, _⟩ | ⟨q, _, _, _, _, h4, _⟩
    · exact absurd h3 (hx (by omega))
    · exact h4
theorem Tab.next {f : Nat} {L X : List Int} (h : Tab R m f L X) (hf : f < m) (hc : Cur R m f (m + 1) L X) : ∀ i, f ≤ i → i < m → Told R m L X i := by
  intro i h1 h2
  by_cases e : i = f
  · subst e
    rcases hc with ⟨h3, h4⟩ | ⟨q, h3, h4, h5, h6, h7, h8, h9⟩
    · refine .inl ⟨h3, fun l => ?_⟩
      cases hg : goodB R m i l
      · rfl
      cases l with
      | nil => have := good_nil.1 hg; omega
      | cons x l =>
        obtain ⟨⟨a, b⟩, c, d⟩ := good_cons.1 hg
        rw [h4 _ (by omega) (by omega) c l] at d; cases d
    · refine .inr ⟨q, h3, h4, h6, h7, ⟨?_, fun l hl => ?_⟩, h8⟩
      · obtain ⟨l, a, b⟩ := h8.ex
        exact ⟨((q : Int) - i) :: l, good_step h4 h6 h7 a, by rw [List.length_cons]; omega⟩
      · cases l with
        | nil => have := good_nil.1 hl; omega
        | cons x l =>
          obtain ⟨⟨a, b⟩, c, d⟩ := good_cons.1 hl
          have := h9 _ (by omega) (by omega) c l d
          rw [List.length_cons]; omega
  · exact h.told i (by omega) h2
end
end Go.Proofs.Ytfamlpbdhhikdaa

namespace Go.Proofs.Ytfamlpbdhhikdaa
set_option linter.all false
open Go


/-! ### fewestr -/
def fewestr_in (N n : Nat) (d : Tx) (from_ to : Int) (r : Tx) (least next : List Int) : Option (Tx × Int × Tx × List Int × List Int) :=
  (right_S N r from_ to).bind fun x_5 =>
          br (!x_5)
            (fewestr_j1 N (fewestr_l2 N n) d from_ to r least next)
            (rng from_ 13 <|
            get next from_.toNat fun x_6 =>
            br (decide (x_6 = 0))
              (rng to 13 <|
              get least to.toNat fun x_7 =>
              chk (x_7 + 1) <|
              rng from_ 13 <|
              get least from_.toNat fun _ =>
              rng from_ 13 <|
              get next from_.toNat fun _ =>
              fewestr_j1 N (fewestr_l2 N n) d from_ to r (least.set from_.toNat (x_7 + 1)) (next.set from_.toNat to))
              (rng to 13 <|
              get least to.toNat fun x_10 =>
              chk (x_10 + 1) <|
              rng from_ 13 <|
              get least from_.toNat fun x_11 =>
              br (decide ((x_10 + 1) < x_11))
                (rng to 13 <|
                get least to.toNat fun x_12 =>
                chk (x_12 + 1) <|
                rng from_ 13 <|
                get least from_.toNat fun _ =>
                rng from_ 13 <|
                get next from_.toNat fun _ =>
                fewestr_j1 N (fewestr_l2 N n) d from_ to r (least.set from_.toNat (x_12 + 1)) (next.set from_.toNat to))
                (fewestr_j1 N (fewestr_l2 N n) d from_ to r least next)))
section
variable {N : Nat} (hN : 110 ≤ N) {d : Tx} {r : Tx} {R : Nat → Nat → Bool} {m : Nat} (hd : d.1.length = m) (hm : 1 ≤ m ∧ m ≤ 12) (hR : ∀ a b : Nat, a < b → b ≤ m → right_S N r a b = some (R a b))
include hd hm hR
theorem fewestr_l2_p {f : Nat} (hf : f < m) : ∀ (n to : Nat) (L X : List Int), m + 1 < n + to → f < to → to ≤ m + 1 → Tab R m f L X → Cur R m f to L X →
    Ok (fewestr_l2 N n d f to r L X) fun z => z.1 = d ∧ z.2.1 = f ∧ z.2.2.1 = r ∧ Tab R m f z.2.2.2.1 z.2.2.2.2 ∧ Cur R m f (m + 1) z.2.2.2.1 z.2.2.2.2
  | 0, to, L, X, h, _, _, _, _ => by omega
  | n + 1, to, L, X, h, h1, h2, hT, hC => by
    have hL := hT.hL; have hX := hT.hX
    unfold fewestr_l2
    simp only [end__S, hd, Option.bind_some]
    by_cases c : to ≤ m
    rotate_left
    · obtain rfl : to = m + 1 := by omega
      rw [br_ndec (by omega)]
      exact Ok.some ⟨rfl, rfl, rfl, hT, hC⟩
    rw [br_dec (by omega)]
    have hj : ∀ L X, fewestr_j1 N (fewestr_l2 N n) d f to r L X = fewestr_l2 N n d f ((to + 1 : Nat) : Int) r L X := fun L X => by
      unfold fewestr_j1
      rw [chk_eq (by omega)]; rfl
    have ih := fewestr_l2_p hf n (to + 1)
    have inner : (to < m → X.getD to 0 ≠ 0) → Ok (fewestr_in N n d f to r L X) fun z => z.1 = d ∧ z.2.1 = f ∧ z.2.2.1 = r ∧ Tab R m f z.2.2.2.1 z.2.2.2.2 ∧ Cur R m f (m + 1) z.2.2.2.1 z.2.2.2.2 := by
      intro hx
      have ht := hT.min h1 c hx
      have b1 := hT.bd to (by omega)
      unfold fewestr_in
      rw [hR f to h1 c]
      simp only [Option.bind_some, Int.toNat_natCast, hj]
      cases hr : R f to
      · rw [Bool.not_false, br_true]
        exact ih _ _ (by omega) (by omega) (by omega) hT (hC.skip (fun e => by rw [hr] at e; cases e))
      · rw [Bool.not_true, br_false, rng_eq (by omega), get_get 0 (by omega)]
        by_cases e : X.getD f 0 = 0
        · rw [br_dec e, rng_eq (by omega), get_get 0 (by omega), chk_eq (by omega), rng_eq (by omega), get_get 0 (by omega), rng_eq (by omega), get_get 0 (by omega)]
          exact ih _ _ (by omega) (by omega) (by omega) (hT.put hf hm.2 h1 c) (hC.put hL hX (by omega) h1 c hr ht (.inl e))
        · rw [br_ndec e, rng_eq (by omega), get_get 0 (by omega), chk_eq (by omega), rng_eq (by omega), get_get 0 (by omega)]
          by_cases e2 : L.getD to 0 + 1 < L.getD f 0
          · rw [br_dec e2, rng_eq (by omega), get_get 0 (by omega), chk_eq (by omega), rng_eq (by omega), get_get 0 (by omega), rng_eq (by omega), get_get 0 (by omega)]
            exact ih _ _ (by omega) (by omega) (by omega) (hT.put hf hm.2 h1 c) (hC.put hL hX (by omega) h1 c hr ht (.inr e2))
          · rw [br_ndec e2]
            exact ih _ _ (by omega) (by omega) (by omega) hT (hC.keep e ht (by omega))
    by_cases c2 : to < m
    · rw [br_dec (by omega), rng_eq (by omega), get_get 0 (by omega)]
      simp only [Int.toNat_natCast]
      by_cases e : X.getD to 0 = 0
      · rw [br_dec e, hj]
        refine ih _ _ (by omega) (by omega) (by omega) hT (hC.skip fun _ l => ?_)
        rcases hT.told to h1 c2 with ⟨_, h4⟩ | ⟨q, h3, h4, _⟩
        · exact h4 l
        · omega
      · rw [br_ndec e]
        exact inner fun _ => e
    · rw [br_ndec (by omega)]
      exact inner fun h => by omega
include hN in
theorem fewestr_l1_p : ∀ (n f : Nat) (L X : List Int), f < n → f ≤ m → L.length = 13 → X.length = 13 → (∀ i, i < 13 → 0 ≤ L.getD i 0 ∧ L.getD i 0 ≤ 13 - (i : Int)) → (∀ i, i < f → X.getD i 0 = 0) → L.getD m 0 = 0 → (∀ i, f ≤ i → i < m → Told R m L X i) →
    Ok (fewestr_l1 N n d ((f : Int) - 1) r L X) fun z => z.1 = d ∧ z.2.length = 13 ∧ ∃ L' : List Int, ∀ i, i < m → Told R m L' z.2 i
  | 0, f, L, X, h, _, _, _, _, _, _, _ => by omega
  | n + 1, f, L, X, h, hf, hL, hX, bd, lo, en, told => by
    unfold fewestr_l1
    by_cases c : f = 0
    · subst c
      rw [br_ndec (by omega)]
      exact Ok.some ⟨rfl, hX, L, fun i hi => told i (by omega) hi⟩
    · obtain ⟨g, rfl⟩ : ∃ g, f = g + 1 := ⟨f - 1, by omega⟩
      rw [br_dec (by omega), chk_eq (by omega), show ((g + 1 : Nat) : Int) - 1 = (g : Int) by omega, show (g : Int) + 1 = ((g + 1 : Nat) : Int) by omega]
      have hT : Tab R m g L X := ⟨hL, hX, bd, fun i hi => lo i (by omega), en, fun i h1 h2 => told i (by omega) h2⟩
      refine Ok.bind (fewestr_l2_p hd hm hR (f := g) (by omega) N (g + 1) L X (by omega) (by omega) (by omega) hT (Cur.start (lo g (by omega)))) ?_
      rintro ⟨d', f', r', L', X'⟩ ⟨e1, e2, e3, hT', hC'⟩
      dsimp only at e1 e2 e3 hT' hC' ⊢
      rw [e1, e2, e3, chk_eq (by omega)]
      have ih := fewestr_l1_p n g L' X' (by omega) (by omega) hT'.hL hT'.hX hT'.bd hT'.lo hT'.en (hT'.next (by omega) hC')
      exact ih
omit hm hR in
theorem fewestr_l3_p {L X : List Int} (hm : 1 ≤ m ∧ m ≤ 12) (hX : X.length = 13) (told : ∀ i, i < m → Told R m L X i) : ∀ (n a : Nat) (O : List Int), m < n + a → a ≤ m → O.length ≤ a → (a < m → X.getD a 0 ≠ 0) →
    Ok (fewestr_l3 N n d a X O) fun z => ∃ l, z = O ++ l ∧ goodB R m a l = true ∧ IsMin R m a l.length
  | 0, a, O, h, _, _, _ => by omega
  | n + 1, a, O, h, ha, hO, hx => by
    unfold fewestr_l3
    simp only [end__S, hd, Option.bind_some]
    by_cases c : a < m
    · rcases told a c with ⟨h3, _⟩ | ⟨q, h3, h4, h5, h6, h7, h8⟩
      · exact absurd h3 (hx c)
      · rw [br_dec (by omega), rng_eq (by omega), get_get 0 (by omega)]
        simp only [Int.toNat_natCast, h3]
        rw [chk_eq (by omega), lim_eq (by simp; omega), rng_eq (by omega), get_get 0 (by omega), h3]
        have hq : q < m → X.getD q 0 ≠ 0 := fun hq e => by
          rcases told q hq with ⟨_, h9⟩ | ⟨q', h9, h10, _⟩
          · obtain ⟨l, hl, _⟩ := h8.ex
            rw [h9 l] at hl; cases hl
          · omega
        refine (fewestr_l3_p hm hX told n q (O ++ [(q : Int) - a]) (by omega) (by omega) (by simp; omega) hq).mono ?_
        rintro z ⟨l, rfl, hl, hmin⟩
        refine ⟨((q : Int) - a) :: l, by simp, good_step h4 h5 h6 hl, ?_⟩
        have e : (l.length : Int) = L.getD a 0 - 1 := by
          obtain ⟨l1, g1, k1⟩ := h8.ex
          have := hmin.le l1 g1; have := h8.le l hl; omega
        rw [List.length_cons, show ((l.length + 1 : Nat) : Int) = L.getD a 0 by omega]
        exact h7
    · obtain rfl : a = m := by omega
      rw [br_ndec (by omega)]
      exact Ok.some ⟨[], by simp, by simp [goodB], IsMin.end_⟩
include hN
theorem fewestr_v : (∃ l, fewestr_S N r d = some (l, true) ∧ goodB R m 0 l = true ∧ IsMin R m 0 l.length) ∨ (fewestr_S N r d = some ([], false) ∧ ∀ l, goodB R m 0 l = false) := by
  have rep : ∀ i, (List.replicate 13 (0 : Int)).getD i 0 = 0 := fun i => by
    simp only [List.getD, List.getElem?_replicate]
    split <;> rfl
  have e1 := fewestr_l1_p hN hd hm hR N m (List.replicate 13 0) (List.replicate 13 0) (by omega) (by omega) (by simp) (by simp) (fun i hi => by rw [rep]; omega) (fun i _ => rep i) (rep m) (fun i h1 h2 => by omega)
  obtain ⟨⟨d', X⟩, e, e2, hX, L, told⟩ := e1
  dsimp only at e2 hX told
  subst e2
  unfold fewestr_S
  simp only [end__S, hd, Option.bind_some]
  rw [chk_eq (by omega), e]
  simp only [Option.bind_some]
  rw [get_get 0 (by omega)]
  by_cases c : X.getD 0 0 = 0
  · rw [br_dec c]
    refine .inr ⟨rfl, ?_⟩
    rcases told 0 (by omega) with ⟨_, h⟩ | ⟨q, h1, h2, _⟩
    · exact h
    · omega
  · rw [br_ndec c]
    obtain ⟨z, e3, l, hz, hl, hmin⟩ := fewestr_l3_p hd hm hX told N 0 [] (by omega) (by omega) (by simp) (fun _ => c)
    simp only [Int.natCast_zero] at e3
    rw [List.nil_append] at hz
    subst hz
    rw [e3]
    exact .inl ⟨_, rfl, hl, hmin⟩
end
end Go.Proofs.Ytfamlpbdhhikdaa

namespace Go.Proofs.Ytfamlpbdhhikdaa
set_option linter.all false
open Go


/-! ### feweste -/
def feweste_in (N n : Nat) (d : Tx) (from_ to : Int) (r : (Tx × Int × Tx)) (least next : List Int) : Option (Tx × Int × Tx × Int × Tx × List Int × List Int) :=
  (even1_S N from_ to r.1 r.2.1 r.2.2).bind fun x_5 =>
          br (!x_5)
            (feweste_j1 N (feweste_l2 N n) d from_ to r.1 r.2.1 r.2.2 least next)
            (rng from_ 13 <|
            get next from_.toNat fun x_6 =>
            br (decide (x_6 = 0))
              (rng to 13 <|
              get least to.toNat fun x_7 =>
              chk (x_7 + 1) <|
              rng from_ 13 <|
              get least from_.toNat fun _ =>
              rng from_ 13 <|
              get next from_.toNat fun _ =>
              feweste_j1 N (feweste_l2 N n) d from_ to r.1 r.2.1 r.2.2 (least.set from_.toNat (x_7 + 1)) (next.set from_.toNat to))
              (rng to 13 <|
              get least to.toNat fun x_10 =>
              chk (x_10 + 1) <|
              rng from_ 13 <|
              get least from_.toNat fun x_11 =>
              br (decide ((x_10 + 1) < x_11))
                (rng to 13 <|
                get least to.toNat fun x_12 =>
                chk (x_12 + 1) <|
                rng from_ 13 <|
                get least from_.toNat fun _ =>
                rng from_ 13 <|
                get next from_.toNat fun _ =>
                feweste_j1 N (feweste_l2 N n) d from_ to r.1 r.2.1 r.2.2 (least.set from_.toNat (x_12 + 1)) (next.set from_.toNat to))
                (feweste_j1 N (feweste_l2 N n) d from_ to r.1 r.2.1 r.2.2 least next)))
section
variable {N : Nat} (hN : 110 ≤ N) {d : Tx} {r : (Tx × Int × Tx)} {R : Nat → Nat → Bool} {m : Nat} (hd : d.1.length = m) (hm : 1 ≤ m ∧ m ≤ 12) (hR : ∀ a b : Nat, a < b → b ≤ m → even1_S N a b r.1 r.2.1 r.2.2 = some (R a b))
include hd hm hR
theorem feweste_l2_p {f : Nat} (hf : f < m) : ∀ (n to : Nat) (L X : List Int), m + 1 < n + to → f < to → to ≤ m + 1 → Tab R m f L X → Cur R m f to L X →
    Ok (feweste_l2 N n d f to r.1 r.2.1 r.2.2 L X) fun z => z.1 = d ∧ z.2.1 = f ∧ (z.2.2.1 = r.1 ∧ z.2.2.2.1 = r.2.1 ∧ z.2.2.2.2.1 = r.2.2) ∧ Tab R m f z.2.2.2.2.2.1 z.2.2.2.2.2.2 ∧ Cur R m f (m + 1) z.2.2.2.2.2.1 z.2.2.2.2.2.2
  | 0, to, L, X, h, _, _, _, _ => by omega
  | n + 1, to, L, X, h, h1, h2, hT, hC => by
    have hL := hT.hL; have hX := hT.hX
    unfold feweste_l2
    simp only [end__S, hd, Option.bind_some]
    by_cases c : to ≤ m
    rotate_left
    · obtain rfl : to = m + 1 := by omega
      rw [br_ndec (by omega)]
      exact Ok.some ⟨rfl, rfl, ⟨rfl, rfl, rfl⟩, hT, hC⟩
    rw [br_dec (by omega)]
    have hj : ∀ L X, feweste_j1 N (feweste_l2 N n) d f to r.1 r.2.1 r.2.2 L X = feweste_l2 N n d f ((to + 1 : Nat) : Int) r.1 r.2.1 r.2.2 L X := fun L X => by
      unfold feweste_j1
      rw [chk_eq (by omega)]; rfl
    have ih := feweste_l2_p hf n (to + 1)
    have inner : (to < m → X.getD to 0 ≠ 0) → Ok (feweste_in N n d f to r L X) fun z => z.1 = d ∧ z.2.1 = f ∧ (z.2.2.1 = r.1 ∧ z.2.2.2.1 = r.2.1 ∧ z.2.2.2.2.1 = r.2.2) ∧ Tab R m f z.2.2.2.2.2.1 z.2.2.2.2.2.2 ∧ Cur R m f (m + 1) z.2.2.2.2.2.1 z.2.2.2.2.2.2 := by
      intro hx
      have ht := hT.min h1 c hx
      have b1 := hT.bd to (by omega)
      unfold feweste_in
      rw [hR f to h1 c]
      simp only [Option.bind_some, Int.toNat_natCast, hj]
      cases hr : R f to
      · rw [Bool.not_false, br_true]
        exact ih _ _ (by omega) (by omega) (by omega) hT (hC.skip (fun e => by rw [hr] at e; cases e))
      · rw [Bool.not_true, br_false, rng_eq (by omega), get_get 0 (by omega)]
        by_cases e : X.getD f 0 = 0
        · rw [br_dec e, rng_eq (by omega), get_get 0 (by omega), chk_eq (by omega), rng_eq (by omega), get_get 0 (by omega), rng_eq (by omega), get_get 0 (by omega)]
          exact ih _ _ (by omega) (by omega) (by omega) (hT.put hf hm.2 h1 c) (hC.put hL hX (by omega) h1 c hr ht (.inl e))
        · rw [br_ndec e, rng_eq (by omega), get_get 0 (by omega), chk_eq (by omega), rng_eq (by omega), get_get 0 (by omega)]
          by_cases e2 : L.getD to 0 + 1 < L.getD f 0
          · rw [br_dec e2, rng_eq (by omega), get_get 0 (by omega), chk_eq (by omega), rng_eq (by omega), get_get 0 (by omega), rng_eq (by omega), get_get 0 (by omega)]
            exact ih _ _ (by omega) (by omega) (by omega) (hT.put hf hm.2 h1 c) (hC.put hL hX (by omega) h1 c hr ht (.inr e2))
          · rw [br_ndec e2]
            exact ih _ _ (by omega) (by omega) (by omega) hT (hC.keep e ht (by omega))
    by_cases c2 : to < m
    · rw [br_dec (by omega), rng_eq (by omega), get_get 0 (by omega)]
      simp only [Int.toNat_natCast]
      by_cases e : X.getD to 0 = 0
      · rw [br_dec e, hj]
        refine ih _ _ (by omega) (by omega) (by omega) hT (hC.skip fun _ l => ?_)
        rcases hT.told to h1 c2 with ⟨_, h4⟩ | ⟨q, h3, h4, _⟩
        · exact h4 l
        · omega
      · rw [br_ndec e]
        exact inner fun _ => e
    · rw [br_ndec (by omega)]
      exact inner fun h => by omega
include hN in
theorem feweste_l1_p : ∀ (n f : Nat) (L X : List Int), f < n → f ≤ m → L.length = 13 → X.length = 13 → (∀ i, i < 13 → 0 ≤ L.getD i 0 ∧ L.getD i 0 ≤ 13 - (i : Int)) → (∀ i, i < f → X.getD i 0 = 0) → L.getD m 0 = 0 → (∀ i, f ≤ i → i < m → Told R m L X i) →
    Ok (feweste_l1 N n d ((f : Int) - 1) r.1 r.2.1 r.2.2 L X) fun z => z.1 = d ∧ z.2.length = 13 ∧ ∃ L' : List Int, ∀ i, i < m → Told R m L' z.2 i
  | 0, f, L, X, h, _, _, _, _, _, _, _ => by omega
  | n + 1, f, L, X, h, hf, hL, hX, bd, lo, en, told => by
    unfold feweste_l1
    by_cases c : f = 0
    · subst c
      rw [br_ndec (by omega)]
      exact Ok.some ⟨rfl, hX, L, fun i hi => told i (by omega) hi⟩
    · obtain ⟨g, rfl⟩ : ∃ g, f = g + 1 := ⟨f - 1, by omega⟩
      rw [br_dec (by omega), chk_eq (by omega), show ((g + 1 : Nat) : Int) - 1 = (g : Int) by omega, show (g : Int) + 1 = ((g + 1 : Nat) : Int) by omega]
      have hT : Tab R m g L X := ⟨hL, hX, bd, fun i hi => lo i (by omega), en, fun i h1 h2 => told i (by omega) h2⟩
      refine Ok.bind (feweste_l2_p hd hm hR (f := g) (by omega) N (g + 1) L X (by omega) (by omega) (by omega) hT (Cur.start (lo g (by omega)))) ?_
      rintro ⟨d', f', r1', r2', r3', L', X'⟩ ⟨e1, e2, e3, hT', hC'⟩
      dsimp only at e1 e2 e3 hT' hC' ⊢
      rw [e1, e2, e3.1, e3.2.1, e3.2.2, chk_eq (by omega)]
      have ih := feweste_l1_p n g L' X' (by omega) (by omega) hT'.hL hT'.hX hT'.bd hT'.lo hT'.en (hT'.next (by omega) hC')
      exact ih
omit hm hR in
theorem feweste_l3_p {L X : List Int} (hm : 1 ≤ m ∧ m ≤ 12) (hX : X.length = 13) (told : ∀ i, i < m → Told R m L X i) : ∀ (n a : Nat) (O : List Int), m < n + a → a ≤ m → O.length ≤ a → (a < m → X.getD a 0 ≠ 0) →
    Ok (feweste_l3 N n d a X O) fun z => ∃ l, z = O ++ l ∧ goodB R m a l = true ∧ IsMin R m a l.length
  | 0, a, O, h, _, _, _ => by omega
  | n + 1, a, O, h, ha, hO, hx => by
    unfold feweste_l3
    simp only [end__S, hd, Option.bind_some]
    by_cases c : a < m
    · rcases told a c with ⟨h3, _⟩ | ⟨q, h3, h4, h5, h6, h7, h8⟩
      · exact absurd h3 (hx c)
      · rw [br_dec (by omega), rng_eq (by omega), get_get 0 (by omega)]
        simp only [Int.toNat_natCast, h3]
        rw [chk_eq (by omega), lim_eq (by simp; omega), rng_eq (by omega), get_get 0 (by omega), h3]
        have hq : q < m → X.getD q 0 ≠ 0 := fun hq e => by
          rcases told q hq with ⟨_, h9⟩ | ⟨q', h9, h10, _⟩
          · obtain ⟨l, hl, _⟩ := h8.ex
            rw [h9 l] at hl; cases hl
          · omega
        refine (feweste_l3_p hm hX told n q (O ++ [(q : Int) - a]) (by omega) (by omega) (by simp; omega) hq).mono ?_
        rintro z ⟨l, rfl, hl, hmin⟩
        refine ⟨((q : Int) - a) :: l, by simp, good_step h4 h5 h6 hl, ?_⟩
        have e : (l.length : Int) = L.getD a 0 - 1 := by
          obtain ⟨l1, g1, k1⟩ := h8.ex
          have := hmin.le l1 g1; have := h8.le l hl; omega
        rw [List.length_cons, show ((l.length + 1 : Nat) : Int) = L.getD a 0 by omega]
        exact h7
    · obtain rfl : a = m := by omega
      rw [br_ndec (by omega)]
      exact Ok.some ⟨[], by simp, by simp [goodB], IsMin.end_⟩
include hN
theorem feweste_v : (∃ l, feweste_S N r.1 r.2.1 r.2.2 d = some (l, true) ∧ goodB R m 0 l = true ∧ IsMin R m 0 l.length) ∨ (feweste_S N r.1 r.2.1 r.2.2 d = some ([], false) ∧ ∀ l, goodB R m 0 l = false) := by
  have rep : ∀ i, (List.replicate 13 (0 : Int)).getD i 0 = 0 := fun i => by
    simp only [List.getD, List.getElem?_replicate]
    split <;> rfl
  have e1 := feweste_l1_p hN hd hm hR N m (List.replicate 13 0) (List.replicate 13 0) (by omega) (by omega) (by simp) (by simp) (fun i hi => by rw [rep]; omega) (fun i _ => rep i) (rep m) (fun i h1 h2 => by omega)
  obtain ⟨⟨d', X⟩, e, e2, hX, L, told⟩ := e1
  dsimp only at e2 hX told
  subst e2
  unfold feweste_S
  simp only [end__S, hd, Option.bind_some]
  rw [chk_eq (by omega), e]
  simp only [Option.bind_some]
  rw [get_get 0 (by omega)]
  by_cases c : X.getD 0 0 = 0
  · rw [br_dec c]
    refine .inr ⟨rfl, ?_⟩
    rcases told 0 (by omega) with ⟨_, h⟩ | ⟨q, h1, h2, _⟩
    · exact h
    · omega
  · rw [br_ndec c]
    obtain ⟨z, e3, l, hz, hl, hmin⟩ := feweste_l3_p hd hm hX told N 0 [] (by omega) (by omega) (by simp) (fun _ => c)
    simp only [Int.natCast_zero] at e3
    rw [List.nil_append] at hz
    subst hz
    rw [e3]
    exact .inl ⟨_, rfl, hl, hmin⟩
end

/-! ### fewests -/
section
variable {N : Nat} (hN : 110 ≤ N) {d : Tx} {r : Tx} {R : Nat → Nat → Bool} {m : Nat} (hd : d.1.length = m) (hm : 1 ≤ m ∧ m ≤ 12) (hR : ∀ a b : Nat, a < b → b ≤ m → surest1_S N a b r = some (R a b))
include hd hm hR
include hN
end
end Go.Proofs.Ytfamlpbdhhikdaa

namespace Go.Proofs.Ytfamlpbdhhikdaa
set_option linter.all false
open Go

/-- All readings from a place to the end, all of whose breaths are right. -/
def goods (R : Nat → Nat → Bool) (m : Nat) : Nat → Nat → List (List Int)
  | 0, a => if a = m then [[]] else []
  | n + 1, a => if a = m then [[]] else (toL (R a) m (a + 1)).flatMap fun q => (goods R m n q).map fun l => ((q : Int) - a) :: l
section
variable {R : Nat → Nat → Bool} {m : Nat}
theorem goods_fuel : ∀ (n k a : Nat), m - a ≤ n → m - a ≤ k → a ≤ m → goods R m n a = goods R m k a
  | 0, 0, _, _, _, _ => rfl
  | 0, k + 1, a, h1, h2, h3 => by
    obtain rfl : a = m := by omega
    simp [goods]
  | n + 1, 0, a, h1, h2, h3 => by
    obtain rfl : a = m := by omega
    simp [goods]
  | n + 1, k + 1, a, h1, h2, h3 => by
    unfold goods
    split
    · rfl
    · have : ∀ q ∈ toL (R a) m (a + 1), (fun q => (goods R m n q).map fun l => ((q : Int) - a) :: l) q = (fun q => (goods R m k q).map fun l => ((q : Int) - a) :: l) q := fun q hq => by
        obtain ⟨a1, a2, _⟩ := mem_toL.1 hq
        dsimp only
        rw [goods_fuel n k q (by omega) (by omega) a2]
      exact flatMap_congr' this
where
  flatMap_congr' {α β : Type} {l : List α} {f g : α → List β} (h : ∀ x ∈ l, f x = g x) : l.flatMap f = l.flatMap g := by
    induction l with
    | nil => rfl
    | cons x l ih => rw [List.flatMap_cons, List.flatMap_cons, h x (by simp), ih (fun y hy => h y (by simp [hy]))]
/-- The right readings. -/
def goodsL (R : Nat → Nat → Bool) (m a : Nat) : List (List Int) := goods R m 13 a
theorem goodsL_end : goodsL R m m = [[]] := by simp [goodsL, goods]
theorem goodsL_step {a : Nat} (h : a < m) (hm : m ≤ 12) : goodsL R m a = (toL (R a) m (a + 1)).flatMap fun q => (goodsL R m q).map fun l => ((q : Int) - a) :: l := by
  unfold goodsL
  rw [goods_fuel 13 14 a (by omega) (by omega) (by omega), goods, if_neg (by omega)]
theorem mem_goods {n : Nat} : ∀ (a : Nat), m - a ≤ n → a ≤ m → ∀ l, l ∈ goods R m n a ↔ goodB R m a l = true := by
  induction n with
  | zero =>
    intro a h1 h2 l
    obtain rfl : a = m := by omega
    simp only [goods, if_true, List.mem_singleton]
    cases l with
    | nil => simp [goodB]
    | cons x l =>
      simp only [reduceCtorEq, false_iff]
      intro h
      have := (good_cons.1 h).1; omega
  | succ n ih =>
    intro a h1 h2 l
    unfold goods
    split
    · rename_i e; subst e
      simp only [List.mem_singleton]
      cases l with
      | nil => simp [goodB]
      | cons x l =>
        simp only [reduceCtorEq, false_iff]
        intro h
        have := (good_cons.1 h).1; omega
    · rename_i e
      simp only [List.mem_flatMap, List.mem_map]
      constructor
      · rintro ⟨q, hq, l', hl', rfl⟩
        obtain ⟨a1, a2, a3⟩ := mem_toL.1 hq
        exact good_step (by omega) a2 a3 ((ih q (by omega) a2 l').1 hl')
      · intro h
        cases l with
        | nil => exact absurd (good_nil.1 h) e
        | cons x l =>
          obtain ⟨⟨b1, b2⟩, b3, b4⟩ := good_cons.1 h
          refine ⟨a + x.toNat, mem_toL.2 ⟨by omega, b2, b3⟩, l, (ih _ (by omega) b2 l).2 b4, ?_⟩
          congr 1; omega
theorem mem_goodsL {a : Nat} (ha : a ≤ m) (hm : m ≤ 12) {l : List Int} : l ∈ goodsL R m a ↔ goodB R m a l = true := mem_goods a (by omega) ha l
theorem toL_len {R : Nat → Bool} {m k : Nat} : (toL R m k).length ≤ m + 1 - k := by
  unfold toL
  refine Nat.le_trans (List.length_filter_le _ _) ?_
  simp
theorem goodsL_len (hm : m ≤ 12) : ∀ (k a : Nat), a + k = m → (goodsL R m a).length ≤ 2 ^ k := by
  intro k
  induction k using Nat.strongRecOn with
  | ind k ih =>
    intro a h
    by_cases e : k = 0
    · subst e
      obtain rfl : a = m := by omega
      rw [goodsL_end]; simp
    · -- one end after the other
      have key : ∀ (j : Nat), j ≤ k → ((toL (R a) m (m + 1 - j)).flatMap fun q => (goodsL R m q).map fun l => ((q : Int) - a) :: l).length + 1 ≤ 2 ^ j := by
        intro j
        induction j with
        | zero => intro _; rw [toL_end (by omega)]; simp
        | succ j ihj =>
          intro hj
          have h1 := ihj (by omega)
          have h2 := ih j (by omega) (m - j) (by omega)
          rw [show m + 1 - (j + 1) = m - j by omega]
          have e3 : m - j + 1 = m + 1 - j := by omega
          rw [Nat.pow_succ]
          cases hR : R a (m - j)
          · rw [toL_no (by omega) hR, e3]; omega
          · rw [toL_yes (by omega) hR, e3, List.flatMap_cons, List.length_append, List.length_map]; omega
      have := key k (Nat.le_refl _)
      rw [goodsL_step (by omega) hm, show a + 1 = m + 1 - k by omega]
      omega
theorem goodsL_len' (hm : m ≤ 12) {a : Nat} (ha : a ≤ m) : (goodsL R m a).length ≤ 4096 := by
  refine Nat.le_trans (goodsL_len hm (m - a) a (by omega)) ?_
  exact Nat.le_trans (Nat.pow_le_pow_right (by omega) (show m - a ≤ 12 by omega)) (by decide)
end
/-! ### Tables of numbers -/
def look (M : List (Int × Int)) (a : Int) : Int := ((M.find? fun y => Ty.beq (.int .i64) y.1 a).map (·.2)).getD (Ty.dflt (.int .i64))
theorem look_nil (a : Int) : look [] a = 0 := rfl
theorem look_cons (k v : Int) (M : List (Int × Int)) (a : Int) : look ((k, v) :: M) a = if k = a then v else look M a := by
  unfold look
  rw [List.find?_cons]
  by_cases h : k = a
  · rw [if_pos h, show Ty.beq (.int .i64) k a = true from decide_eq_true h]; rfl
  · rw [if_neg h, show Ty.beq (.int .i64) k a = false from decide_eq_false h]
section
variable {N : Nat} (hN : 110 ≤ N) {ws : List Wd} {ts : List Tn} {br_ : Int} (hF : TFine ws ts br_)
/-- The right readings of a text. -/
abbrev goodsT (ws : List Wd) (ts : List Tn) (br_ : Int) (a : Nat) : List (List Int) := goodsL (rightR ws ts br_) ws.length a
include hF
theorem counts_l2_p {f : Nat} (hf : f < ws.length) {u : Int} {u2 : Tx} : ∀ (es : List Nat) (M : List (Int × Int)) (s : Int), (∀ q ∈ es, f < q ∧ q ≤ ws.length) → (∀ q : Nat, f < q → q ≤ ws.length → look M q = (goodsT ws ts br_ q).length) → (∀ q : Nat, q < f → look M q = 0) → look M f = s → 0 ≤ s ∧ s + 4096 * es.length ≤ 1000000 →
    Ok (counts_l2 N (es.map fun (j : Nat) => ((j : Int), ())) (ws, ts, br_) u u2 f M) fun z => z.1 = (ws, ts, br_) ∧ z.2.1 = f ∧ (∀ q : Nat, f < q → q ≤ ws.length → look z.2.2 q = (goodsT ws ts br_ q).length) ∧ (∀ q : Nat, q < f → look z.2.2 q = 0) ∧ look z.2.2 f = s + ((es.flatMap fun q => (goodsT ws ts br_ q).map fun l => ((q : Int) - f) :: l).length : Int)
  | [], M, s, _, h1, h2, h3, _ => Ok.some ⟨rfl, rfl, h1, h2, by simp [h3]⟩
  | q :: es, M, s, he, h1, h2, h3, hs => by
    obtain ⟨a1, a2⟩ := he q (by simp)
    have hlen : (goodsT ws ts br_ q).length ≤ 4096 := goodsL_len' (R := rightR ws ts br_) (m := ws.length) hF.n a2
    have hlk := h1 q a1 a2
    rw [List.map_cons, counts_l2]
    unfold counts_l2_b
    show Ok (chk (look M f + look M q) ((fun from__ out_ => counts_l2 N (es.map fun (j : Nat) => ((j : Int), ())) (ws, ts, br_) u u2 from__ out_) (f : Int) (((f : Int), look M f + look M q) :: M))) _
    rw [List.length_cons] at hs
    rw [chk_eq (by omega)]
    dsimp only
    refine (counts_l2_p hf es _ (s + (goodsT ws ts br_ q).length) (fun p hp => he p (by simp [hp])) (fun p b1 b2 => ?_) (fun p b1 => ?_) ?_ (by omega)).mono ?_
    · rw [look_cons, if_neg (by omega)]; exact h1 p b1 b2
    · rw [look_cons, if_neg (by omega)]; exact h2 p b1
    · rw [look_cons, if_pos rfl]; omega
    · rintro z ⟨c1, c2, c3, c4, c5⟩
      refine ⟨c1, c2, c3, c4, ?_⟩
      rw [c5, List.flatMap_cons, List.length_append, List.length_map]
      omega
theorem breathsR_v {f : Nat} (hf : f ≤ ws.length) : breathsR f (ws, ts, br_) = some ((endsL ws ts br_ f).map fun (j : Nat) => ((j : Int), ())) := by
  have := hF.t
  unfold breathsR
  rw [if_pos ⟨⟨by omega, by simp; omega⟩, hF.okW, by simp; omega⟩]
  simp
theorem counts_l1_p : ∀ (n f : Nat) (M : List (Int × Int)), f < n → f ≤ ws.length → (∀ q : Nat, f ≤ q → q ≤ ws.length → look M q = (goodsT ws ts br_ q).length) → (∀ q : Nat, q < f → look M q = 0) →
    Ok (counts_l1 N n (ws, ts, br_) ((f : Int) - 1) M) fun z => ∀ q : Nat, q ≤ ws.length → look z q = (goodsT ws ts br_ q).length
  | 0, f, M, h, _, _, _ => by omega
  | n + 1, f, M, h, hf, h1, h2 => by
    have := hF.n
    unfold counts_l1
    by_cases c : f = 0
    · subst c
      rw [br_ndec (by omega)]
      exact Ok.some fun q hq => h1 q (by omega) hq
    · obtain ⟨g, rfl⟩ : ∃ g, f = g + 1 := ⟨f - 1, by omega⟩
      rw [br_dec (by omega), show ((g + 1 : Nat) : Int) - 1 = (g : Int) by omega]
      simp only [breaths_S, Option.bind_some]
      rw [breathsR_v hF (by omega)]
      simp only [Option.bind_some]
      have hes : ∀ q ∈ endsL ws ts br_ g, g < q ∧ q ≤ ws.length := fun q hq => by
        obtain ⟨a1, a2, _⟩ := mem_toL.1 hq; omega
      have hel := toL_len (R := rightR ws ts br_ g) (m := ws.length) (k := g + 1)
      refine Ok.bind (counts_l2_p hF (f := g) (by omega) (endsL ws ts br_ g) M 0 hes (fun q a b => h1 q (by omega) b) (fun q a => h2 q (by omega)) (h2 g (by omega)) (by unfold endsL; omega)) ?_
      rintro ⟨d', f', M'⟩ ⟨e1, e2, e3, e4, e5⟩
      dsimp only at e1 e2 e3 e4 e5 ⊢
      rw [e1, e2, chk_eq (by omega)]
      refine counts_l1_p n g M' (by omega) (by omega) (fun q a b => ?_) e4
      by_cases e : q = g
      · subst e
        have est : goodsT ws ts br_ q = _ := goodsL_step (R := rightR ws ts br_) (by omega) hF.n
        rw [e5, est, Int.zero_add]
        rfl
      · exact e3 q (by omega) b
include hN
theorem counts_v : Ok (counts_S N (ws, ts, br_)) fun M => ∀ q : Nat, q ≤ ws.length → look M q = (goodsT ws ts br_ q).length := by
  have := hF.n; have := hF.n0
  unfold counts_S
  simp only [end__S, Option.bind_some]
  rw [chk_eq (by omega)]
  obtain ⟨z, e, hz⟩ := counts_l1_p (N := N) hF N ws.length (((ws.length : Int), 1) :: []) (by omega) (by omega) (fun q a b => by
    obtain rfl : q = ws.length := by omega
    rw [look_cons, if_pos rfl, (show goodsT ws ts br_ ws.length = _ from goodsL_end)]; rfl) (fun q a => by rw [look_cons, if_neg (by omega), look_nil])
  rw [e]
  exact Ok.some hz
end
/-- How many right readings there are. -/
def countR (ws : List Wd) (ts : List Tn) (br_ : Int) : Int × Int := if checkT ws ts br_ ≠ 0 then (0, checkT ws ts br_) else ((goodsT ws ts br_ 0).length, 0)
theorem count_v {N : Nat} (hN : 110 ≤ N) {ws : List Wd} {ts : List Tn} {br_ : Int} (hw : ws.length ≤ 1000000) (ht : ts.length ≤ 1000000) : count_S N ws ts br_ = some (countR ws ts br_) := by
  unfold count_S countR
  rw [opened_v (by omega) hw ht]
  by_cases c : checkT ws ts br_ = 0
  · rw [if_pos c, if_neg (by simpa using c)]
    simp only [Option.bind_some]
    rw [br_nd trivial]
    obtain ⟨M, e, hM⟩ := counts_v hN (tfine_of c)
    rw [e]
    show some (look M 0, (0 : Int)) = _
    rw [show (0 : Int) = ((0 : Nat) : Int) from rfl, hM 0 (by omega)]
  · rw [if_neg c, if_pos c]
    simp only [Option.bind_some]
    rw [br_nnd c]
end Go.Proofs.Ytfamlpbdhhikdaa

namespace Go.Proofs.Ytfamlpbdhhikdaa
set_option linter.all false
open Go

section
variable {R : Nat → Nat → Bool} {m : Nat}
theorem good_le : ∀ {l : List Int} {a : Nat}, goodB R m a l = true → a ≤ m
  | [], a, h => by have := good_nil.1 h; omega
  | x :: l, a, h => by have := (good_cons.1 h).1; omega
theorem good_last {k : Nat} : ∀ {l : List Int} {a : Nat}, goodB R k a l = true → l ≠ [] → ∃ p, p < k ∧ (∃ l1, goodB R p a l1 = true) ∧ R p k = true
  | [], a, h, hn => absurd rfl hn
  | x :: l, a, h, _ => by
    obtain ⟨⟨b1, b2⟩, b3, b4⟩ := good_cons.1 h
    by_cases e : l = []
    · subst e
      have := good_nil.1 b4
      exact ⟨a, by omega, ⟨[], by simp [goodB]⟩, by rw [← this]; exact b3⟩
    · obtain ⟨p, c1, ⟨l1, c2⟩, c3⟩ := good_last b4 e
      exact ⟨p, c1, ⟨x :: l1, good_cons.2 ⟨⟨b1, good_le c2⟩, b3, c2⟩⟩, c3⟩
theorem good_app {p : Nat} : ∀ {l1 : List Int} {a : Nat} {l2 : List Int}, goodB R p a l1 = true → goodB R m p l2 = true → goodB R m a (l1 ++ l2) = true
  | [], a, l2, h1, h2 => by obtain rfl := good_nil.1 h1; exact h2
  | x :: l1, a, l2, h1, h2 => by
    obtain ⟨⟨b1, b2⟩, b3, b4⟩ := good_cons.1 h1
    have := good_le h2
    exact good_cons.2 ⟨⟨b1, by omega⟩, b3, good_app b4 h2⟩
/-- A place that is met, and from which a reading goes on. -/
def metB (R : Nat → Nat → Bool) (p : Nat) : Bool := !(goodsL R p 0).isEmpty
def finB (R : Nat → Nat → Bool) (m p : Nat) : Bool := !(goodsL R m p).isEmpty
theorem ne_iff {α : Type} {l : List α} : (!l.isEmpty) = true ↔ ∃ x, x ∈ l := by
  cases l with
  | nil => simp
  | cons a l => simp
theorem metB_iff {p : Nat} (hp : p ≤ 12) : metB R p = true ↔ ∃ l, goodB R p 0 l = true := by
  unfold metB
  rw [ne_iff]
  exact ⟨fun ⟨l, h⟩ => ⟨l, (mem_goodsL (by omega) hp).1 h⟩, fun ⟨l, h⟩ => ⟨l, (mem_goodsL (by omega) hp).2 h⟩⟩
theorem finB_iff {p : Nat} (hp : p ≤ m) (hm : m ≤ 12) : finB R m p = true ↔ ∃ l, goodB R m p l = true := by
  unfold finB
  rw [ne_iff]
  exact ⟨fun ⟨l, h⟩ => ⟨l, (mem_goodsL hp hm).1 h⟩, fun ⟨l, h⟩ => ⟨l, (mem_goodsL hp hm).2 h⟩⟩
def brkB (R : Nat → Nat → Bool) (m p : Nat) : Bool := metB R p && finB R m p
/-- At which places readings were found to break so far. -/
def MetSo (R : Nat → Nat → Bool) (m k : Nat) (M : List Bool) : Prop := M.length = 13 ∧ ∀ q, q ≤ m → (M.getD q false = true ↔ q = 0 ∨ ∃ p, p < k ∧ p < q ∧ brkB R m p = true ∧ R p q = true)
theorem MetSo.here {k : Nat} {M : List Bool} (h : MetSo R m k M) (hk : k ≤ m) (hm : m ≤ 12) (hf : finB R m k = true) : M.getD k false = metB R k := by
  rw [Bool.eq_iff_iff, h.2 k hk, metB_iff (by omega)]
  constructor
  · rintro (rfl | ⟨p, h1, h2, h3, h4⟩)
    · exact ⟨[], by simp [goodB]⟩
    · simp only [brkB, Bool.and_eq_true] at h3
      obtain ⟨l, hl⟩ := (metB_iff (by omega)).1 h3.1
      exact ⟨l ++ [((k : Int) - p)], good_app hl (good_step h1 (Nat.le_refl _) h4 (by simp [goodB]))⟩
  · rintro ⟨l, hl⟩
    by_cases e : l = []
    · subst e; exact .inl (good_nil.1 hl).symm
    · obtain ⟨p, c1, c2, c3⟩ := good_last hl e
      refine .inr ⟨p, c1, c1, ?_, c3⟩
      simp only [brkB, Bool.and_eq_true]
      obtain ⟨l2, hl2⟩ := (finB_iff hk hm).1 hf
      exact ⟨(metB_iff (by omega)).2 c2, (finB_iff (by omega) hm).2 ⟨_, good_step c1 hk c3 hl2⟩⟩
theorem MetSo.skip {k : Nat} {M : List Bool} (h : MetSo R m k M) (hb : brkB R m k = false) : MetSo R m (k + 1) M := by
  refine ⟨h.1, fun q hq => (h.2 q hq).trans ?_⟩
  constructor
  · rintro (h1 | ⟨p, h1, h2⟩)
    · exact .inl h1
    · exact .inr ⟨p, by omega, h2⟩
  · rintro (h1 | ⟨p, h1, h2, h3, h4⟩)
    · exact .inl h1
    · by_cases e : p = k
      · subst e; rw [hb] at h3; cases h3
      · exact .inr ⟨p, by omega, h2, h3, h4⟩
/-- The places at which no right reading breaks. -/
def nvK (R : Nat → Nat → Bool) (m k : Nat) : List Int := ((List.range k).filter fun p => !brkB R m p).map fun (p : Nat) => (p : Int)
theorem nvK_len (R : Nat → Nat → Bool) (m k : Nat) : (nvK R m k).length ≤ k := by
  have := List.length_filter_le (fun p => !brkB R m p) (List.range k)
  simp only [nvK, List.length_map]
  simpa using this
theorem nvK_succ (R : Nat → Nat → Bool) (m k : Nat) : nvK R m (k + 1) = nvK R m k ++ (if brkB R m k = true then [] else [(k : Int)]) := by
  simp only [nvK, List.range_succ, List.filter_append, List.map_append]
  congr 1
  rw [List.filter_cons]
  cases brkB R m k <;> rfl
end
section
variable {N : Nat} (hN : 110 ≤ N) {ws : List Wd} {ts : List Tn} {br_ : Int} (hF : TFine ws ts br_)
include hF
theorem never_l2_p {u u2 u3 u4 : Int} {d u5 : Tx} {on : List (Int × Int)} {O : List Int} : ∀ (es : List Nat) (M : List Bool), M.length = 13 → (∀ q ∈ es, q ≤ ws.length) →
    ∃ M', never_l2 N (es.map fun (j : Nat) => ((j : Int), ())) u d u2 u3 u4 u5 on M O = some (u, d, u2, u3, on, M', O) ∧ M'.length = 13 ∧ ∀ q, M'.getD q false = (M.getD q false || decide (q ∈ es))
  | [], M, hM, _ => ⟨M, rfl, hM, fun q => by simp⟩
  | e :: es, M, hM, he => by
    have := hF.n
    have h1 := he e (by simp)
    obtain ⟨M', e1, e2, e3⟩ := never_l2_p es (M.set e true) (by simpa using hM) (fun q hq => he q (by simp [hq]))
    refine ⟨M', ?_, e2, fun q => ?_⟩
    · rw [List.map_cons, never_l2]
      unfold never_l2_b
      rw [rng_eq (by omega), get_get false (by omega)]
      exact e1
    · rw [e3 q, getD_set' (by omega)]
      by_cases h : e = q
      · subst h; simp
      · rw [if_neg h]
        simp [show ¬ q = e from fun h2 => h h2.symm]
theorem never_l1_p {on : List (Int × Int)} (hon : ∀ q : Nat, q ≤ ws.length → look on q = (goodsT ws ts br_ q).length) {u : Int} : ∀ (n k : Nat) (M : List Bool), ws.length < n + k → k ≤ ws.length → MetSo (rightR ws ts br_) ws.length k M →
    never_l1 N n u (ws, ts, br_) ws.length k on M (nvK (rightR ws ts br_) ws.length k) = some (nvK (rightR ws ts br_) ws.length ws.length)
  | 0, k, M, h, _, _ => by omega
  | n + 1, k, M, h, hk, hM => by
    have hn := hF.n
    by_cases c : k < ws.length
    rotate_left
    · obtain rfl : k = ws.length := by omega
      rw [never_l1, br_ndec (by omega)]
    have hl := nvK_len (rightR ws ts br_) ws.length k
    have ih := never_l1_p hon (u := u) n (k + 1)
    rw [nvK_succ] at ih
    have hM0 := hM.1
    have hj : ∀ M O, never_j1 N (never_l1 N n) u (ws, ts, br_) ws.length k on M O = never_l1 N n u (ws, ts, br_) ws.length ((k + 1 : Nat) : Int) on M O := fun M O => by
      unfold never_j1
      rw [chk_eq (by omega)]; rfl
    have hlk := hon k hk
    rw [never_l1, br_dec (by omega), rng_eq (by omega), get_get false (by omega)]
    simp only [Int.toNat_natCast, hj]
    have put : brkB (rightR ws ts br_) ws.length k = false → (lim ((nvK (rightR ws ts br_) ws.length k).length + [(k : Int)].length) <| never_l1 N n u (ws, ts, br_) ws.length ((k + 1 : Nat) : Int) on M (nvK (rightR ws ts br_) ws.length k ++ [(k : Int)])) = some (nvK (rightR ws ts br_) ws.length ws.length) := fun hb => by
      rw [lim_eq (by simp; omega)]
      have := ih M (by omega) (by omega) (hM.skip hb)
      rw [hb] at this
      exact this
    have hfin : finB (rightR ws ts br_) ws.length k = !decide (look on k = 0) := by
      rw [hlk]
      unfold finB goodsT
      cases goodsL (rightR ws ts br_) ws.length k with
      | nil => rfl
      | cons a l => simp; omega
    cases hmet : M.getD k false
    · rw [Bool.not_false, br_true]
      refine put ?_
      cases hf : finB (rightR ws ts br_) ws.length k
      · simp [brkB, hf]
      · have := hM.here hk hn hf
        rw [hmet] at this
        simp [brkB, ← this]
    · rw [Bool.not_true, br_false]
      show br (decide (look on k = 0)) _ _ = _
      by_cases e : look on k = 0
      · rw [br_dec e]
        refine put ?_
        rw [decide_eq_true e] at hfin
        simp [brkB, hfin]
      · rw [br_ndec e]
        rw [decide_eq_false e] at hfin
        have hb : brkB (rightR ws ts br_) ws.length k = true := by
          have := hM.here hk hn hfin
          rw [hmet] at this
          simp [brkB, hfin, ← this]
        simp only [breaths_S, Option.bind_some]
        rw [breathsR_v hF hk]
        simp only [Option.bind_some]
        obtain ⟨M', e1, e2, e3⟩ := never_l2_p (N := N) hF (u := u) (u2 := (ws.length : Int)) (u3 := (k : Int)) (u4 := (k : Int)) (d := (ws, ts, br_)) (u5 := (ws, ts, br_)) (on := on) (O := nvK (rightR ws ts br_) ws.length k) (endsL ws ts br_ k) M hM0 (fun q hq => (mem_toL.1 hq).2.1)
        rw [e1]
        simp only [Option.bind_some, hj]
        have := ih M' (by omega) (by omega) ⟨e2, fun q hq => ?_⟩
        · rw [hb] at this
          simpa using this
        · rw [e3 q]
          simp only [Bool.or_eq_true, decide_eq_true_eq, hM.2 q hq]
          unfold endsL
          rw [mem_toL]
          constructor
          · rintro ((h1 | ⟨p, h1, h2⟩) | ⟨h1, h2, h3⟩)
            · exact .inl h1
            · exact .inr ⟨p, by omega, h2⟩
            · exact .inr ⟨k, by omega, by omega, hb, h3⟩
          · rintro (h1 | ⟨p, h1, h2, h3, h4⟩)
            · exact .inl (.inl h1)
            · by_cases e5 : p = k
              · subst e5; exact .inr ⟨by omega, hq, h4⟩
              · exact .inl (.inr ⟨p, by omega, h2, h3, h4⟩)
end
/-- The places at which no right reading breaks, or the error. -/
def neverR (ws : List Wd) (ts : List Tn) (br_ : Int) : List Int × Int :=
  if checkT ws ts br_ ≠ 0 then ([], checkT ws ts br_) else if goodsT ws ts br_ 0 = [] then ([], 6) else (nvK (rightR ws ts br_) ws.length ws.length, 0)
theorem never_v {N : Nat} (hN : 110 ≤ N) {ws : List Wd} {ts : List Tn} {br_ : Int} (hw : ws.length ≤ 1000000) (ht : ts.length ≤ 1000000) : never_S N ws ts br_ = some (neverR ws ts br_) := by
  unfold never_S neverR
  rw [opened_v (by omega) hw ht]
  by_cases c : checkT ws ts br_ = 0
  · have hF := tfine_of c
    have hn := hF.n; have hn0 := hF.n0
    rw [if_pos c, if_neg (by simpa using c)]
    simp only [Option.bind_some]
    rw [br_nd trivial]
    obtain ⟨M, e, hM⟩ := counts_v hN hF
    rw [e]
    simp only [Option.bind_some]
    show br (decide (look M 0 = 0)) _ _ = _
    have h0 := hM 0 (by omega)
    by_cases d : goodsT ws ts br_ 0 = []
    · rw [if_pos d, br_dec (by rw [show (0 : Int) = ((0 : Nat) : Int) from rfl, h0, d]; rfl)]
    · have : 0 < (goodsT ws ts br_ 0).length := List.length_pos_iff.2 d
      rw [if_neg d, br_ndec (by rw [show (0 : Int) = ((0 : Nat) : Int) from rfl, h0]; omega), get_get false (by simp)]
      simp only [end__S, Option.bind_some]
      have e1 := never_l1_p (N := N) hF hM (u := 0) N 0 ((List.replicate 13 false).set 0 true) (by omega) (by omega) ⟨by simp, fun q hq => ?_⟩
      · have e2 : nvK (rightR ws ts br_) ws.length 0 = [] := rfl
        rw [e2] at e1
        simp only [Int.natCast_zero] at e1
        rw [e1]; rfl
      · rw [getD_set' (by simp)]
        by_cases e : 0 = q
        · rw [if_pos e]; simp [e.symm]
        · rw [if_neg e]
          have : (List.replicate 13 false).getD q false = false := by
            simp only [List.getD, List.getElem?_replicate]
            split <;> rfl
          rw [this]
          simp
          omega
  · rw [if_neg c, if_pos c]
    simp only [Option.bind_some]
    rw [br_nnd c]
end Go.Proofs.Ytfamlpbdhhikdaa

namespace Go.Proofs.Ytfamlpbdhhikdaa
set_option linter.all false
open Go

def made_l1 (N : Nat) : Nat → Int → Int → Int → (List Int) → Int → Int → Int → Int → (List (Int × (Int × Bool))) → Option (Int × List Int × Int × Int × Int × Int × (List (Int × (Int × Bool))))
  | 0, _, _, _, _, _, _, _, _, _ => none
  | n_ + 1, turns, u, u2, b, b2, b3, g, t, t2 =>
    br (decide (u2 < u))
      ((strike_S N 1 4 b b2 b3).bind fun (x_9, y_10, y_11, y_12) =>
      (stroke_S N 9 y_10 y_11 y_12).bind fun (x_13, y_14, y_15, y_16) =>
      (seldom_S N 3 y_14 y_15 y_16).bind fun (x_17, y_18, y_19, y_20) =>
      lim (t2.length + [(x_9, x_13, (!x_17))].length) <|
      chk (u2 + 1) <|
      made_l1 N n_ turns u (u2 + 1) y_18 y_19 y_20 g t (t2 ++ [(x_9, x_13, (!x_17))]))
      (some ((turns, b, b2, b3, g, t, t2)))
def made_j1 (N : Nat) (rec : Int → Int → (List Int) → Int → Int → Int → Int → (List (Int × (Int × Bool))) → (List (Int × (Int × Int))) → Option (List Int × Int × Int × Int × Int × (List (Int × (Int × Bool))) × (List (Int × (Int × Int))))) (u : Int) (u2 : Int) (b : List Int) (b2 : Int) (b3 : Int) (g : Int) (t : Int) (t2 : List (Int × (Int × Bool))) (t3 : List (Int × (Int × Int))) : Option (List Int × Int × Int × Int × Int × (List (Int × (Int × Bool))) × (List (Int × (Int × Int)))) :=
  chk (u2 + 1) <|
  rec u (u2 + 1) b b2 b3 g t t2 t3
def made_l2 (N : Nat) : Nat → Int → Int → (List Int) → Int → Int → Int → Int → (List (Int × (Int × Bool))) → (List (Int × (Int × Int))) → Option (List Int × Int × Int × Int × Int × (List (Int × (Int × Bool))) × (List (Int × (Int × Int))))
  | 0, _, _, _, _, _, _, _, _, _ => none
  | n_ + 1, u, u2, b, b2, b3, g, t, t2, t3 =>
    br (decide (u2 < u))
      (br (decide ((t2.length : Int) < 2))
        (some ((b, b2, b3, g, t, t2, t3)))
        (chk ((t2.length : Int) - 1) <|
        (stroke_S N ((t2.length : Int) - 1) b b2 b3).bind fun (x_32, y_33, y_34, y_35) =>
        chk ((t2.length : Int) - 1) <|
        (stroke_S N 2 y_33 y_34 y_35).bind fun (x_36, y_37, y_38, y_39) =>
        chk (x_32 + x_36) <|
        chk ((t2.length : Int) - 1) <|
        (stroke_S N ((t2.length : Int) - 1) y_37 y_38 y_39).bind fun (x_40, y_41, y_42, y_43) =>
        br (decide (x_40 < x_32))
          (lim (t3.length + [(x_40, x_32, (min ((t2.length : Int) - 1) (x_32 + x_36)))].length) <|
          made_j1 N (made_l2 N n_) u u2 y_41 y_42 y_43 g t t2 (t3 ++ [(x_40, x_32, (min ((t2.length : Int) - 1) (x_32 + x_36)))]))
          (br (decide ((min ((t2.length : Int) - 1) (x_32 + x_36)) < x_40))
            (lim (t3.length + [(x_40, x_32, (min ((t2.length : Int) - 1) (x_32 + x_36)))].length) <|
            made_j1 N (made_l2 N n_) u u2 y_41 y_42 y_43 g t t2 (t3 ++ [(x_40, x_32, (min ((t2.length : Int) - 1) (x_32 + x_36)))]))
            (made_j1 N (made_l2 N n_) u u2 y_41 y_42 y_43 g t t2 t3))))
      (some ((b, b2, b3, g, t, t2, t3)))
def made_S (N : Nat) (words : Int) (turns : Int) (b : List Int) (b2 : Int) (b3 : Int) : Option ((List (Int × (Int × Bool))) × (List (Int × (Int × Int))) × Int × List Int × Int × Int) :=
  (strike_S N 3 14 b b2 b3).bind fun (x_1, y_2, y_3, y_4) =>
  (strike_S N 1 words y_2 y_3 y_4).bind fun (x_5, y_6, y_7, y_8) =>
  (made_l1 N N turns x_5 0 y_6 y_7 y_8 0 x_1 []).bind fun (turns_21, b_22, b2_23, b3_24, g_25, t_26, t2_27) =>
  (stroke_S N turns_21 b_22 b2_23 b3_24).bind fun (x_28, y_29, y_30, y_31) =>
  (made_l2 N N x_28 0 y_29 y_30 y_31 g_25 t_26 t2_27 []).bind fun (g_44, g2_45, g3_46, g4_47, t_48, t2_49, t3_50) =>
  some (t2_49, t3_50, t_48, g_44, g2_45, g3_46)
noncomputable def made_sp (N : Nat) : List Spec := [sp_stroke N, sp_strike N, sp_seldom N]
theorem made_all (N : Nat) : AllP (SpecOK Try.prog) (made_sp N) := ⟨sp_stroke_ok N, sp_strike_ok N, sp_seldom_ok N, trivial⟩
noncomputable def made_c : Code := (Try.f36.body).getD .skip
noncomputable abbrev made_B : Body := { c := made_c, n := 83, res := [.cell 6 25], outs := [⟨[.agg [.sl (.pair (.int .i64) (.pair (.int .i64) .bool)), .sl (.pair (.int .i64) (.pair (.int .i64) (.int .i64))), .i .i64]], [.segs [.sl (.int .u8), .i .i64, .i .u32]]⟩], m0 := 1 }
abbrev made_rt : altD made_B.outs → Option ((List (Int × (Int × Bool))) × (List (Int × (Int × Int))) × Int × List Int × Int × Int) := fun r => some (r.1.1.1, r.1.1.2.1, r.1.1.2.2.1, r.2.1.1, r.2.1.2.1, r.2.1.2.2.1)
abbrev made_l1_at : List PI := [.c [1, 1, 0, 1, 0, 0, 0], .c [1, 1, 0, 1, 0, 0, 1], .l [1, 1, 0, 1, 0, 0], .b 0, .c [1, 1, 1]]
abbrev made_l1_st : Sta := ⟨[0, 2, 6, 7, 16, 17], ⟨[.own 0 0, .i .i64, .own 1 0, .own 2 0, .i .i64, .i .i64], [.segs [.sl (.int .u8), .i .i64, .i .u32], .segs [.nils, .nils, .i .i64], .segs [.ols 3, .nils, .i .i64], .lst (.pair (.int .i64) (.pair (.int .i64) .bool))]⟩⟩
abbrev made_l1_h (rec : Int → Int → Int → (List Int) → Int → Int → Int → Int → (List (Int × (Int × Bool))) → Option (Int × List Int × Int × Int × Int × Int × (List (Int × (Int × Bool))))) : Leaf (Int × List Int × Int × Int × Int × Int × (List (Int × (Int × Bool)))) := ⟨made_l1_at, made_l1_st, fun p => rec p.1.2.1 p.1.2.2.2.2.1 p.1.2.2.2.2.2.1 p.2.1.1 p.2.1.2.1 p.2.1.2.2.1 p.2.2.1.2.2.1 p.2.2.2.1.2.2.1 p.2.2.2.2.1⟩
abbrev made_l1_e0 : Leaf (Int × List Int × Int × Int × Int × Int × (List (Int × (Int × Bool)))) := ⟨[.c [1, 1, 1, 0, 0], .c [1, 1, 1, 0, 1], .c [1, 1, 1, 1]], ⟨[0, 2, 6, 7], ⟨[.own 0 0, .i .i64, .own 1 0, .own 2 0], [.segs [.sl (.int .u8), .i .i64, .i .u32], .segs [.nils, .nils, .i .i64], .segs [.ols 3, .nils, .i .i64], .lst (.pair (.int .i64) (.pair (.int .i64) .bool))]⟩⟩, fun p => some ((p.1.2.1, p.2.1.1, p.2.1.2.1, p.2.1.2.2.1, p.2.2.1.2.2.1, p.2.2.2.1.2.2.1, p.2.2.2.2.1))⟩
noncomputable def made_l1_L (N : Nat) : LoopS := { at_ := made_l1_at, sta := made_l1_st, exits := [([.c [1, 1, 1, 0, 0], .c [1, 1, 1, 0, 1], .c [1, 1, 1, 1]], ⟨[0, 2, 6, 7], ⟨[.own 0 0, .i .i64, .own 1 0, .own 2 0], [.segs [.sl (.int .u8), .i .i64, .i .u32], .segs [.nils, .nils, .i .i64], .segs [.ols 3, .nils, .i .i64], .lst (.pair (.int .i64) (.pair (.int .i64) .bool))]⟩⟩)], run := fun p k => (made_l1 N N p.1.2.1 p.1.2.2.2.2.1 p.1.2.2.2.2.2.1 p.2.1.1 p.2.1.2.1 p.2.1.2.2.1 p.2.2.1.2.2.1 p.2.2.2.1.2.2.1 p.2.2.2.2.1).bind fun e => k (.inl (((), e.1, (), (), ()), ((e.2.1, e.2.2.1, e.2.2.2.1, ()), ((), (), e.2.2.2.2.1, ()), ((), (), e.2.2.2.2.2.1, ()), e.2.2.2.2.2.2, ()))) }
theorem made_l1_eq (N n_ : Nat) (turns : Int) (u : Int) (u2 : Int) (b : List Int) (b2 : Int) (b3 : Int) (g : Int) (t : Int) (t2 : List (Int × (Int × Bool))) : ev (Z := Int × List Int × Int × Int × Int × Int × (List (Int × (Int × Bool)))) Try.prog (made_sp N) made_B [] [made_l1_h (made_l1 N n_), made_l1_e0] none 400 true made_l1_at (stL made_l1_st (((), turns, (), (), u, u2, ()), ((b, b2, b3, ()), ((), (), g, ()), ((), (), t, ()), t2, ()))) (stH made_l1_st (((), turns, (), (), u, u2, ()), ((b, b2, b3, ()), ((), (), g, ()), ((), (), t, ()), t2, ()))) = made_l1 N (n_ + 1) turns u u2 b b2 b3 g t t2 := by kernel_rfl
theorem made_l1_ok (N : Nat) {top : Bool} : LoopOK Try.prog made_B.c made_B.n made_B.m0 top (made_l1_L N) := loop_of_ev (Z := Int × List Int × Int × Int × Int × Int × (List (Int × (Int × Bool)))) (N := N) (fun m p => made_l1 N m p.1.2.1 p.1.2.2.2.2.1 p.1.2.2.2.2.2.1 p.2.1.1 p.2.1.2.1 p.2.1.2.2.1 p.2.2.1.2.2.1 p.2.2.2.1.2.2.1 p.2.2.2.2.1) (fun e => .inl (((), e.1, (), (), ()), ((e.2.1, e.2.2.1, e.2.2.2.1, ()), ((), (), e.2.2.2.2.1, ()), ((), (), e.2.2.2.2.2.1, ()), e.2.2.2.2.2.2, ()))) (fun _ _ _ => rfl) (fun _ => rfl) (fun m z E Xc hE hX hrec hx => leaf_of_ev (B := made_B) (loops := []) (leaves := [made_l1_h (made_l1 N m), made_l1_e0]) (made_all N) mixed trivial hE hX ⟨hrec, (fun p hp => by obtain rfl := Option.some.inj hp; exact hx), trivial⟩ RetOK.no (fun p => made_l1_eq N m p.1.2.1 p.1.2.2.2.2.1 p.1.2.2.2.2.2.1 p.2.1.1 p.2.1.2.1 p.2.1.2.2.1 p.2.2.1.2.2.1 p.2.2.2.1.2.2.1 p.2.2.2.2.1))
abbrev made_l2_at : List PI := [.c [1, 1, 1, 0, 1, 0, 0, 0], .c [1, 1, 1, 0, 1, 0, 0, 1], .l [1, 1, 1, 0, 1, 0, 0], .b 2, .c [1, 1, 1, 1]]
abbrev made_l2_st : Sta := ⟨[0, 6, 7, 35, 36], ⟨[.own 0 0, .own 1 0, .own 2 0, .i .i64, .i .i64], [.segs [.sl (.int .u8), .i .i64, .i .u32], .segs [.nils, .nils, .i .i64], .segs [.ols 3, .ols 4, .i .i64], .lst (.pair (.int .i64) (.pair (.int .i64) .bool)), .lst (.pair (.int .i64) (.pair (.int .i64) (.int .i64)))]⟩⟩
abbrev made_l2_h (rec : Int → Int → (List Int) → Int → Int → Int → Int → (List (Int × (Int × Bool))) → (List (Int × (Int × Int))) → Option (List Int × Int × Int × Int × Int × (List (Int × (Int × Bool))) × (List (Int × (Int × Int))))) : Leaf (List Int × Int × Int × Int × Int × (List (Int × (Int × Bool))) × (List (Int × (Int × Int)))) := ⟨made_l2_at, made_l2_st, fun p => rec p.1.2.2.2.1 p.1.2.2.2.2.1 p.2.1.1 p.2.1.2.1 p.2.1.2.2.1 p.2.2.1.2.2.1 p.2.2.2.1.2.2.1 p.2.2.2.2.1 p.2.2.2.2.2.1⟩
abbrev made_l2_e0 : Leaf (List Int × Int × Int × Int × Int × (List (Int × (Int × Bool))) × (List (Int × (Int × Int)))) := ⟨[.c [1, 1, 1, 1, 0], .c [1, 1, 1, 1, 1]], ⟨[6, 7], ⟨[.own 1 0, .own 2 0], [.segs [.sl (.int .u8), .i .i64, .i .u32], .segs [.nils, .nils, .i .i64], .segs [.ols 3, .ols 4, .i .i64], .lst (.pair (.int .i64) (.pair (.int .i64) .bool)), .lst (.pair (.int .i64) (.pair (.int .i64) (.int .i64)))]⟩⟩, fun p => some ((p.2.1.1, p.2.1.2.1, p.2.1.2.2.1, p.2.2.1.2.2.1, p.2.2.2.1.2.2.1, p.2.2.2.2.1, p.2.2.2.2.2.1))⟩
abbrev made_j1_at : List PI := [.c [1, 1, 1, 0, 1, 0, 0, 1, 1, 1], .l [1, 1, 1, 0, 1, 0, 0], .b 2, .c [1, 1, 1, 1]]
abbrev made_j1_st : Sta := ⟨[0, 6, 7, 35, 36], ⟨[.own 0 0, .own 1 0, .own 2 0, .i .i64, .i .i64], [.segs [.sl (.int .u8), .i .i64, .i .u32], .segs [.nils, .nils, .i .i64], .segs [.ols 3, .ols 4, .i .i64], .lst (.pair (.int .i64) (.pair (.int .i64) .bool)), .lst (.pair (.int .i64) (.pair (.int .i64) (.int .i64)))]⟩⟩
abbrev made_j1_k (N : Nat) (rec : Int → Int → (List Int) → Int → Int → Int → Int → (List (Int × (Int × Bool))) → (List (Int × (Int × Int))) → Option (List Int × Int × Int × Int × Int × (List (Int × (Int × Bool))) × (List (Int × (Int × Int))))) : Leaf (List Int × Int × Int × Int × Int × (List (Int × (Int × Bool))) × (List (Int × (Int × Int)))) := ⟨made_j1_at, made_j1_st, fun p => made_j1 N rec p.1.2.2.2.1 p.1.2.2.2.2.1 p.2.1.1 p.2.1.2.1 p.2.1.2.2.1 p.2.2.1.2.2.1 p.2.2.2.1.2.2.1 p.2.2.2.2.1 p.2.2.2.2.2.1⟩
theorem made_j1_eq (N : Nat) (rec : Int → Int → (List Int) → Int → Int → Int → Int → (List (Int × (Int × Bool))) → (List (Int × (Int × Int))) → Option (List Int × Int × Int × Int × Int × (List (Int × (Int × Bool))) × (List (Int × (Int × Int))))) (u : Int) (u2 : Int) (b : List Int) (b2 : Int) (b3 : Int) (g : Int) (t : Int) (t2 : List (Int × (Int × Bool))) (t3 : List (Int × (Int × Int))) : ev (Z := List Int × Int × Int × Int × Int × (List (Int × (Int × Bool))) × (List (Int × (Int × Int)))) Try.prog (made_sp N) made_B [made_l1_L N] [made_l2_h rec, made_l2_e0] none 400 true made_j1_at (stL made_j1_st (((), (), (), u, u2, ()), ((b, b2, b3, ()), ((), (), g, ()), ((), (), t, ()), t2, t3, ()))) (stH made_j1_st (((), (), (), u, u2, ()), ((b, b2, b3, ()), ((), (), g, ()), ((), (), t, ()), t2, t3, ()))) = made_j1 N rec u u2 b b2 b3 g t t2 t3 := by kernel_rfl
theorem made_j1_lf (N : Nat) (rec : Int → Int → (List Int) → Int → Int → Int → Int → (List (Int × (Int × Bool))) → (List (Int × (Int × Int))) → Option (List Int × Int × Int × Int × Int × (List (Int × (Int × Bool))) × (List (Int × (Int × Int))))) {z : List Int × Int × Int × Int × Int × (List (Int × (Int × Bool))) × (List (Int × (Int × Int)))} {top : Bool} {E : EE} {Xc : Ctx} (hE : EOK made_B.m0 E) (hX : CxOK top Xc) (hrec : LeafOK Try.prog made_B.c made_B.n made_B.m0 E Xc z (made_l2_h rec)) (h0 : LeafOK Try.prog made_B.c made_B.n made_B.m0 E Xc z made_l2_e0) : LeafOK Try.prog made_B.c made_B.n made_B.m0 E Xc z (made_j1_k N rec) := leaf_of_ev (B := made_B) (loops := [made_l1_L N]) (leaves := [made_l2_h rec, made_l2_e0]) (made_all N) mixed ⟨made_l1_ok N, trivial⟩ hE hX ⟨hrec, h0, trivial⟩ RetOK.no (fun p => made_j1_eq N rec p.1.2.2.2.1 p.1.2.2.2.2.1 p.2.1.1 p.2.1.2.1 p.2.1.2.2.1 p.2.2.1.2.2.1 p.2.2.2.1.2.2.1 p.2.2.2.2.1 p.2.2.2.2.2.1)
noncomputable def made_l2_L (N : Nat) : LoopS := { at_ := made_l2_at, sta := made_l2_st, exits := [([.c [1, 1, 1, 1, 0], .c [1, 1, 1, 1, 1]], ⟨[6, 7], ⟨[.own 1 0, .own 2 0], [.segs [.sl (.int .u8), .i .i64, .i .u32], .segs [.nils, .nils, .i .i64], .segs [.ols 3, .ols 4, .i .i64], .lst (.pair (.int .i64) (.pair (.int .i64) .bool)), .lst (.pair (.int .i64) (.pair (.int .i64) (.int .i64)))]⟩⟩)], run := fun p k => (made_l2 N N p.1.2.2.2.1 p.1.2.2.2.2.1 p.2.1.1 p.2.1.2.1 p.2.1.2.2.1 p.2.2.1.2.2.1 p.2.2.2.1.2.2.1 p.2.2.2.2.1 p.2.2.2.2.2.1).bind fun e => k (.inl (((), (), ()), ((e.1, e.2.1, e.2.2.1, ()), ((), (), e.2.2.2.1, ()), ((), (), e.2.2.2.2.1, ()), e.2.2.2.2.2.1, e.2.2.2.2.2.2, ()))) }
theorem made_l2_eq (N n_ : Nat) (u : Int) (u2 : Int) (b : List Int) (b2 : Int) (b3 : Int) (g : Int) (t : Int) (t2 : List (Int × (Int × Bool))) (t3 : List (Int × (Int × Int))) : ev (Z := List Int × Int × Int × Int × Int × (List (Int × (Int × Bool))) × (List (Int × (Int × Int)))) Try.prog (made_sp N) made_B [made_l1_L N] [made_l2_h (made_l2 N n_), made_l2_e0, made_j1_k N (made_l2 N n_)] none 400 true made_l2_at (stL made_l2_st (((), (), (), u, u2, ()), ((b, b2, b3, ()), ((), (), g, ()), ((), (), t, ()), t2, t3, ()))) (stH made_l2_st (((), (), (), u, u2, ()), ((b, b2, b3, ()), ((), (), g, ()), ((), (), t, ()), t2, t3, ()))) = made_l2 N (n_ + 1) u u2 b b2 b3 g t t2 t3 := by kernel_rfl
theorem made_l2_ok (N : Nat) {top : Bool} : LoopOK Try.prog made_B.c made_B.n made_B.m0 top (made_l2_L N) := loop_of_ev (Z := List Int × Int × Int × Int × Int × (List (Int × (Int × Bool))) × (List (Int × (Int × Int)))) (N := N) (fun m p => made_l2 N m p.1.2.2.2.1 p.1.2.2.2.2.1 p.2.1.1 p.2.1.2.1 p.2.1.2.2.1 p.2.2.1.2.2.1 p.2.2.2.1.2.2.1 p.2.2.2.2.1 p.2.2.2.2.2.1) (fun e => .inl (((), (), ()), ((e.1, e.2.1, e.2.2.1, ()), ((), (), e.2.2.2.1, ()), ((), (), e.2.2.2.2.1, ()), e.2.2.2.2.2.1, e.2.2.2.2.2.2, ()))) (fun _ _ _ => rfl) (fun _ => rfl) (fun m z E Xc hE hX hrec hx => leaf_of_ev (B := made_B) (loops := [made_l1_L N]) (leaves := [made_l2_h (made_l2 N m), made_l2_e0, made_j1_k N (made_l2 N m)]) (made_all N) mixed ⟨made_l1_ok N, trivial⟩ hE hX ⟨hrec, (fun p hp => by obtain rfl := Option.some.inj hp; exact hx), made_j1_lf N _ hE hX hrec (fun p hp => by obtain rfl := Option.some.inj hp; exact hx), trivial⟩ RetOK.no (fun p => made_l2_eq N m p.1.2.2.2.1 p.1.2.2.2.2.1 p.2.1.1 p.2.1.2.1 p.2.1.2.2.1 p.2.2.1.2.2.1 p.2.2.2.1.2.2.1 p.2.2.2.2.1 p.2.2.2.2.2.1))
abbrev made_st : Sta := ⟨[0, 1, 2], ⟨[.own 0 0, .i .i64, .i .i64], [.segs [.sl (.int .u8), .i .i64, .i .u32]]⟩⟩
theorem made_eq (N : Nat) (words : Int) (turns : Int) (b : List Int) (b2 : Int) (b3 : Int) : ev (Z := (List (Int × (Int × Bool))) × (List (Int × (Int × Int))) × Int × List Int × Int × Int) Try.prog (made_sp N) made_B [made_l1_L N, made_l2_L N] [] (some made_rt) 400 false [.c [0], .c [1]] (stL made_st (((), words, turns, ()), ((b, b2, b3, ()), ()))) (stH made_st (((), words, turns, ()), ((b, b2, b3, ()), ()))) = made_S N words turns b b2 b3 := by kernel_rfl
noncomputable def sp_made (N : Nat) : Spec := { f := 36, ins := ⟨[.own 0 0, .i .i64, .i .i64], [.segs [.sl (.int .u8), .i .i64, .i .u32]]⟩, outs := [⟨[.agg [.sl (.pair (.int .i64) (.pair (.int .i64) .bool)), .sl (.pair (.int .i64) (.pair (.int .i64) (.int .i64))), .i .i64]], [.segs [.sl (.int .u8), .i .i64, .i .u32]]⟩], run := fun p k => (made_S N p.1.2.1 p.1.2.2.1 p.2.1.1 p.2.1.2.1 p.2.1.2.2.1).bind fun r => k (((r.1, r.2.1, r.2.2.1, ()), ()), ((r.2.2.2.1, r.2.2.2.2.1, r.2.2.2.2.2, ()), ())) }
theorem sp_made_ok (N : Nat) : SpecOK Try.prog (sp_made N) := fn_sound (B := made_B) (loops := [made_l1_L N, made_l2_L N]) (leaves := []) (fun p => made_S N p.1.2.1 p.1.2.2.1 p.2.1.1 p.2.1.2.1 p.2.1.2.2.1) (fun r => (((r.1, r.2.1, r.2.2.1, ()), ()), ((r.2.2.2.1, r.2.2.2.2.1, r.2.2.2.2.2, ()), ()))) made_rt (fun _ _ _ => rfl) (fun r z h => by cases h; rfl) Try.func36 (by kernel_rfl) (by kernel_rfl) (by kernel_rfl) rfl rfl (by kernel_rfl) (fun args w => Sem.pv_run _ _ _ (by kernel_rfl) w) (made_all N) mixed ⟨made_l1_ok N, made_l2_ok N, trivial⟩ (fun z E Xc hE hX hret => trivial) (fun p => made_eq N p.1.2.1 p.1.2.2.1 p.2.1.1 p.2.1.2.1 p.2.1.2.2.1)

end Go.Proofs.Ytfamlpbdhhikdaa

namespace Go.Proofs.Ytfamlpbdhhikdaa
set_option linter.all false
open Go

end Go.Proofs.Ytfamlpbdhhikdaa

namespace Go.Proofs.Ytfamlpbdhhikdaa
set_option linter.all false
open Go

section
variable {R : Nat → Nat → Bool} {m : Nat}
end
/-! ### The program of the reference -/
section
variable {N : Nat} (hN : 110 ≤ N)
include hN
end
section
variable {ws : List Wd} {ts : List Tn} {br_ : Int}
variable {N : Nat} (hN : 1030 ≤ N)
include hN
end
/-! ### The fewest breaths -/
section
variable {N : Nat} {l : List (List Int)} (hl : l.length ≤ 100000) (h1 : ∀ x ∈ l, 1 ≤ x.length)
include hl h1
end
end Go.Proofs.Ytfamlpbdhhikdaa

namespace Go.Proofs.Ytfamlpbdhhikdaa
set_option linter.all false
open Go

section
variable {N : Nat} {l : List (List Int)} {ws : List Wd} {ts : List Tn} {br_ : Int} {O : List Int}
end
section
variable {R : Nat → Nat → Bool} {m : Nat}
end
section
variable {N : Nat} {ws : List Wd} {ts : List Tn} {br_ : Int} (hF : TFine ws ts br_) (hN : 1030 ≤ N) (hm : ws.length ≤ 10)
include hF hm hN
end
/-- The fewest breaths: what is told. -/
theorem fewest_v {N : Nat} (hN : 110 ≤ N) {ws : List Wd} {ts : List Tn} {br_ : Int} (hw : ws.length ≤ 1000000) (ht : ts.length ≤ 1000000) :
    (checkT ws ts br_ ≠ 0 ∧ fewest_S N ws ts br_ = some ([], checkT ws ts br_)) ∨ (checkT ws ts br_ = 0 ∧
      ((∃ l, fewest_S N ws ts br_ = some (l, 0) ∧ goodB (rightR ws ts br_) ws.length 0 l = true ∧ IsMin (rightR ws ts br_) ws.length 0 l.length) ∨
       (fewest_S N ws ts br_ = some ([], 6) ∧ ∀ l, goodB (rightR ws ts br_) ws.length 0 l = false))) := by
  unfold fewest_S
  rw [opened_v (by omega) hw ht]
  by_cases c : checkT ws ts br_ = 0
  · refine .inr ⟨c, ?_⟩
    have hF := tfine_of c
    have := hF.t
    rw [if_pos c]
    simp only [Option.bind_some]
    rw [br_nd trivial]
    rcases fewestr_v (N := N) hN (d := (ws, ts, br_)) (r := (ws, ts, br_)) (R := rightR ws ts br_) (m := ws.length) rfl ⟨hF.n0, hF.n⟩ (fun a b h1 h2 => right_v hN hF.okW (by omega) (by omega) h2) with ⟨l, e, h1, h2⟩ | ⟨e, h1⟩
    · rw [e]; exact .inl ⟨l, rfl, h1, h2⟩
    · rw [e]; exact .inr ⟨rfl, h1⟩
  · refine .inl ⟨c, ?_⟩
    rw [if_neg c]
    simp only [Option.bind_some]
    rw [br_nnd c]
end Go.Proofs.Ytfamlpbdhhikdaa

namespace Go.Proofs.Ytfamlpbdhhikdaa
set_option linter.all false
open Go

/-- How many syllables the longest breath of a reading has. -/
def longF (ws : List Wd) : List Int → Nat → Int
  | [], _ => 0
  | x :: l, p => max (sylR ws p (p + x.toNat)) (longF ws l (p + x.toNat))
/-- Right breaths of so many syllables at most. -/
def evR (ws : List Wd) (ts : List Tn) (br_ : Int) (k : Int) (a b : Nat) : Bool := decide (sylR ws a b ≤ k) && rightR ws ts br_ a b
section
variable {ws : List Wd} {ts : List Tn} {br_ : Int}
theorem good_even {k : Int} (hk : 0 ≤ k) : ∀ {l : List Int} {p : Nat}, goodB (evR ws ts br_ k) ws.length p l = true ↔ goodB (rightR ws ts br_) ws.length p l = true ∧ longF ws l p ≤ k
  | [], p => by simp [goodB, longF]; exact fun _ => hk
  | x :: l, p => by
    rw [good_cons, good_cons, good_even hk, longF]
    unfold evR
    simp only [Bool.and_eq_true, decide_eq_true_eq]
    constructor
    · rintro ⟨h1, ⟨h2, h3⟩, h4, h5⟩
      exact ⟨⟨h1, h3, h4⟩, by omega⟩
    · rintro ⟨⟨h1, h2, h3⟩, h4⟩
      exact ⟨h1, ⟨by omega, h2⟩, h3, by omega⟩
theorem right_syl {a b : Nat} (h : rightR ws ts br_ a b = true) : sylR ws a b ≤ br_ := by
  unfold rightR faultR at h
  by_cases c : br_ < sylR ws a b
  · rw [if_pos c] at h; cases h
  · omega
theorem long_le (hb : 0 ≤ br_) : ∀ {l : List Int} {p : Nat}, goodB (rightR ws ts br_) ws.length p l = true → longF ws l p ≤ br_
  | [], p, _ => hb
  | x :: l, p, h => by
    obtain ⟨_, h2, h3⟩ := good_cons.1 h
    have := right_syl h2
    have := long_le hb h3
    rw [longF]; omega
theorem long_pos (hF : TFine ws ts br_) {l : List Int} (h : goodB (rightR ws ts br_) ws.length 0 l = true) : 1 ≤ longF ws l 0 := by
  cases l with
  | nil => have := good_nil.1 h; have := hF.n0; omega
  | cons x l =>
    obtain ⟨⟨h1, h2⟩, _, _⟩ := good_cons.1 h
    have h3 := sylR_step (ws := ws) (a := 0) (b := 0 + x.toNat) (by omega) h2
    have h4 := (hF.w _ (getD_mem (d := (0, 0, false)) (show 0 < ws.length by have := hF.n0; omega))).1
    have h5 := sylR_bound hF.okW (0 + 1) (0 + x.toNat)
    rw [longF]; omega
variable {N : Nat} (hN : 110 ≤ N) (hF : TFine ws ts br_)
include hN hF
theorem even1_v {k : Int} (hk : 0 ≤ k ∧ k ≤ 1000) {a b : Nat} (hab : a < b) (hb : b ≤ ws.length) : even1_S N a b (ws, ts, br_) k (ws, ts, br_) = some (evR ws ts br_ (k + 1) a b) := by
  have := hF.t
  unfold even1_S evR
  rw [syllables_v hN hF.okW (by omega) (by omega) (by omega)]
  simp only [Option.bind_some, Int.toNat_natCast]
  rw [chk_eq (by omega)]
  by_cases c : sylR ws a b ≤ k + 1
  · rw [br_dec c, right_v hN hF.okW (by omega) (by omega) hb]; simp [c]
  · rw [br_ndec c]; simp [c]
theorem even_l1_p : ∀ (n k : Nat), br_ < n + k → (k : Int) ≤ br_ → (∀ l, goodB (rightR ws ts br_) ws.length 0 l = true → (k : Int) < longF ws l 0) →
    (∃ (q : Nat) (l : List Int), even_l1 N n (ws, ts, br_) (ws, ts, br_) br_ k = some (.inl ((q : Int), l)) ∧ (q : Int) < br_ ∧ goodB (rightR ws ts br_) ws.length 0 l = true ∧ longF ws l 0 = q + 1 ∧
      ∀ l', goodB (rightR ws ts br_) ws.length 0 l' = true → (q : Int) + 1 ≤ longF ws l' 0 ∧ (longF ws l' 0 = q + 1 → (l.length : Int) ≤ l'.length)) ∨
    (even_l1 N n (ws, ts, br_) (ws, ts, br_) br_ k = some (.inr ()) ∧ ∀ l, goodB (rightR ws ts br_) ws.length 0 l = false)
  | 0, k, h, hk, _ => by omega
  | n + 1, k, h, hk, hno => by
    have hb := hF.b1; have hb0 := hF.b0
    unfold even_l1
    by_cases c : (k : Int) < br_
    · rw [br_dec c]
      rcases feweste_v (N := N) hN (d := (ws, ts, br_)) (r := ((ws, ts, br_), (k : Int), (ws, ts, br_))) (R := evR ws ts br_ ((k : Int) + 1)) (m := ws.length) rfl ⟨hF.n0, hF.n⟩ (fun a b h1 h2 => (show even1_S N a b (ws, ts, br_) (k : Int) (ws, ts, br_) = _ from even1_v hN hF (k := (k : Int)) (by omega) h1 h2)) with ⟨l, e, h1, h2⟩ | ⟨e, h1⟩
      · dsimp only at e
        rw [e]
        obtain ⟨g1, g2⟩ := (good_even (by omega)).1 h1
        have g3 := hno l g1
        refine .inl ⟨k, l, rfl, c, g1, by omega, fun l' hl' => ?_⟩
        have g4 := hno l' hl'
        exact ⟨by omega, fun e2 => h2.le l' ((good_even (by omega)).2 ⟨hl', by omega⟩)⟩
      · dsimp only at e
        rw [e]
        simp only [Option.bind_some]
        rw [br_false, chk_eq (by omega)]
        have ih := even_l1_p n (k + 1) (by omega) (by omega) (fun l hl => by
          have g := hno l hl
          have g2 : ¬ longF ws l 0 ≤ (k : Int) + 1 := fun g3 => by
            have := (good_even (by omega)).2 ⟨hl, g3⟩
            rw [h1 l] at this; cases this
          omega)
        rw [show ((k + 1 : Nat) : Int) = (k : Int) + 1 by omega] at ih
        exact ih
    · rw [br_ndec c]
      refine .inr ⟨rfl, fun l => ?_⟩
      cases hg : goodB (rightR ws ts br_) ws.length 0 l
      · rfl
      · have := hno l hg; have := long_le (by omega) hg; omega
end
/-- The most even reading: what is told. -/
theorem even_v {N : Nat} (hN : 110 ≤ N) {ws : List Wd} {ts : List Tn} {br_ : Int} (hw : ws.length ≤ 1000000) (ht : ts.length ≤ 1000000) :
    (checkT ws ts br_ ≠ 0 ∧ even_S N ws ts br_ = some ([], 0, checkT ws ts br_)) ∨ (checkT ws ts br_ = 0 ∧
      ((∃ l k, even_S N ws ts br_ = some (l, k, 0) ∧ k ≤ br_ ∧ goodB (rightR ws ts br_) ws.length 0 l = true ∧ longF ws l 0 = k ∧
        ∀ l', goodB (rightR ws ts br_) ws.length 0 l' = true → k ≤ longF ws l' 0 ∧ (longF ws l' 0 = k → (l.length : Int) ≤ l'.length)) ∨
       (even_S N ws ts br_ = some ([], 0, 6) ∧ ∀ l, goodB (rightR ws ts br_) ws.length 0 l = false))) := by
  unfold even_S
  rw [opened_v (by omega) hw ht]
  by_cases c : checkT ws ts br_ = 0
  · refine .inr ⟨c, ?_⟩
    have hF := tfine_of c
    have hb := hF.b1; have hb0 := hF.b0
    rw [if_pos c]
    simp only [Option.bind_some]
    rw [br_nd trivial]
    rcases even_l1_p hN hF N 0 (by omega) (by omega) (fun l hl => by have := long_pos hF hl; omega) with ⟨q, l, e, h1, h2, h3, h4⟩ | ⟨e, h1⟩
    · simp only [Int.natCast_zero] at e
      rw [e]
      simp only [Option.bind_some]
      rw [chk_eq (by omega)]
      exact .inl ⟨l, (q : Int) + 1, rfl, by omega, h2, h3, h4⟩
    · simp only [Int.natCast_zero] at e
      rw [e]; exact .inr ⟨rfl, h1⟩
  · refine .inl ⟨c, ?_⟩
    rw [if_neg c]
    simp only [Option.bind_some]
    rw [br_nnd c]
/-! ### Sure readings -/
section
variable {ws : List Wd} {ts : List Tn} {br_ : Int} {N : Nat} (hN : 110 ≤ N) (hF : TFine ws ts br_)
include hN hF
end
/-! ### No run of a sure reading says a turn otherwise -/
section
variable {ws : List Wd} {ts : List Tn} {br_ : Int}
end
end Go.Proofs.Ytfamlpbdhhikdaa

namespace Go.Proofs.Ytfamlpbdhhikdaa
set_option linter.all false
open Go

section
variable {N : Nat} {ws : List Wd} {ts : List Tn} {br_ : Int} (hN : 110 ≤ N) (hF : TFine ws ts br_)
include hN hF
end
section
variable {N : Nat} {ws : List Wd} {ts : List Tn} {br_ : Int} (hF : TFine ws ts br_) (hN : 1030 ≤ N) (hm : ws.length ≤ 10)
include hF hm hN
end
end Go.Proofs.Ytfamlpbdhhikdaa

namespace Go.Proofs.Ytfamlpbdhhikdaa
set_option linter.all false
open Go

/-! ### Bells -/
theorem wrap32 (x : Int) : 0 ≤ IntKind.u32.wrap x ∧ IntKind.u32.wrap x < 4294967296 := by
  have := wrap_inR .u32 x
  have h1 : IntKind.u32.min = 0 := by decide
  have h2 : IntKind.u32.max = 4294967295 := by decide
  unfold inR at this
  rw [h1, h2] at this
  omega
def Bell (b : List Int) (b2 : Int) : Prop := b.length ≤ 9223372036854775807 ∧ 0 ≤ b2 ∧ b2 ≤ b.length
abbrev BellR (b : List Int) (r : List Int × Int × Int) : Prop := r.1 = b ∧ Bell b r.2.1
theorem and_small (n : Nat) : 0 ≤ IntKind.i64.wrap ((n &&& 65535 : Nat) : Int) ∧ IntKind.i64.wrap ((n &&& 65535 : Nat) : Int) ≤ 65535 := by
  have : n &&& 65535 ≤ 65535 := Nat.and_le_right
  rw [wrap64 (by omega)]
  omega
theorem fdiv_nonneg {x : Int} (h : 0 ≤ x) : 0 ≤ Int.fdiv x (2 ^ 7) := by
  rw [Int.fdiv_eq_ediv_of_nonneg _ (by decide)]
  exact Int.ediv_nonneg h (by decide)
theorem ring_j1_ok (N : Nat) {b : List Int} {b2 b3 : Int} (hb : b.length ≤ 9223372036854775807) (h0 : 0 ≤ b2) (h1 : b2 < b.length ∨ b.length = 0 ∧ b2 = 0) : Ok (ring_j1 N b b2 b3) fun r => (0 ≤ r.1 ∧ r.1 ≤ 65535) ∧ BellR b r.2 := by
  unfold ring_j1
  refine Ok.brd (fun h => ?_) (fun h => ?_)
  · refine Ok.idx h0 (by omega) (fun a _ _ => Ok.chk (by omega) (Ok.grd ?_ (Ok.grd ?_ (Ok.some ?_))))
    · simp only [decide_eq_true_eq]; exact ⟨(wrap32 _).1, fdiv_nonneg (wrap32 _).1⟩
    · simp only [decide_eq_true_eq]; exact ⟨Int.natCast_nonneg _, by decide⟩
    · exact ⟨and_small _, rfl, hb, by dsimp only; omega, by dsimp only; omega⟩
  · refine Ok.grd ?_ (Ok.grd ?_ (Ok.some ?_))
    · simp only [decide_eq_true_eq]; exact ⟨(wrap32 _).1, fdiv_nonneg (wrap32 _).1⟩
    · simp only [decide_eq_true_eq]; exact ⟨Int.natCast_nonneg _, by decide⟩
    · exact ⟨and_small _, rfl, hb, by dsimp only; omega, by dsimp only; omega⟩
theorem ring_ok (N : Nat) {b : List Int} {b2 b3 : Int} (hb : Bell b b2) : Ok (ring_S N b b2 b3) fun r => (0 ≤ r.1 ∧ r.1 ≤ 65535) ∧ BellR b r.2 := by
  obtain ⟨h1, h2, h3⟩ := hb
  unfold ring_S
  refine Ok.brd (fun h => ring_j1_ok N h1 (by omega) (by omega)) (fun h => ring_j1_ok N h1 h2 (by omega))
theorem stroke_ok (N : Nat) {n : Int} {b : List Int} {b2 b3 : Int} (hb : Bell b b2) (hn : -1000000 ≤ n ∧ n ≤ 1000000) : Ok (stroke_S N n b b2 b3) fun r => (0 ≤ r.1 ∧ r.1 ≤ max 0 n) ∧ BellR b r.2 := by
  unfold stroke_S
  refine Ok.bind (ring_ok N hb) (fun r hr => ?_)
  obtain ⟨x, c, c2, c3⟩ := r
  refine Ok.chk (by omega) (Ok.grd (by simp only [Bool.not_eq_true', decide_eq_false_iff_not]; omega) (Ok.some ⟨?_, hr.2⟩))
  obtain ⟨⟨h1, h2⟩, _⟩ := hr
  dsimp only at *
  have hm : 0 < max 1 (n + 1) := by omega
  have := Int.tmod_lt_of_pos x hm
  have := Int.tmod_nonneg (max 1 (n + 1)) h1
  omega
theorem strike_ok (N : Nat) {lo hi : Int} {b : List Int} {b2 b3 : Int} (hb : Bell b b2) (hn : (-1000 ≤ lo ∧ lo ≤ 1000) ∧ -1000 ≤ hi ∧ hi ≤ 1000) : Ok (strike_S N lo hi b b2 b3) fun r => (lo ≤ r.1 ∧ r.1 ≤ max lo hi) ∧ BellR b r.2 := by
  unfold strike_S
  refine Ok.chk (by omega) (Ok.bind (stroke_ok N hb (by omega)) (fun r hr => ?_))
  obtain ⟨x, c, c2, c3⟩ := r
  obtain ⟨h, h2⟩ := hr
  dsimp only at *
  refine Ok.chk (by omega) (Ok.some ⟨by dsimp only; omega, h2⟩)
theorem seldom_ok (N : Nat) {n : Int} {b : List Int} {b2 b3 : Int} (hb : Bell b b2) (hn : -1000 ≤ n ∧ n ≤ 1000) : Ok (seldom_S N n b b2 b3) fun r => BellR b r.2 := by
  unfold seldom_S
  refine Ok.chk (by omega) (Ok.bind (stroke_ok N hb (by omega)) (fun r hr => ?_))
  obtain ⟨x, c, c2, c3⟩ := r
  exact Ok.some hr.2

/-! ### Texts that are made -/
theorem checkT_of {ws : List Wd} {ts : List Tn} {br_ : Int} (h : TFine ws ts br_) : checkT ws ts br_ = 0 := by
  have h1 := h.n0; have h2 := h.n; have h3 := h.t; have h4 := h.b0; have h5 := h.b1
  have e1 : ws.all okw = true := by
    rw [List.all_eq_true]
    intro w hw
    have := h.w w hw
    simp [okw]; omega
  have e2 : ts.all (ok2 ws.length) = true := by
    rw [List.all_eq_true]
    intro x hx
    have := h.x x hx
    simp only [ok2, inT, Bool.and_eq_true, decide_eq_true_eq]; omega
  have e3 : ts.all ok3 = true := by
    rw [List.all_eq_true]
    intro x hx
    have := h.x x hx
    simp only [ok3, decide_eq_true_eq]; omega
  have e4 : ts.all ok4 = true := by
    rw [List.all_eq_true]
    intro x hx
    have := h.x x hx
    simp only [ok4, Bool.not_eq_true', decide_eq_false_iff_not]; omega
  unfold checkT
  rw [if_neg (by omega), if_neg (by omega), if_neg (by omega), if_neg (by simp [e1]), if_neg (by simp [e2]), if_neg (by simp [e3]), if_neg (by simp [e4])]
abbrev BelR (b : List Int) (c : List Int) (c2 : Int) : Prop := c = b ∧ Bell b c2
def okWd (w : Wd) : Prop := (1 ≤ w.1 ∧ w.1 ≤ 9) ∧ 0 ≤ w.2.1 ∧ w.2.1 ≤ 20
def okTn (m : Nat) (x : Tn) : Prop := (0 ≤ x.1 ∧ x.1 < m) ∧ (0 ≤ x.2.1 ∧ x.2.1 < m) ∧ (0 ≤ x.2.2 ∧ x.2.2 < m) ∧ x.2.1 ≤ x.2.2 ∧ ¬ (x.2.1 ≤ x.1 ∧ x.1 ≤ x.2.2)
section
variable {N : Nat} {b : List Int}
theorem made_l1_p {turns u g t : Int} (hu : 0 ≤ u ∧ u ≤ 100) : ∀ (n k : Nat) (b2 b3 : Int) (W : List Wd), u < n + k → (k : Int) ≤ u → Bell b b2 → W.length = k → (∀ w ∈ W, okWd w) →
    Ok (made_l1 N n turns u k b b2 b3 g t W) fun z => z.1 = turns ∧ BelR b z.2.1 z.2.2.1 ∧ z.2.2.2.2.1 = g ∧ z.2.2.2.2.2.1 = t ∧ (z.2.2.2.2.2.2.length : Int) = u ∧ ∀ w ∈ z.2.2.2.2.2.2, okWd w
  | 0, k, b2, b3, W, h, _, _, _, _ => by omega
  | n + 1, k, b2, b3, W, h, hk, hb, hW, hw => by
    unfold made_l1
    refine Ok.brd (fun c => ?_) (fun c => Ok.some ⟨rfl, ⟨rfl, hb⟩, rfl, rfl, by dsimp only; omega, hw⟩)
    refine Ok.bind (strike_ok N hb (by omega)) ?_
    rintro ⟨x, c1, c2, c3⟩ ⟨hx, hc, hb1⟩
    dsimp only at hx hc hb1 ⊢
    obtain rfl := hc.symm
    refine Ok.bind (stroke_ok N hb1 (by omega)) ?_
    rintro ⟨y, d1, d2, d3⟩ ⟨hy, hc, hb2⟩
    dsimp only at hy hc hb2 ⊢
    obtain rfl := hc.symm
    refine Ok.bind (seldom_ok N hb2 (by omega)) ?_
    rintro ⟨z, e1, e2, e3⟩ ⟨hc, hb3⟩
    dsimp only at hc hb3 ⊢
    obtain rfl := hc.symm
    refine Ok.lim (by simp; omega) (Ok.chk (by omega) ?_)
    have := made_l1_p (turns := turns) (g := g) (t := t) hu n (k + 1) e2 e3 (W ++ [(x, y, !z)]) (by omega) (by omega) hb3 (by simp [hW]) (fun w hm => by
      rcases List.mem_append.1 hm with hm | hm
      · exact hw w hm
      · simp at hm; subst hm; exact ⟨by dsimp only; omega, by dsimp only; omega, by dsimp only; omega⟩)
    rw [show ((k + 1 : Nat) : Int) = (k : Int) + 1 by omega] at this
    exact this
theorem made_l2_p {u g t : Int} {W : List Wd} (hu : u ≤ 100) (hW : W.length ≤ 100) : ∀ (n k : Nat) (b2 b3 : Int) (X : List Tn), u < n + k → 0 < n → Bell b b2 → X.length ≤ k → k ≤ 1000 → (∀ x ∈ X, okTn W.length x) → ((X.length : Int) ≤ max u 0) →
    Ok (made_l2 N n u k b b2 b3 g t W X) fun z => BelR b z.1 z.2.1 ∧ z.2.2.2.1 = g ∧ z.2.2.2.2.1 = t ∧ z.2.2.2.2.2.1 = W ∧ ((z.2.2.2.2.2.2.length : Int) ≤ max u 0) ∧ ∀ x ∈ z.2.2.2.2.2.2, okTn W.length x
  | 0, k, b2, b3, X, h, h0, _, _, _, _, _ => by omega
  | n + 1, k, b2, b3, X, h, h0, hb, hX, hk, hx, hl => by
    unfold made_l2
    refine Ok.brd (fun c => ?_) (fun c => Ok.some ⟨⟨rfl, hb⟩, rfl, rfl, rfl, hl, hx⟩)
    refine Ok.brd (fun c => Ok.some ⟨⟨rfl, hb⟩, rfl, rfl, rfl, hl, hx⟩) (fun c2 => ?_)
    refine Ok.chk (by omega) (Ok.bind (stroke_ok N hb (by omega)) ?_)
    rintro ⟨lo, c1, c2', c3⟩ ⟨hlo, hc, hb1⟩
    dsimp only at hlo hc hb1 ⊢
    obtain rfl := hc.symm
    refine Ok.chk (by omega) (Ok.bind (stroke_ok N hb1 (by omega)) ?_)
    rintro ⟨y, d1, d2, d3⟩ ⟨hy, hc, hb2⟩
    dsimp only at hy hc hb2 ⊢
    obtain rfl := hc.symm
    refine Ok.chk (by omega) (Ok.chk (by omega) (Ok.bind (stroke_ok N hb2 (by omega)) ?_))
    rintro ⟨w, e1, e2, e3⟩ ⟨hw, hc, hb3⟩
    dsimp only at hw hc hb3 ⊢
    obtain rfl := hc.symm
    have hj : ∀ X', made_j1 N (made_l2 N n) u k b e2 e3 g t W X' = made_l2 N n u ((k + 1 : Nat) : Int) b e2 e3 g t W X' := fun X' => by
      unfold made_j1
      rw [chk_eq (by omega)]; rfl
    simp only [hj]
    have put : (w < lo ∨ min ((W.length : Int) - 1) (lo + y) < w) → Ok (lim (X.length + [(w, lo, min ((W.length : Int) - 1) (lo + y))].length) <| made_l2 N n u ((k + 1 : Nat) : Int) b e2 e3 g t W (X ++ [(w, lo, min ((W.length : Int) - 1) (lo + y))])) fun z => BelR b z.1 z.2.1 ∧ z.2.2.2.1 = g ∧ z.2.2.2.2.1 = t ∧ z.2.2.2.2.2.1 = W ∧ ((z.2.2.2.2.2.2.length : Int) ≤ max u 0) ∧ ∀ x ∈ z.2.2.2.2.2.2, okTn W.length x := fun hc => by
      refine Ok.lim (by simp; omega) ?_
      exact made_l2_p hu hW n (k + 1) e2 e3 _ (by omega) (by omega) hb3 (by simp; omega) (by omega) (fun x hm => by
        rcases List.mem_append.1 hm with hm | hm
        · exact hx x hm
        · simp at hm; subst hm
          unfold okTn; dsimp only; omega) (by simp; omega)
    refine Ok.brd (fun q => put (.inl q)) (fun q => Ok.brd (fun q2 => put (.inr q2)) (fun q2 => ?_))
    exact made_l2_p hu hW n (k + 1) e2 e3 X (by omega) (by omega) hb3 (by omega) (by omega) hx hl
theorem made_v (hN : 110 ≤ N) {words turns b2 b3 : Int} (hw : 1 ≤ words ∧ words ≤ 12) (ht : 0 ≤ turns ∧ turns ≤ 6) (hb : Bell b b2) :
    Ok (made_S N words turns b b2 b3) fun z => TFine z.1 z.2.1 z.2.2.1 ∧ (z.1.length : Int) ≤ words ∧ BelR b z.2.2.2.1 z.2.2.2.2.1 := by
  unfold made_S
  refine Ok.bind (strike_ok N hb (by omega)) ?_
  rintro ⟨x, c1, c2, c3⟩ ⟨hx, hc, hb1⟩
  dsimp only at hx hc hb1 ⊢
  obtain rfl := hc.symm
  refine Ok.bind (strike_ok N hb1 (by omega)) ?_
  rintro ⟨m, d1, d2, d3⟩ ⟨hm, hc, hb2⟩
  dsimp only at hm hc hb2 ⊢
  obtain rfl := hc.symm
  have e1 := made_l1_p (N := N) (turns := turns) (g := 0) (t := x) (u := m) (by omega) N 0 d2 d3 [] (by omega) (by omega) hb2 rfl (fun w h => by cases h)
  simp only [Int.natCast_zero] at e1
  refine Ok.bind e1 ?_
  rintro ⟨t', f1, f2, f3, g', x', W⟩ ⟨q1, ⟨q2, hb3⟩, q3, q4, hl, hW⟩
  dsimp only at q1 q2 q3 q4 hb3 hl hW ⊢
  obtain rfl := q1.symm
  obtain rfl := q2.symm
  obtain rfl := q3.symm
  obtain rfl := q4.symm
  refine Ok.bind (stroke_ok N hb3 (by omega)) ?_
  rintro ⟨k, h1, h2, h3⟩ ⟨hk, hc, hb4⟩
  dsimp only at hk hc hb4 ⊢
  obtain rfl := hc.symm
  have e2 := made_l2_p (N := N) (u := k) (g := 0) (t := x) (W := W) (by omega) (by omega) N 0 h2 h3 [] (by omega) (by omega) hb4 (by simp) (by omega) (fun x h => by cases h) (by simp; omega)
  simp only [Int.natCast_zero] at e2
  refine Ok.bind e2 ?_
  rintro ⟨i1, i2, i3, g'', x'', W', X⟩ ⟨⟨q2, hb5⟩, q3, q4, q5, hl2, hX⟩
  dsimp only at q2 q3 q4 q5 hb5 hl2 hX ⊢
  obtain rfl := q2.symm
  obtain rfl := q3.symm
  obtain rfl := q4.symm
  obtain rfl := q5.symm
  refine Ok.some ⟨⟨by dsimp only; omega, by dsimp only; omega, by dsimp only; omega, by dsimp only; omega, by dsimp only; omega, hW, hX⟩, by dsimp only; omega, rfl, hb5⟩
/-! ### Readings that are tried -/
end
end Go.Proofs.Ytfamlpbdhhikdaa

namespace Go.Proofs.Ytfamlpbdhhikdaa
set_option linter.all false
open Go

section
variable {N : Nat} {ws : List Wd} {ts : List Tn} {br_ : Int}
variable (hN : 110 ≤ N) (hF : TFine ws ts br_)
include hN hF
omit hN hF
/-! ### Places -/
/-! ### Right readings -/
include hN hF
end
end Go.Proofs.Ytfamlpbdhhikdaa

namespace Go.Proofs.Ytfamlpbdhhikdaa
set_option linter.all false
open Go

section
variable {N : Nat} {ws : List Wd} {ts : List Tn} {br_ : Int} (hN : 110 ≤ N) (hF : TFine ws ts br_)
include hN hF
end
end Go.Proofs.Ytfamlpbdhhikdaa

namespace Go.Proofs.Ytfamlpbdhhikdaa
set_option linter.all false
open Go

/-! ### Runs that no turn is said otherwise by -/
section
variable {N : Nat} {ws : List Wd} {ts : List Tn} {br_ : Int} (hN : 110 ≤ N) (ht : ts.length ≤ 100)
include hN ht
end
/-! ### Turns that are parted -/
section
variable {ws : List Wd} {ts : List Tn} {br_ : Int}
end
section
variable {N : Nat} {ws : List Wd} {ts : List Tn} {br_ : Int} (hN : 110 ≤ N) (hF : TFine ws ts br_)
include hN hF
end
end Go.Proofs.Ytfamlpbdhhikdaa

namespace Go.Proofs.Ytfamlpbdhhikdaa
set_option linter.all false
open Go

section
variable {N : Nat} {ws : List Wd} {ts : List Tn} {br_ : Int} (hN : 110 ≤ N) (hF : TFine ws ts br_)
include hN hF
end
end Go.Proofs.Ytfamlpbdhhikdaa

namespace Go.Proofs.Ytfamlpbdhhikdaa
set_option linter.all false
open Go

/-- Marks from others, lowered at the places of right breaths from places ahead of one. -/
structure Low (R : Nat → Nat → Bool) (m f : Nat) (A M : List Int) : Prop where
  len : M.length = 13
  le : ∀ q, M.getD q 0 ≤ A.getD q 0
  hold : ∀ p q, p < f → p < q → q ≤ m → R p q = true → M.getD q 0 ≤ M.getD p 0 + 1
  why : ∀ q, M.getD q 0 = A.getD q 0 ∨ ∃ p, p < f ∧ p < q ∧ q ≤ m ∧ R p q = true ∧ M.getD q 0 = M.getD p 0 + 1
structure Mk (A : List Int) : Prop where
  len : A.length = 13
  bd : ∀ q, 0 ≤ A.getD q 0 ∧ A.getD q 0 ≤ 99
section
variable {R : Nat → Nat → Bool} {m : Nat} {A M : List Int}
theorem Low.start (h : Mk A) : Low R m 0 A A := ⟨h.len, fun q => Int.le_refl _, fun p q h => by omega, fun q => .inl rfl⟩
theorem Low.bd (hA : Mk A) {f : Nat} (h : Low R m f A M) : ∀ q, 0 ≤ M.getD q 0 ∧ M.getD q 0 ≤ 99 := by
  intro q
  induction q using Nat.strongRecOn with
  | ind q ih =>
    have h1 := h.le q
    have h2 := hA.bd q
    rcases h.why q with e | ⟨p, _, hp, _, _, e⟩
    · omega
    · have := ih p hp; omega
theorem Low.next {f : Nat} {M' : List Int} (h : Low R m f A M) (hl : M'.length = 13) (hM : ∀ q, M'.getD q 0 = if (f < q ∧ q ≤ m ∧ R f q = true) then min (M.getD q 0) (M.getD f 0 + 1) else M.getD q 0) : Low R m (f + 1) A M' := by
  have hle : ∀ q, M'.getD q 0 ≤ M.getD q 0 := fun q => by
    rw [hM q]; split <;> omega
  have hsm : ∀ p, p ≤ f → M'.getD p 0 = M.getD p 0 := fun p hp => by rw [hM p, if_neg (by omega)]
  refine ⟨hl, fun q => Int.le_trans (hle q) (h.le q), fun p q h1 h2 h3 h4 => ?_, fun q => ?_⟩
  · rw [hsm p (by omega)]
    by_cases e : p = f
    · subst e
      rw [hM q, if_pos ⟨h2, h3, h4⟩]; omega
    · have := h.hold p q (by omega) h2 h3 h4
      have := hle q; omega
  · by_cases e : M'.getD q 0 = M.getD q 0
    · rw [e]
      rcases h.why q with h1 | ⟨p, h1, h2, h3, h4, h5⟩
      · exact .inl h1
      · exact .inr ⟨p, by omega, h2, h3, h4, by rw [hsm p (by omega)]; exact h5⟩
    · by_cases c : f < q ∧ q ≤ m ∧ R f q = true
      · have h1 := hM q
        rw [if_pos c] at h1
        exact .inr ⟨f, by omega, c.1, c.2.1, c.2.2, by rw [hsm f (Nat.le_refl _)]; omega⟩
      · exact absurd (by rw [hM q, if_neg c]) e
theorem Low.holds (h : Low R m m A A) : ∀ p q, p < q → q ≤ m → R p q = true → A.getD q 0 ≤ A.getD p 0 + 1 := fun p q h1 h2 h3 => h.hold p q (by omega) h1 h2 h3
end
section
variable {N : Nat} {ws : List Wd} {ts : List Tn} {br_ : Int} (hN : 110 ≤ N) (hF : TFine ws ts br_)
include hF
include hN
end
end Go.Proofs.Ytfamlpbdhhikdaa

namespace Go.Proofs.Ytfamlpbdhhikdaa
set_option linter.all false
open Go

section
variable {N : Nat} {ws : List Wd} {ts : List Tn} {br_ : Int} (hN : 110 ≤ N) (hF : TFine ws ts br_)
include hN hF
end
end Go.Proofs.Ytfamlpbdhhikdaa

namespace Go.Proofs.Ytfamlpbdhhikdaa
set_option linter.all false
open Go

section
variable {N : Nat} {ws : List Wd} {ts : List Tn} {br_ : Int}
variable (hN : 110 ≤ N) (hF : TFine ws ts br_)
include hN hF
omit hN hF
def inW (ws : List Wd) (l : List Int) : Prop := ∀ w ∈ l, 0 ≤ w ∧ w < ws.length
include hF
end
/-! ### Errors of kept words -/
def ascB : List Int → Bool
  | a :: b :: r => decide (a < b) && ascB (b :: r)
  | _ => true
section
variable {N : Nat} {ws : List Wd} {ts : List Tn} {br_ : Int}
end
/-! ### Prices -/
section
variable {N : Nat} {ws : List Wd} {ts : List Tn} {br_ : Int}
end
end Go.Proofs.Ytfamlpbdhhikdaa

namespace Go.Proofs.Ytfamlpbdhhikdaa
set_option linter.all false
open Go

/-! ### Ascending lists -/
theorem asc_step : ∀ {l : List Int} (_ : ascB l = true) (i : Nat), i + 1 < l.length → l.getD i 0 < l.getD (i + 1) 0
  | [], _, i, h => by simp at h
  | [a], _, i, h => by simp at h
  | a :: b :: r, hl, i, h => by
    simp only [ascB, Bool.and_eq_true, decide_eq_true_eq] at hl
    cases i with
    | zero => simpa using hl.1
    | succ i => simpa using asc_step hl.2 i (by simpa using h)
theorem asc_get {l : List Int} (h : ascB l = true) (i : Nat) : ∀ (d : Nat), i + d < l.length → l.getD i 0 + d ≤ l.getD (i + d) 0
  | 0, _ => by simp
  | d + 1, hd => by
    have h1 := asc_get h i d (by omega)
    have h2 := asc_step h (i + d) (by omega)
    rw [show i + (d + 1) = i + d + 1 by omega]
    omega
theorem asc_lt {l : List Int} (h : ascB l = true) {i j : Nat} (hij : i < j) (hj : j < l.length) : l.getD i 0 + ((j : Int) - i) ≤ l.getD j 0 := by
  have := asc_get h i (j - i) (by omega)
  rw [show i + (j - i) = j by omega] at this
  omega
/-- Where a number would lie. -/
def posI : List Int → Int → Nat
  | [], _ => 0
  | a :: l, v => if a < v then posI l v + 1 else 0
theorem posI_lt {v : Int} : ∀ {l : List Int} {i : Nat}, i < posI l v → i < l.length ∧ l.getD i 0 < v
  | [], i, h => by simp [posI] at h
  | a :: l, i, h => by
    unfold posI at h
    split at h
    · rename_i c
      cases i with
      | zero => exact ⟨by simp, by simpa using c⟩
      | succ i =>
        have := posI_lt (v := v) (l := l) (i := i) (by omega)
        exact ⟨by simpa using this.1, by simpa using this.2⟩
    · omega
theorem posI_le {v : Int} : ∀ (l : List Int), posI l v ≤ l.length
  | [] => by simp [posI]
  | a :: l => by
    have := posI_le (v := v) l
    unfold posI
    split <;> simp <;> omega
theorem posI_at {v : Int} : ∀ {l : List Int}, posI l v < l.length → v ≤ l.getD (posI l v) 0
  | [], h => by simp at h
  | a :: l, h => by
    unfold posI at h ⊢
    split at h
    · rename_i c
      have := posI_at (v := v) (l := l) (by simpa using h)
      rw [if_pos c]
      simpa using this
    · rename_i c
      rw [if_neg c]
      simp; omega
theorem posI_uniq {v : Int} {l : List Int} {k : Nat} (hk : k ≤ l.length) (h1 : ∀ i, i < k → l.getD i 0 < v) (h2 : k < l.length → v ≤ l.getD k 0) : posI l v = k := by
  rcases Nat.lt_trichotomy (posI l v) k with h | h | h
  · have := posI_at (v := v) (l := l) (by omega)
    have := h1 _ h
    omega
  · exact h
  · have := posI_lt h
    have := h2 this.1
    omega
theorem posI_of {l : List Int} (h : ascB l = true) {i : Nat} (hi : i < l.length) : posI l (l.getD i 0) = i :=
  posI_uniq (by omega) (fun j hj => by have := asc_lt h hj hi; omega) (fun _ => by omega)
theorem contains_iff {l : List Int} (h : ascB l = true) {v : Int} : l.contains v = true ↔ posI l v < l.length ∧ l.getD (posI l v) 0 = v := by
  rw [List.contains_iff_mem]
  constructor
  · intro hm
    obtain ⟨i, hi, rfl⟩ := List.getElem_of_mem hm
    have : l[i] = l.getD i 0 := by simp [List.getD, hi]
    rw [this, posI_of h hi]
    exact ⟨hi, rfl⟩
  · rintro ⟨h1, h2⟩
    rw [← h2]; exact getD_mem h1
theorem posI_succ {l : List Int} (h : ascB l = true) (v : Int) : posI l (v + 1) = if l.contains v = true then posI l v + 1 else posI l v := by
  split
  · rename_i c
    obtain ⟨c1, c2⟩ := (contains_iff h).1 c
    refine posI_uniq (by omega) (fun i hi => ?_) (fun hl => ?_)
    · rcases Nat.lt_or_ge i (posI l v) with c3 | c3
      · have := (posI_lt c3).2; omega
      · obtain rfl : i = posI l v := by omega
        omega
    · have := asc_step h (posI l v) hl
      omega
  · rename_i c
    refine posI_uniq (posI_le l) (fun i hi => by have := (posI_lt hi).2; omega) (fun hl => ?_)
    have := posI_at hl
    rcases Int.lt_or_le v (l.getD (posI l v) 0) with c3 | c3
    · omega
    · exact absurd ((contains_iff h).2 ⟨hl, by omega⟩) c
/-- A stretch of words is kept whole just if its ends lie as far apart among the kept ones. -/
theorem stretch {l : List Int} (h : ascB l = true) {lo hi : Int} (hle : lo ≤ hi) : (wordsL lo (hi + 1)).all (fun w => l.contains w) = (l.contains lo && (l.contains hi && decide ((posI l hi : Int) - posI l lo = hi - lo))) := by
  rw [Bool.eq_iff_iff]
  simp only [Bool.and_eq_true, decide_eq_true_eq, List.all_eq_true, mem_wordsL]
  constructor
  · intro ha
    have key : ∀ (d : Nat), lo + d ≤ hi → posI l (lo + d) = posI l lo + d := by
      intro d
      induction d with
      | zero => intro _; simp
      | succ d ih =>
        intro hd
        have e := posI_succ h (lo + d)
        rw [if_pos (ha _ (by omega)), ih (by omega), show lo + (d : Int) + 1 = lo + ((d + 1 : Nat) : Int) by omega] at e
        rw [e]; omega
    refine ⟨ha _ (by omega), ha _ (by omega), ?_⟩
    have := key (hi - lo).toNat (by omega)
    rw [show lo + ((hi - lo).toNat : Int) = hi by omega] at this
    omega
  · rintro ⟨h1, h2, h3⟩ w ⟨hw1, hw2⟩
    obtain ⟨a1, a2⟩ := (contains_iff h).1 h1
    obtain ⟨b1, b2⟩ := (contains_iff h).1 h2
    rw [List.contains_iff_mem]
    have hi' : posI l lo + (w - lo).toNat < l.length := by omega
    have := asc_get h (posI l lo) (w - lo).toNat hi'
    have hj := asc_get h (posI l lo + (w - lo).toNat) (hi - w).toNat (by omega)
    rw [show posI l lo + (w - lo).toNat + (hi - w).toNat = posI l hi by omega, b2] at hj
    rw [a2] at this
    rw [show w = l.getD (posI l lo + (w - lo).toNat) 0 by omega]
    exact getD_mem hi'
/-! ### The binary search -/
/-! ### Kept words -/
section
variable {N : Nat} {ws : List Wd} {ts : List Tn} {br_ : Int}
variable (hN : 110 ≤ N) (hF : TFine ws ts br_)
include hN hF
omit hN hF
include hN hF
omit hN hF
/-! ### The reference -/
include hN hF
omit hN hF
end
/-! ### The statement -/
section
variable {N : Nat}
end
end Go.Proofs.Ytfamlpbdhhikdaa

namespace Go.Proofs.Ytfamlpbdhhikdaa
set_option linter.all false
open Go

/-- Ascending words from one on. -/
def okC (m : Int) : Int → List Int → Prop
  | _, [] => True
  | lo, a :: r => (lo ≤ a ∧ a < m) ∧ okC m (a + 1) r
theorem okC_mono {m lo lo' : Int} (h : lo' ≤ lo) : ∀ {c : List Int}, okC m lo c → okC m lo' c
  | [], _ => trivial
  | a :: r, ⟨⟨h1, h2⟩, h3⟩ => ⟨⟨by omega, h2⟩, h3⟩
theorem okC_len {m : Int} : ∀ {c : List Int} {lo : Int}, okC m lo c → c ≠ [] → lo + c.length ≤ m
  | [], _, _, h => absurd rfl h
  | [a], lo, ⟨⟨h1, h2⟩, _⟩, _ => by simp; omega
  | a :: b :: r, lo, ⟨⟨h1, h2⟩, h3⟩, _ => by
    have := okC_len h3 (by simp)
    simp at this ⊢; omega
/-- Which of two lists comes ahead. -/
def bef : List Int → List Int → Bool
  | a :: l, b :: r => if a = b then bef l r else decide (a < b)
  | _, _ => false
/-- What a choice of words comes to. -/
def ChF (m : Int) (P : List Int → Bool) (l : List Int) (lo : Int) (k : Nat) : Option (List Int) → Prop
  | none => ∀ c, okC m lo c → c.length = k → P (l ++ c) = false
  | some x => ∃ c, okC m lo c ∧ c.length = k ∧ x = l ++ c ∧ P x = true ∧ ∀ c', okC m lo c' → c'.length = k → P (l ++ c') = true → bef c' c = false
theorem ChF.step {m : Int} {P : List Int → Bool} {l : List Int} {w : Int} {k : Nat} {r : Option (List Int)} (h1 : ∀ c, okC m (w + 1) c → c.length = k → P ((l ++ [w]) ++ c) = false) (h2 : ChF m P l (w + 1) (k + 1) r) : ChF m P l w (k + 1) r := by
  have key : ∀ c, okC m w c → c.length = k + 1 → P (l ++ c) = true → okC m (w + 1) c := by
    intro c hc hl hp
    cases c with
    | nil => simp at hl
    | cons a c =>
      obtain ⟨⟨a1, a2⟩, a3⟩ := hc
      by_cases e : a = w
      · subst e
        have := h1 c a3 (by simpa using hl)
        rw [List.append_assoc, List.singleton_append, hp] at this
        cases this
      · exact ⟨⟨by omega, a2⟩, a3⟩
  cases r with
  | none =>
    intro c hc hl
    cases hp : P (l ++ c)
    · rfl
    · rw [← hp]; exact h2 c (key c hc hl hp) hl
  | some x =>
    obtain ⟨c, c1, c2, c3, c4, c5⟩ := h2
    exact ⟨c, okC_mono (by omega) c1, c2, c3, c4, fun c' d1 d2 d3 => c5 c' (key c' d1 d2 d3) d2 d3⟩
theorem ChF.found {m : Int} {P : List Int → Bool} {l : List Int} {w : Int} {k : Nat} {x : List Int} (hw : w < m) (h : ChF m P (l ++ [w]) (w + 1) k (some x)) : ChF m P l w (k + 1) (some x) := by
  obtain ⟨c, c1, c2, c3, c4, c5⟩ := h
  refine ⟨w :: c, ⟨⟨by omega, hw⟩, c1⟩, by simp [c2], by simp [c3], c4, fun c' d1 d2 d3 => ?_⟩
  cases c' with
  | nil => rfl
  | cons a c' =>
    obtain ⟨⟨a1, a2⟩, a3⟩ := d1
    unfold bef
    by_cases e : a = w
    · subst e
      rw [if_pos rfl]
      exact c5 c' a3 (by simpa using d2) (by simpa using d3)
    · rw [if_neg e, decide_eq_false (by omega)]
section
variable {N : Nat} {ws : List Wd} {ts : List Tn} {br_ : Int}
variable (hN : 110 ≤ N) (hF : TFine ws ts br_)
include hN hF
/-- What is told as the fewest words. -/
def LeastW (m : Int) (P : List Int → Bool) (l : List Int) : Prop := okC m 0 l ∧ l ≠ [] ∧ P l = true ∧ ∀ c, okC m 0 c → c ≠ [] → P c = true → l.length < c.length ∨ l.length = c.length ∧ bef c l = false
omit hN hF
end
/-! ### Words that can be left out -/
section
variable {N : Nat} {ws : List Wd} {ts : List Tn} {br_ : Int} (hN : 110 ≤ N) (hF : TFine ws ts br_)
include hN hF
omit hN hF
include hN hF
omit hN hF
end
end Go.Proofs.Ytfamlpbdhhikdaa

namespace Go.Proofs.Ytfamlpbdhhikdaa
set_option linter.all false
open Go

/-! ### Which list comes ahead -/
theorem bef_self : ∀ l : List Int, bef l l = false
  | [] => rfl
  | a :: l => by unfold bef; rw [if_pos rfl, bef_self l]
theorem bef_trans : ∀ {a b c : List Int}, bef a b = true → bef b c = true → bef a c = true
  | [], _, _, h, _ => by simp [bef] at h
  | _ :: _, [], _, h, _ => by simp [bef] at h
  | _ :: _, _ :: _, [], _, h => by simp [bef] at h
  | x :: a, y :: b, z :: c, h1, h2 => by
    unfold bef at h1 h2 ⊢
    by_cases e : x = y
    · subst e
      rw [if_pos rfl] at h1
      by_cases e2 : x = z
      · subst e2
        rw [if_pos rfl] at h2 ⊢
        exact bef_trans h1 h2
      · rw [if_neg e2] at h2 ⊢; exact h2
    · rw [if_neg e, decide_eq_true_eq] at h1
      by_cases e2 : y = z
      · subst e2
        rw [if_neg e, decide_eq_true_eq]; exact h1
      · rw [if_neg e2, decide_eq_true_eq] at h2
        rw [if_neg (by omega), decide_eq_true_eq]; omega
def prec (a b : List Int) : Prop := a.length < b.length ∨ a.length = b.length ∧ bef a b = true
theorem prec_trans {a b c : List Int} : prec a b → prec b c → prec a c := by
  rintro (h | ⟨h, h2⟩) (g | ⟨g, g2⟩)
  · exact .inl (by omega)
  · exact .inl (by omega)
  · exact .inl (by omega)
  · exact .inr ⟨by omega, bef_trans h2 g2⟩
theorem prec_self (l : List Int) : ¬ prec l l := by
  rintro (h | ⟨_, h⟩)
  · omega
  · rw [bef_self] at h; cases h
/-! ### Lists that numbers say -/
def lst : Nat → Int → Nat → List Int
  | 0, _, _ => []
  | k + 1, w, n => (if n % 2 = 1 then [w] else []) ++ lst k (w + 1) (n / 2)
theorem lst_zero : ∀ (k : Nat) (w : Int), lst k w 0 = []
  | 0, _ => rfl
  | k + 1, w => by unfold lst; rw [if_neg (by decide), List.nil_append, Nat.zero_div, lst_zero k]
theorem lst_ok : ∀ (k : Nat) (w : Int) (n : Nat), okC (w + k) w (lst k w n)
  | 0, _, _ => trivial
  | k + 1, w, n => by
    have := lst_ok k (w + 1) (n / 2)
    rw [show w + 1 + (k : Int) = w + ((k + 1 : Nat) : Int) by omega] at this
    unfold lst
    split
    · exact ⟨by omega, this⟩
    · exact okC_mono (by omega) this
theorem lst_all : ∀ (k : Nat) (w : Int) (c : List Int), okC (w + k) w c → ∃ n, n < 2 ^ k ∧ lst k w n = c
  | 0, w, c, h => by
    cases c with
    | nil => exact ⟨0, by decide, rfl⟩
    | cons a r => have := h.1; omega
  | k + 1, w, c, h => by
    have hp : 2 ^ (k + 1) = 2 * 2 ^ k := by rw [Nat.pow_succ]; omega
    have e : w + ((k + 1 : Nat) : Int) = w + 1 + (k : Int) := by omega
    rw [e] at h
    by_cases d : ∃ r, c = w :: r
    · obtain ⟨r, rfl⟩ := d
      obtain ⟨n, h1, h2⟩ := lst_all k (w + 1) r h.2
      refine ⟨2 * n + 1, by omega, ?_⟩
      unfold lst
      rw [if_pos (by omega), show (2 * n + 1) / 2 = n by omega, h2]; rfl
    · have h' : okC (w + 1 + (k : Int)) (w + 1) c := by
        cases c with
        | nil => trivial
        | cons a r =>
          have : a ≠ w := fun ha => d ⟨r, by rw [ha]⟩
          obtain ⟨⟨h1, h2⟩, h3⟩ := h
          exact ⟨⟨by omega, h2⟩, h3⟩
      obtain ⟨n, h1, h2⟩ := lst_all k (w + 1) c h'
      refine ⟨2 * n, by omega, ?_⟩
      unfold lst
      rw [if_neg (by omega), show (2 * n) / 2 = n by omega, h2]; rfl
theorem lst_ne {k : Nat} {w : Int} {n : Nat} (h : n < 2 ^ k) (h0 : n ≠ 0) : lst k w n ≠ [] := by
  induction k generalizing w n with
  | zero => simp at h; omega
  | succ k ih =>
    have hp : 2 ^ (k + 1) = 2 * 2 ^ k := by rw [Nat.pow_succ]; omega
    unfold lst
    split
    · simp
    · rw [List.nil_append]
      exact ih (by omega) (by omega)
section
variable {N : Nat} {ws : List Wd} {ts : List Tn} {br_ : Int}
/-- The best of the lists that were looked at. -/
def BestI (m : Nat) (P : List Int → Bool) (k : Nat) (best : List Int) : Prop :=
  best = [] ∧ (∀ i, 1 ≤ i → i < k → P (lst m 0 i) = false) ∨ (okC m 0 best ∧ best ≠ [] ∧ P best = true) ∧ ∀ i, 1 ≤ i → i < k → P (lst m 0 i) = true → ¬ prec (lst m 0 i) best
theorem BestI.skip {m : Nat} {P : List Int → Bool} {k : Nat} {best : List Int} (h : BestI m P k best) (hp : P (lst m 0 k) = false) : BestI m P (k + 1) best := by
  rcases h with ⟨h1, h2⟩ | ⟨h1, h2⟩
  · refine .inl ⟨h1, fun i a b => ?_⟩
    by_cases e : i = k
    · rw [e]; exact hp
    · exact h2 i a (by omega)
  · refine .inr ⟨h1, fun i a b c => ?_⟩
    by_cases e : i = k
    · rw [e, hp] at c; cases c
    · exact h2 i a (by omega) c
theorem BestI.keep {m : Nat} {P : List Int → Bool} {k : Nat} {best : List Int} (h : BestI m P k best) (hb : best ≠ []) (hp : ¬ prec (lst m 0 k) best) : BestI m P (k + 1) best := by
  rcases h with ⟨h1, h2⟩ | ⟨h1, h2⟩
  · exact absurd h1 hb
  · refine .inr ⟨h1, fun i a b c => ?_⟩
    by_cases e : i = k
    · rw [e]; exact hp
    · exact h2 i a (by omega) c
theorem BestI.take {m : Nat} {P : List Int → Bool} {k : Nat} {best : List Int} (h : BestI m P k best) (hk : 1 ≤ k ∧ k < 2 ^ m) (hp : P (lst m 0 k) = true) (hb : best = [] ∨ prec (lst m 0 k) best) : BestI m P (k + 1) (lst m 0 k) := by
  have ho := lst_ok m 0 k
  rw [Int.zero_add] at ho
  refine .inr ⟨⟨ho, lst_ne hk.2 (by omega), hp⟩, fun i a b c => ?_⟩
  by_cases e : i = k
  · rw [e]; exact prec_self _
  · rcases h with ⟨h1, h2⟩ | ⟨h1, h2⟩
    · rw [h2 i a (by omega)] at c; cases c
    · rcases hb with hb | hb
      · exact absurd hb h1.2.1
      · exact fun hpr => h2 i a (by omega) c (prec_trans hpr hb)
theorem BestI.done {m : Nat} {P : List Int → Bool} {best : List Int} (h : BestI m P (2 ^ m) best) : best ≠ [] ∧ LeastW m P best ∨ best = [] ∧ ∀ c, okC m 0 c → c ≠ [] → P c = false := by
  have key : ∀ c, okC (m : Int) 0 c → c ≠ [] → ∃ i, 1 ≤ i ∧ i < 2 ^ m ∧ lst m 0 i = c := by
    intro c hc hn
    obtain ⟨n, h1, h2⟩ := lst_all m 0 c (by rw [Int.zero_add]; exact hc)
    refine ⟨n, ?_, h1, h2⟩
    rcases Nat.eq_zero_or_pos n with e | e
    · subst e; rw [lst_zero] at h2; exact absurd h2.symm hn
    · exact e
  rcases h with ⟨h1, h2⟩ | ⟨⟨h1, h3, h4⟩, h2⟩
  · refine .inr ⟨h1, fun c hc hn => ?_⟩
    obtain ⟨i, a, b, rfl⟩ := key c hc hn
    exact h2 i a b
  · refine .inl ⟨h3, h1, h3, h4, fun c hc hn hp => ?_⟩
    obtain ⟨i, a, b, rfl⟩ := key c hc hn
    have := h2 i a b hp
    unfold prec at this
    rcases Nat.lt_trichotomy best.length (lst m 0 i).length with e | e | e
    · exact .inl e
    · refine .inr ⟨e, ?_⟩
      cases hb : bef (lst m 0 i) best
      · rfl
      · exact absurd (.inr ⟨e.symm, hb⟩) this
    · exact absurd (.inl e) this
variable (hN : 110 ≤ N) (hF : TFine ws ts br_)
include hN hF
omit hN hF
end
end Go.Proofs.Ytfamlpbdhhikdaa

namespace Go.Proofs.Ytfamlpbdhhikdaa
set_option linter.all false
open Go

/-! ### All words -/
/-! ### Words of words -/
def pick (l k : List Int) : List Int := k.map fun i => l.getD i.toNat 0
section
variable {ws : List Wd} {ts : List Tn} {br_ : Int} {l : List Int} (hl : ascB l = true) (hw : inW ws l)
include hl hw
omit hw
omit hl
include hl
omit hl
end
end Go.Proofs.Ytfamlpbdhhikdaa

namespace Go.Proofs.Ytfamlpbdhhikdaa
set_option linter.all false
open Go

end Go.Proofs.Ytfamlpbdhhikdaa

namespace Go.Proofs.Ytfamlpbdhhikdaa
set_option linter.all false
open Go

section
variable {N : Nat} {ws : List Wd} {ts : List Tn} {br_ : Int} (hN : 110 ≤ N) {b : List Int}
include hN
omit hN
end
theorem u8_in {p : Int} (h : Ty.inB (.int .u8) p) : 0 ≤ p ∧ p < 256 := by
  have h' : inR .u8 p := h
  unfold inR at h'
  have a : IntKind.u8.min = 0 := by decide
  have b : IntKind.u8.max = 255 := by decide
  omega
end Go.Proofs.Ytfamlpbdhhikdaa

namespace Go.Proofs.Ytfamlpbdhhikdaa
set_option linter.all false
open Go Go.Proofs

shelf_lay Lays2.n23 Nm2 23 at Try as layDel

theorem Fn.ofCalls {P : Program} {f : FuncId} {args : Array Value} {w : World} {R : Ending → World → Prop} {R' : Value → World → Prop} (h : Calls P f args w R) (hr : ∀ e w', R e w' → ∃ v, e = .returned v ∧ R' v w') : Fn P f args w R' := by
  intro cs
  obtain ⟨e, w', fr, r, s, x⟩ := h cs
  obtain ⟨v, rfl, r'⟩ := hr e w' r
  exact ⟨v, w', fr, r', s, x⟩
theorem RepL_int {M : Nat → Option Obj} {k : IntKind} : ∀ (l : List Int) (vs : List Value), RepL M (.int k) l vs → vs = l.map (.int k) ∧ ∀ x ∈ l, inR k x
  | [], vs, h => ⟨h, fun _ h => by cases h⟩
  | x :: l, vs, h => by
    obtain ⟨v1, v2, rfl, ⟨rfl, h1⟩, h2⟩ := h
    obtain ⟨rfl, h3⟩ := RepL_int l v2 h2
    refine ⟨rfl, fun y hy => ?_⟩
    rcases List.mem_cons.1 hy with rfl | hy
    · exact h1
    · exact h3 y hy
theorem RepL_int_mk {M : Nat → Option Obj} {k : IntKind} : ∀ (l : List Int), (∀ x ∈ l, inR k x) → RepL M (.int k) l (l.map (.int k))
  | [], _ => rfl
  | x :: l, h => ⟨[.int k x], l.map (.int k), rfl, ⟨rfl, h x (by simp)⟩, RepL_int_mk l (fun y hy => h y (by simp [hy]))⟩
theorem putCells_lst (enc : Int → Value) (d : List Int) (vs rest : List Value) (h : vs.length = d.length) : «Sort».putCells enc 0 d.toArray (vs ++ rest).toArray = (d.map enc ++ rest).toArray := by
  apply Array.ext_getElem?
  intro k
  simp only [«Sort».putCells, Array.getElem?_mapIdx, List.getElem?_toArray]
  by_cases c : k < d.length
  · rw [List.getElem?_append_left (by omega), List.getElem?_append_left (by simpa using c), List.getElem?_eq_getElem (by omega), List.getElem?_map, List.getElem?_eq_getElem c]
    simp [c]
  · rw [List.getElem?_append_right (by omega), List.getElem?_append_right (by simp; omega), List.length_map, h]
    cases rest[k - d.length]? with
    | none => rfl
    | some v => simp [c]
def delete_S (_N : Nat) (i j : Int) (l : List Int) : Option (List Int) := if 0 ≤ i ∧ i ≤ j ∧ j ≤ l.length ∧ 0 < l.length then some (l.take i.toNat ++ l.drop j.toNat) else none
noncomputable def sp_delete (N : Nat) : Spec := { f := 73, ins := ⟨[.ols 0, .i .i64, .i .i64], [.lst (.int .i64)]⟩, outs := [⟨[.ols 1], [.dead, .lst (.int .i64)]⟩], run := fun p k => (delete_S N p.1.2.1 p.1.2.2.1 p.2.1).bind fun r => k (((), ()), ((), r, ())) }
/-- An own list is written in place. -/
theorem Sim.inPlace {g : Gh} {w w' : World} {l l' : List Int} {b c n : Nat} {vs rest rest' : List Value} {ty : TypeId} {h0 : Nat → Option Blk'} (hs : Sim g h0 w) (hh : ∀ i k, h0 i = some k → i = 0) (h00 : h0 0 = some (.lst (.int .i64) l)) (he : g.ρ 0 = some (some (b, c, n))) (h1 : g.ρ 1 = none) (hM : g.M b = none) (hb : w.heap[b]? = some (.cells (vs ++ rest).toArray ty (0, 0)))
    (hos : w'.os = w.os) (htp : w'.tape = w.tape) (hout : w'.output = w.output) (hsz : w.heap.size ≤ w'.heap.size) (hsame : ∀ i, i < w.heap.size → i ≠ b → w'.heap[i]? = w.heap[i]?) (hb' : w'.heap[b]? = some (.cells ((l'.map (Value.int .i64)) ++ rest').toArray ty (0, 0))) (hr : ∀ x ∈ l', inR .i64 x) (hl : l'.length ≤ 1000000) (hc : l'.length ≤ c ∧ c ≤ 9223372036854775807) (hrl : rest'.length = c - l'.length) :
    ∃ g', Stp (Sw g h0 (List.range 1)) (fun i => 1 ≤ i ∧ i < 2) g w g' w' ∧ Sim g' (fun i => ([.dead, .lst (.int .i64) l'] : List Blk')[i]?) w' ∧ RepV g' (.ols 1) (.slice (some ⟨b, 0, none⟩) l'.length c) := by
  have hSw : Sw g h0 (List.range 1) b := ⟨0, by simp, _, c, n, h00, rfl, he⟩
  refine ⟨newG g 1 (some (b, c, l'.length)), ⟨hos, htp, hout, hsz, fun i hi hn => ?_, newG_ge h1, fun i h2 h3 => ?_, fun i b' c' n' h2 h3 => ?_, fun b' o h2 => .inl h2⟩, ⟨fun b' o h2 => ?_, fun i k hk => ?_, fun i j ki kj b' ci ni cj nj hi hj mi mj ei ej => ?_⟩, .inr ⟨b, c, l'.length, newG_self _ _ _, rfl⟩⟩
  · exact hsame i hi (fun e => hn (e ▸ hSw))
  · by_cases e : i = 1
    · omega
    · simp only [newG, if_neg e] at h3
      exact absurd h2 h3
  · by_cases e : i = 1
    · subst e
      rw [newG_self] at h3
      simp only [Option.some.injEq, Prod.mk.injEq] at h3
      exact .inr (h3.1 ▸ hSw)
    · simp only [newG, if_neg e] at h3
      rw [h2] at h3; cases h3
  · have h2' : g.M b' = some o := h2
    have hbb := hs.mem b' o h2'
    rw [hsame b' (lt_of_blk hbb) (fun e => by rw [e, hM] at h2'; cases h2')]
    exact hbb
  · match i, hk with
    | 0, hk => simp at hk; subst hk; trivial
    | 1, hk =>
      simp at hk; subst hk
      refine ⟨hl, .inr ⟨b, c, l'.map (Value.int .i64), rest', ty, newG_self _ _ _, hb', RepL_int_mk l' hr, hc, ?_, hM⟩⟩
      simp [Ty.cells, hrl]
    | i + 2, hk => simp at hk
  · match i, j, hi, hj with
    | 0, _, hi, _ => simp at hi; subst hi; cases mi
    | _, 0, _, hj => simp at hj; subst hj; cases mj
    | 1, 1, _, _ => rfl
    | i + 2, _, hi, _ => simp at hi
    | _, j + 2, _, hj => simp at hj
theorem sp_delete_ok (N : Nat) : SpecOK Try.prog (sp_delete N) := by
  refine ⟨fun Z p κ => ?_, fun args w => Sem.pv_run _ _ _ (by kernel_rfl) w, fun p r hpr g w vs hv hs hρ => ?_⟩
  · show ((delete_S N _ _ _).bind _) = ((delete_S N _ _ _).bind _).bind κ
    cases delete_S N _ _ _ <;> rfl
  · obtain ⟨⟨⟨⟩, (i : Int), (j : Int), ⟨⟩⟩, (l : List Int), ⟨⟩⟩ := p
    have hpr' : ((delete_S N i j l).bind fun r => some (((), ()), ((), r, ()))) = some r := hpr
    unfold delete_S at hpr'
    split at hpr'
    rotate_left
    · cases hpr'
    rename_i hc
    simp only [Option.bind_some] at hpr'
    cases hpr'
    obtain ⟨hi0, hij, hjl, hl0⟩ := hc
    -- the arguments
    simp only [encs, enc, RepVs] at hv
    obtain ⟨v0, us, rfl, h0, v1, us1, rfl, h1, v2, us2, rfl, h2, rfl⟩ := hv
    simp only [RepV] at h0 h1 h2
    obtain ⟨rfl, hi1⟩ := h1
    obtain ⟨rfl, hj1⟩ := h2
    have hB := hs.blk 0 (.lst (.int .i64) l) rfl
    obtain ⟨hlen, hB⟩ := hB
    rcases hB with ⟨_, e⟩ | ⟨b, c, cs, rest, ty, e0, hb, hL, hcap, hrest, hM⟩
    · rw [e] at hl0; simp at hl0
    rcases h0 with ⟨e, _⟩ | ⟨b2, c2, n2, e, rfl⟩
    · simp only [id] at e; rw [e0] at e; cases e
    simp only [id] at e
    rw [e0] at e
    simp only [Option.some.injEq, Prod.mk.injEq] at e
    obtain ⟨rfl, rfl, rfl⟩ := e
    obtain ⟨rfl, hr⟩ := RepL_int l cs hL
    obtain ⟨i, rfl⟩ : ∃ k : Nat, i = k := ⟨i.toNat, by omega⟩
    obtain ⟨j, rfl⟩ : ∃ k : Nat, j = k := ⟨j.toNat, by omega⟩
    simp only [Int.toNat_natCast] at *
    have hholds : «Sort».Holds (Value.int .i64) w b 0 l.toArray := by
      intro k hk
      simp only [List.size_toArray] at hk
      have hcell : (l.map (Value.int .i64) ++ rest)[k]? = some (.int .i64 l[k]!) := by
        rw [List.getElem?_append_left (by simpa using hk), List.getElem?_map, List.getElem?_eq_getElem hk]
        simp [hk]
      refine ⟨?_, ?_⟩
      · unfold World.cell?
        rw [hb]
        simpa using hcell
      · unfold World.frozen?
        rw [hb]
        simp
    have hC := Any.slices_Delete_int layDel b 0 c i j l w hholds hcap.1 hcap.2 (by omega) (by omega)
    refine Fn.ofCalls hC (fun e w' he => ?_)
    obtain ⟨rfl, q, hw⟩ := he
    refine ⟨_, rfl, ?_⟩
    have hsz : (l.take i ++ l.drop j).length = l.length - (j - i) := by simp; omega
    have hheap : w'.heap = w.heap.modify b («Sort».onCells («Sort».putCells (Value.int .i64) 0 (l.take i ++ l.drop j ++ List.replicate (j - i) 0).toArray)) := by rw [hw]; rfl
    have hb' : w'.heap[b]? = some (.cells (((l.take i ++ l.drop j).map (Value.int .i64)) ++ ((List.replicate (j - i) (0 : Int)).map (Value.int .i64) ++ rest)).toArray ty (0, 0)) := by
      rw [hheap, Array.getElem?_modify, if_pos rfl, hb]
      simp only [Option.map_some, «Sort».onCells]
      rw [putCells_lst _ _ _ _ (by simp; omega), List.map_append, List.append_assoc]
    obtain ⟨g', st, hs', hv'⟩ := Sim.inPlace (l' := l.take i ++ l.drop j) (w' := w') hs (fun i k hk => by
      match i, hk with
      | 0, _ => rfl
      | i + 1, hk =>
        have hk' : ([.lst (.int .i64) l] : List Blk')[i + 1]? = some k := hk
        simp at hk') rfl e0 (hρ 1 (Nat.le_refl 1)) hM hb (by rw [hw]; rfl) (by rw [hw]; rfl) (by rw [hw]; rfl) (by rw [hheap]; simp) (fun k hk hne => by rw [hheap, Array.getElem?_modify, if_neg (fun h => hne h.symm)]) hb' (fun x hx => by
        rcases List.mem_append.1 hx with hx | hx
        · exact hr x (List.mem_of_mem_take hx)
        · exact hr x (List.mem_of_mem_drop hx)) (by omega) (by omega) (by simp [Ty.cells] at hrest ⊢; omega)
    refine ⟨g', st, hs', ?_⟩
    rw [hsz] at hv'
    exact hv'
end Go.Proofs.Ytfamlpbdhhikdaa

namespace Go.Proofs.Ytfamlpbdhhikdaa
set_option linter.all false
open Go

end Go.Proofs.Ytfamlpbdhhikdaa

namespace Go.Proofs.Ytfamlpbdhhikdaa
set_option linter.all false
open Go

section
variable {N : Nat}
variable {ws : List Wd} {ts : List Tn} {br_ : Int} {b : List Int}
/-! ### To leave out one word -/
/-! ### The rounds -/
end
end Go.Proofs.Ytfamlpbdhhikdaa

namespace Go.Proofs.Ytfamlpbdhhikdaa
set_option linter.all false
open Go

end Go.Proofs.Ytfamlpbdhhikdaa

namespace Go.Proofs.Ytfamlpbdhhikdaa
set_option linter.all false
open Go

/-- Two words lie in the same right breath. -/
def Jn (R : Nat → Nat → Bool) (m : Nat) (x y : Nat) : Prop := ∃ f t, f ≤ x ∧ x < y ∧ y < t ∧ t ≤ m ∧ R f t = true
/-- What a table of pairs says. -/
def Jt (J : List Bool) (P : Nat → Nat → Prop) : Prop := J.length = 144 ∧ ∀ a b, a < 12 → b < 12 → (J.getD (a * 12 + b) false = true ↔ P a b)
theorem Jt.mono {J : List Bool} {P Q : Nat → Nat → Prop} (h : Jt J P) (hpq : ∀ a b, a < 12 → b < 12 → (P a b ↔ Q a b)) : Jt J Q := ⟨h.1, fun a b x y => (h.2 a b x y).trans (hpq a b x y)⟩
theorem Jt.set {J : List Bool} {P : Nat → Nat → Prop} (h : Jt J P) {a b : Nat} (ha : a < 12) (hb : b < 12) : Jt (J.set (a * 12 + b) true) (fun x y => P x y ∨ x = a ∧ y = b) := by
  refine ⟨by rw [List.length_set]; exact h.1, fun x y hx hy => ?_⟩
  have hl := h.1
  rw [getD_set' (by omega)]
  by_cases e : a * 12 + b = x * 12 + y
  · have e1 : x = a := by omega
    have e2 : y = b := by omega
    simp [e1, e2]
  · rw [if_neg e, h.2 x y hx hy]
    constructor
    · exact fun h => .inl h
    · rintro (h | ⟨h1, h2⟩)
      · exact h
      · exact absurd (by rw [h1, h2]) e
section
variable {N : Nat} {ws : List Wd} {ts : List Tn} {br_ : Int}
variable (hN : 110 ≤ N) (hF : TFine ws ts br_)
include hN hF
end
/-! ### Lists of words, no two of which are joined -/
/-- What the search comes to: of lists that go on from one, a longer one, the first of the longest ones. -/
def LnF (m : Int) (V : List Int → Prop) (e0 : Bool) (l : List Int) (lo : Int) (g g' : List Int) : Prop :=
  (g' = g ∨ g.length < g'.length ∧ ∃ c, okC m lo c ∧ (e0 = true → c ≠ []) ∧ g' = l ++ c ∧ V g') ∧ g.length ≤ g'.length ∧
  ∀ c, okC m lo c → (e0 = true → c ≠ []) → V (l ++ c) → (l ++ c).length ≤ g'.length ∧ (g.length < (l ++ c).length → (l ++ c).length = g'.length → bef (l ++ c) g' = false)
theorem bef_app (l : List Int) (a b : List Int) : bef (l ++ a) (l ++ b) = bef a b := by
  induction l with
  | nil => rfl
  | cons x l ih =>
    show (if x = x then bef (l ++ a) (l ++ b) else decide (x < x)) = _
    rw [if_pos rfl, ih]
theorem LnF.none {m : Int} {V : List Int → Prop} {l : List Int} {w : Int} {g : List Int} (h : m ≤ w) : LnF m V true l w g g := by
  refine ⟨.inl rfl, Nat.le_refl _, fun c hc hn => ?_⟩
  have := okC_len hc (hn rfl)
  have : c.length = 0 := by omega
  exact absurd (List.eq_nil_of_length_eq_zero this) (hn rfl)
theorem LnF.skip {m : Int} {V : List Int → Prop} {l : List Int} {w : Int} {g g' : List Int} (hV : ∀ r, ¬ V (l ++ w :: r)) (h : LnF m V true l (w + 1) g g') : LnF m V true l w g g' := by
  obtain ⟨h1, h2, h3⟩ := h
  refine ⟨?_, h2, fun c hc hn hv => ?_⟩
  · rcases h1 with h1 | ⟨h1, c, c1, c2⟩
    · exact .inl h1
    · exact .inr ⟨h1, c, okC_mono (by omega) c1, c2⟩
  · cases c with
    | nil => exact absurd rfl (hn rfl)
    | cons a r =>
      obtain ⟨⟨a1, a2⟩, a3⟩ := hc
      by_cases e : a = w
      · subst e; exact absurd hv (hV r)
      · exact h3 (a :: r) ⟨⟨by omega, a2⟩, a3⟩ hn hv
theorem LnF.step {m : Int} {V : List Int → Prop} {l : List Int} {w : Int} {g g1 g' : List Int} (hw : w < m) (h : LnF m V false (l ++ [w]) (w + 1) g g1) (h' : LnF m V true l (w + 1) g1 g') : LnF m V true l w g g' := by
  obtain ⟨h1, h2, h3⟩ := h
  obtain ⟨k1, k2, k3⟩ := h'
  have e1 : ∀ r, l ++ [w] ++ r = l ++ w :: r := fun r => by simp
  refine ⟨?_, by omega, fun c hc hn hv => ?_⟩
  · rcases k1 with rfl | ⟨k1, c, c1, c2⟩
    · rcases h1 with rfl | ⟨h1, c, c1, _, c3⟩
      · exact .inl rfl
      · exact .inr ⟨h1, w :: c, ⟨⟨by omega, hw⟩, c1⟩, fun _ => by simp, by rw [← e1]; exact c3.1, c3.2⟩
    · exact .inr ⟨by omega, c, okC_mono (by omega) c1, c2⟩
  · cases c with
    | nil => exact absurd rfl (hn rfl)
    | cons a r =>
      obtain ⟨⟨a1, a2⟩, a3⟩ := hc
      by_cases e : a = w
      · subst e
        have := h3 r a3 (fun h => by cases h) (by rw [e1]; exact hv)
        rw [e1] at this
        refine ⟨by omega, fun q1 q2 => ?_⟩
        have hgl : g1.length = g'.length := by omega
        rcases k1 with rfl | ⟨k1, _⟩
        · exact this.2 q1 (by omega)
        · omega
      · have := k3 (a :: r) ⟨⟨by omega, a2⟩, a3⟩ (fun _ => by simp) hv
        refine ⟨this.1, fun q1 q2 => ?_⟩
        by_cases d : g1.length < (l ++ a :: r).length
        · exact this.2 d q2
        · rcases k1 with rfl | ⟨k1, _⟩
          · rcases h1 with rfl | ⟨_, c, _, _, c3, _⟩
            · omega
            · rw [c3, e1, bef_app]
              unfold bef
              rw [if_neg e, decide_eq_false (by omega)]
          · omega
section
variable {N : Nat} {ws : List Wd} {ts : List Tn} {br_ : Int}
variable (hN : 110 ≤ N) (hF : TFine ws ts br_)
include hN hF
/-- As many words as can be, no two of which are joined: of such lists the first one. -/
def LoneW (m : Nat) (R : Nat → Nat → Bool) (l : List Int) : Prop :=
  okC m 0 l ∧ l.Pairwise (fun a b => ¬ Jn R m a.toNat b.toNat) ∧ ∀ c, okC m 0 c → c.Pairwise (fun a b => ¬ Jn R m a.toNat b.toNat) → c.length ≤ l.length ∧ (c.length = l.length → bef c l = false)
end
end Go.Proofs.Ytfamlpbdhhikdaa

namespace Go.Proofs.Ytfamlpbdhhikdaa
set_option linter.all false
open Go

/-! ### The reference's lone words -/
section
variable {N : Nat} {ws : List Wd} {ts : List Tn} {br_ : Int}
variable (hN : 110 ≤ N) (hF : TFine ws ts br_)
include hN hF
omit hN hF
/-- Longer, or as long and ahead. -/
def betr (a b : List Int) : Prop := b.length < a.length ∨ a.length = b.length ∧ bef a b = true
theorem betr_trans {a b c : List Int} : betr a b → betr b c → betr a c := by
  rintro (h | ⟨h, h2⟩) (g | ⟨g, g2⟩)
  · exact .inl (by omega)
  · exact .inl (by omega)
  · exact .inl (by omega)
  · exact .inr ⟨by omega, bef_trans h2 g2⟩
theorem betr_self (l : List Int) : ¬ betr l l := by
  rintro (h | ⟨_, h⟩)
  · omega
  · rw [bef_self] at h; cases h
def BestL (m : Nat) (R : Nat → Nat → Bool) (k : Nat) (best : List Int) : Prop :=
  (okC m 0 best ∧ best.Pairwise (fun a b => ¬ Jn R m a.toNat b.toNat)) ∧ ∀ i, i < k → (lst m 0 i).Pairwise (fun a b => ¬ Jn R m a.toNat b.toNat) → ¬ betr (lst m 0 i) best
theorem BestL.skip {m : Nat} {R : Nat → Nat → Bool} {k : Nat} {best : List Int} (h : BestL m R k best) (hp : (lst m 0 k).Pairwise (fun a b => ¬ Jn R m a.toNat b.toNat) → ¬ betr (lst m 0 k) best) : BestL m R (k + 1) best :=
  ⟨h.1, fun i a b => by
    by_cases e : i = k
    · rw [e] at b ⊢; exact hp b
    · exact h.2 i (by omega) b⟩
theorem BestL.take {m : Nat} {R : Nat → Nat → Bool} {k : Nat} {best : List Int} (h : BestL m R k best) (hp : (lst m 0 k).Pairwise (fun a b => ¬ Jn R m a.toNat b.toNat)) (hb : betr (lst m 0 k) best) : BestL m R (k + 1) (lst m 0 k) := by
  have ho := lst_ok m 0 k
  rw [Int.zero_add] at ho
  refine ⟨⟨ho, hp⟩, fun i a b c => ?_⟩
  by_cases e : i = k
  · rw [e] at c; exact betr_self _ c
  · exact h.2 i (by omega) b (betr_trans c hb)
theorem BestL.done {m : Nat} {R : Nat → Nat → Bool} {best : List Int} (h : BestL m R (2 ^ m) best) : LoneW m R best := by
  refine ⟨h.1.1, h.1.2, fun c hc hp => ?_⟩
  obtain ⟨n, h1, rfl⟩ := lst_all m 0 c (by rw [Int.zero_add]; exact hc)
  have := h.2 n h1 hp
  unfold betr at this
  refine ⟨?_, fun e => ?_⟩
  · rcases Nat.lt_or_ge best.length (lst m 0 n).length with d | d
    · exact absurd (.inl d) this
    · exact d
  · cases hb : bef (lst m 0 n) best
    · rfl
    · exact absurd (.inr ⟨e, hb⟩) this
include hN hF
/-! ### The reference's marks -/
end
end Go.Proofs.Ytfamlpbdhhikdaa

namespace Go.Proofs.Ytfamlpbdhhikdaa
set_option linter.all false
open Go

/-! ### As many words as breaths -/
section
variable {R : Nat → Nat → Bool} {m : Nat}
end
section
variable {N : Nat} {ws : List Wd} {ts : List Tn} {br_ : Int}
variable (hN : 110 ≤ N) (hF : TFine ws ts br_)
include hN hF
end
end Go.Proofs.Ytfamlpbdhhikdaa

namespace Go.Proofs.Ytfamlpbdhhikdaa
set_option linter.all false
open Go

end Go.Proofs.Ytfamlpbdhhikdaa

namespace Go.Proofs.Ytfamlpbdhhikdaa
set_option linter.all false
open Go

section
variable {R : Nat → Nat → Bool} {m : Nat}
end
section
variable {N : Nat} {ws : List Wd} {ts : List Tn} {br_ : Int}
variable (hN : 110 ≤ N) (hF : TFine ws ts br_)
include hN hF
theorem nvK_mem {R : Nat → Nat → Bool} {m k q : Nat} : (nvK R m k).contains (q : Int) = (decide (q < k) && !brkB R m q) := by
  rw [Bool.eq_iff_iff, List.contains_iff_mem]
  unfold nvK
  simp only [List.mem_map, List.mem_filter, List.mem_range, Bool.and_eq_true, decide_eq_true_eq]
  constructor
  · rintro ⟨a, ⟨h1, h2⟩, h3⟩
    obtain rfl : a = q := by omega
    exact ⟨h1, h2⟩
  · rintro ⟨h1, h2⟩; exact ⟨q, ⟨h1, h2⟩, rfl⟩
end
end Go.Proofs.Ytfamlpbdhhikdaa

namespace Go.Proofs.Ytfamlpbdhhikdaa
set_option linter.all false
open Go

section
variable {R R' : Nat → Nat → Bool} {m : Nat}
theorem good_more (h : ∀ a b, R a b = true → R' a b = true) : ∀ {l : List Int} {p : Nat}, goodB R m p l = true → goodB R' m p l = true
  | [], _, hl => hl
  | x :: l, p, hl => by
    obtain ⟨h1, h2, h3⟩ := good_cons.1 hl
    exact good_cons.2 ⟨h1, h _ _ h2, good_more h h3⟩
theorem nodup_goods : ∀ (n a : Nat), (goods R m n a).Nodup
  | 0, a => by unfold goods; split <;> simp
  | n + 1, a => by
    unfold goods
    split
    · simp
    · unfold List.Nodup
      rw [List.pairwise_flatMap]
      refine ⟨fun q _ => ?_, ?_⟩
      · rw [List.pairwise_map]
        exact (nodup_goods n q).imp fun hab e => hab (by simpa using e)
      · have ha : (toL (R a) m (a + 1)).Pairwise (· < ·) := by
          unfold toL
          exact List.Pairwise.filter _ List.pairwise_lt_range'
        refine ha.imp fun {x y} hxy u hu v hv e => ?_
        subst e
        simp only [List.mem_map] at hu hv
        obtain ⟨p, _, rfl⟩ := hu
        obtain ⟨q, _, e⟩ := hv
        simp only [List.cons.injEq] at e
        omega
theorem goodsL_more (h : ∀ a b, R a b = true → R' a b = true) (hm : m ≤ 12) {a : Nat} (ha : a ≤ m) : (goodsL R m a).length ≤ (goodsL R' m a).length :=
  (nodup_goods 13 a).length_le_of_subset fun l hl => (mem_goodsL ha hm).2 (good_more h ((mem_goodsL ha hm).1 hl))
theorem brk_more (h : ∀ a b, R a b = true → R' a b = true) (hm : m ≤ 12) {q : Nat} (hq : q ≤ m) (hb : brkB R m q = true) : brkB R' m q = true := by
  unfold brkB at hb ⊢
  rw [Bool.and_eq_true, metB_iff (by omega), finB_iff hq hm] at hb ⊢
  obtain ⟨⟨l1, h1⟩, l2, h2⟩ := hb
  exact ⟨⟨l1, good_more h h1⟩, l2, good_more h h2⟩
end
theorem right_iff {ws : List Wd} {ts : List Tn} {br_ : Int} {a b : Nat} : rightR ws ts br_ a b = true ↔ sylR ws a b ≤ br_ ∧ stopR ws a = true ∧ stopR ws b = true ∧ turnL ts a b = [] := by
  unfold rightR faultR
  by_cases c : br_ < sylR ws a b
  · rw [if_pos c]; simp; omega
  · rw [if_neg c]
    cases stopR ws a <;> cases stopR ws b <;> simp <;> omega
theorem turn_none {ts : List Tn} {a b : Int} : turnL ts a b = [] ↔ ∀ x ∈ ts, turnP a b x = false := by
  unfold turnL turnK
  rw [List.map_eq_nil_iff, List.filter_eq_nil_iff]
  constructor
  · intro h x hx
    obtain ⟨i, hi, rfl⟩ := List.getElem_of_mem hx
    have := h i (by simpa using hi)
    simp only [List.getD, List.getElem?_eq_getElem hi, Option.getD_some, Bool.not_eq_true] at this
    exact this
  · intro h i hi
    have hi' : i < ts.length := by simpa using hi
    simp only [List.getD, List.getElem?_eq_getElem hi', Option.getD_some, Bool.not_eq_true]
    exact h _ (List.getElem_mem hi')
theorem right_turn {ws : List Wd} {ts : List Tn} {br_ : Int} {i : Nat} {a b : Nat} (h : rightR ws ts br_ a b = true) : rightR ws (ts.take i ++ ts.drop (i + 1)) br_ a b = true := by
  rw [right_iff, turn_none] at h ⊢
  refine ⟨h.1, h.2.1, h.2.2.1, fun x hx => h.2.2.2 x ?_⟩
  rcases List.mem_append.1 hx with hx | hx
  · exact List.mem_of_mem_take hx
  · exact List.mem_of_mem_drop hx
theorem right_breath {ws : List Wd} {ts : List Tn} {br_ br2 : Int} (hb : br_ ≤ br2) {a b : Nat} (h : rightR ws ts br_ a b = true) : rightR ws ts br2 a b = true := by
  rw [right_iff] at h ⊢
  exact ⟨by omega, h.2⟩
/-- A stop more. -/
def stp (ws : List Wd) (i : Nat) : List Wd := ws.set i ((ws.getD i (0, 0, false)).1, (ws.getD i (0, 0, false)).2.1, true)
theorem stp_len (ws : List Wd) (i : Nat) : (stp ws i).length = ws.length := by simp [stp]
theorem stp_get {ws : List Wd} {i : Nat} (hi : i < ws.length) (j : Nat) : ((stp ws i).getD j (0, 0, false)).1 = (ws.getD j (0, 0, false)).1 ∧ ((ws.getD j (0, 0, false)).2.2 = true → ((stp ws i).getD j (0, 0, false)).2.2 = true) := by
  unfold stp
  rw [getD_set' hi]
  by_cases e : i = j
  · subst e; simp
  · rw [if_neg e]; exact ⟨rfl, fun h => h⟩
theorem stp_syl {ws : List Wd} {i : Nat} (hi : i < ws.length) (a b : Nat) : sylR (stp ws i) a b = sylR ws a b := by
  unfold sylR
  have : (stp ws i).map (·.1) = ws.map (·.1) := by
    unfold stp
    rw [List.map_set]
    refine List.ext_getElem (by simp) fun j h1 h2 => ?_
    rw [List.getElem_set]
    split
    · rename_i e; subst e
      simp [List.getD, hi]
    · rfl
  rw [List.map_drop, List.map_take, List.map_drop, List.map_take, this]
theorem right_stop {ws : List Wd} {ts : List Tn} {br_ : Int} {i : Nat} (hi : i < ws.length) {a b : Nat} (h : rightR ws ts br_ a b = true) : rightR (stp ws i) ts br_ a b = true := by
  have hs : ∀ p, stopR ws p = true → stopR (stp ws i) p = true := fun p hp => by
    unfold stopR at hp ⊢
    rw [stp_len]
    simp only [Bool.or_eq_true, decide_eq_true_eq] at hp ⊢
    exact hp.imp id (stp_get hi (p - 1)).2
  rw [right_iff] at h ⊢
  rw [stp_syl hi]
  exact ⟨h.1, hs _ h.2.1, hs _ h.2.2.1, h.2.2.2⟩
theorem long_same {ws ws' : List Wd} (h : ∀ a b, sylR ws' a b = sylR ws a b) : ∀ (l : List Int) (p : Nat), longF ws' l p = longF ws l p
  | [], _ => rfl
  | x :: l, p => by rw [longF, longF, h, long_same h l]
end Go.Proofs.Ytfamlpbdhhikdaa

namespace Go.Proofs.Ytfamlpbdhhikdaa
set_option linter.all false
open Go

theorem sliceAt3_run {P : Program} {t e : TypeId} {sz n c l h m : Nat} {a : Option Addr} {k1 k2 k3 : IntKind} (he : P.underlying t = some (.slice e)) (hsz : szOf P e = some sz) (hle : l ≤ h) (hhm : h ≤ m) (hmc : m ≤ c) (w : World) :
    (Instr.sliceAt t (.slice a n c) (some (.int k1 (l : Int))) (some (.int k2 (h : Int))) (some (.int k3 (m : Int)))).run P w = .ok (.slice (if m = l then a else a.map (·.add (l * sz))) (h - l) (m - l)) w := by
  simp [Instr.sliceAt, Instr.slice, Instr.sliceBounds, sliceBound_run hmc, sliceBound_run hhm, sliceBound_run hle, underlying_run he, szOf_run hsz]
theorem sliceAtC_run {P : Program} {t e : TypeId} {sz n c l h : Nat} {a : Option Addr} {k1 k2 : IntKind} (he : P.underlying t = some (.slice e)) (hsz : szOf P e = some sz) (hle : l ≤ h) (hhc : h ≤ c) (w : World) :
    (Instr.sliceAt t (.slice a n c) (some (.int k1 (l : Int))) (some (.int k2 (h : Int))) none).run P w = .ok (.slice (if c = l then a else a.map (·.add (l * sz))) (h - l) (c - l)) w := by
  simp [Instr.sliceAt, Instr.slice, Instr.sliceBounds, sliceBound_run hhc, sliceBound_run hle, underlying_run he, szOf_run hsz]
/-- What is appended fits behind what is there. -/
theorem append_fit {P : Program} {t e u : TypeId} {sz by_ : Nat} {z : Value} (hT : ElemT P t e sz by_ z) (hu : (match Sem.pv P (underlying u) with | some (.slice _) => true | _ => false) = true) {ty bty : TypeId} {lo2 : Nat} {w : World} {x : Value} {b c n m : Nat} {cs xs rest : List Value}
    (hB : Blk w b (cs ++ rest) bty) (h1 : cs.length = n * sz) (hr : rest.length = (c - n) * sz) (hx : Sl lo2 w x m sz xs) (hf : ∀ c ∈ xs, flat c = true) (hcap : n + m ≤ c) :
    (Builtin.append_ #[t, u] ty #[.slice (some ⟨b, 0, none⟩) n c, x]).run P w = .ok (.slice (some ⟨b, 0, none⟩) (n + m) c) { w with heap := w.heap.setIfInBounds b (.cells ((cs ++ xs) ++ rest.drop (m * sz)).toArray bty (0, 0)) } := by
  have hund := Sem.pv_run P _ _ hT.und
  have hsz := Sem.pv_run P _ _ hT.size
  have hu' : ∃ e', ∀ w, (underlying u).run P w = .ok (.slice e') w := by
    split at hu
    · rename_i e' he; exact ⟨e', fun w => Sem.pv_run P _ _ he w⟩
    · cases hu
  obtain ⟨e', hu'⟩ := hu'
  have hxl : xs.length = m * sz := by obtain ⟨_, _, _, _, h, _⟩ := hx; exact h
  have hlen : ∀ w, (Builtin.lenOf x).run P w = .ok m w := by obtain ⟨a, c, rfl, _⟩ := hx; intro w; rfl
  have h2 : (Builtin.firstCells sz m x).run P w = .ok xs.toArray w := by
    have := firstCells_run (P := P) hx m (Nat.le_refl _)
    rwa [List.take_of_length_le (by omega)] at this
  have hmr : m * sz ≤ rest.length := by rw [hr]; exact Nat.mul_le_mul_right _ (by omega)
  have hst := storeCells_run (P := P) xs (n * sz) 0 (cs ++ rest) w hf (by simp; omega) hB
  have e2 : (cs ++ rest).take (n * sz + 0) ++ xs ++ (cs ++ rest).drop (n * sz + 0 + xs.length) = (cs ++ xs) ++ rest.drop (m * sz) := by
    rw [Nat.add_zero, hxl, ← h1, List.take_left, List.drop_append]
    simp
    first | done | (rw [List.drop_of_length_le (by omega)]; simp)
  rw [e2] at hst
  have ha : (⟨b, 0, none⟩ : Addr).add (n * sz) = ⟨b, n * sz, none⟩ := by rw [addr_add]; simp
  simp [Builtin.append_, hund, hsz, hu', hlen, hcap, h2, ha, hst]
/-- Elements of a stretch are set to zero. -/
theorem clear_fit {P : Program} {t e : TypeId} {sz by_ : Nat} {z : Value} (hT : ElemT P t e sz by_ z) (hzf : ∀ x ∈ z.cells.toList, flat x = true) {ty bty : TypeId} {w : World} {b k c n : Nat} {l : List Value} (hB : Blk w b l bty) (hn : 0 < n) (hl : k * sz + n * sz ≤ l.length) :
    (Builtin.clear_ #[t] ty #[.slice (some ⟨b, k * sz, none⟩) n c]).run P w = .ok (.tuple #[]) { w with heap := w.heap.setIfInBounds b (.cells (l.take (k * sz) ++ (List.replicate n z.cells.toList).flatten ++ l.drop (k * sz + n * sz)).toArray bty (0, 0)) } := by
  have hz2 : (Builtin.zeroCells z.cells n).toList = (List.replicate n z.cells.toList).flatten := by
    have := range_map_rep z.cells n (by rw [hT.zsz]; exact hT.pos)
    simp only [Builtin.zeroCells]
    rw [this]
  have hln : (List.replicate n z.cells.toList).flatten.length = n * sz := by
    have : z.cells.toList.length = sz := by rw [Array.length_toList, hT.zsz]
    simp [this]
  have hfl : ∀ x ∈ (List.replicate n z.cells.toList).flatten, flat x = true := by
    intro x hx
    simp only [List.mem_flatten, List.mem_replicate] at hx
    obtain ⟨y, ⟨_, rfl⟩, hx⟩ := hx
    exact hzf x hx
  have hst := storeCells_run (P := P) _ (k * sz) 0 l w hfl (by rw [hln]; omega) hB
  rw [Nat.add_zero, hln] at hst
  obtain ⟨n, rfl⟩ : ∃ q, n = q + 1 := ⟨n - 1, by omega⟩
  have hund := Sem.pv_run P _ _ hT.und
  have hzr := Sem.pv_run P _ _ hT.zero w
  simp only [Builtin.clear_, List.getElem?_toArray, List.getElem?_cons_zero, Sem.run_bind, hund, Result.andThen_ok, hzr, hz2, hst, Sem.run_pure]
theorem flat_rep_len {α : Type} (n : Nat) (l : List α) : (List.replicate n l).flatten.length = n * l.length := by simp
theorem RepC.flat1 {M : Nat → Option Obj} {t : Ty} {x : t.den} {us : List Value} (h : RepC M t x us) : ∀ u ∈ us, flat u = true := (RepL.len [x] us ⟨us, [], by simp, h, rfl⟩).2
/-- What the call leaves. -/
def delY_S {α : Type} (i j : Int) (l : List α) : Option (List α) := if 0 ≤ i ∧ i ≤ j ∧ j ≤ l.length ∧ 0 < l.length then some (l.take i.toNat ++ l.drop j.toNat) else none
/-- What is to be shown of the function's code. -/
def DelFn (P : Program) (f : FuncId) (sz : Nat) : Prop :=
  ∀ (b c n i j : Nat) (vs rest : List Value) (ty : TypeId) (w : World), Blk w b (vs ++ rest) ty → vs.length = n * sz → rest.length = (c - n) * sz → n ≤ c → c ≤ 9223372036854775807 → (∀ x ∈ vs, flat x = true) → n ≤ 1000000 → i ≤ j → j ≤ n → 0 < n →
    Fn P f #[.slice (some ⟨b, 0, none⟩) n c, .int .i64 i, .int .i64 j] w fun v w' => v = .slice (some ⟨b, 0, none⟩) (i + (n - j)) c ∧ Upd [b] w w' ∧
      ∃ rest' : List Value, rest'.length = (c - (i + (n - j))) * sz ∧ Blk w' b (vs.take (i * sz) ++ vs.drop (j * sz) ++ rest') ty
/-- An own list is written in place. -/
theorem Sim.inPlaceY {y : Ty} {g : Gh} {w w' : World} {l l' : List y.den} {b c n : Nat} {cs' rest' : List Value} {ty : TypeId} {h0 : Nat → Option Blk'} (hs : Sim g h0 w) (h00 : h0 0 = some (.lst y l)) (he : g.ρ 0 = some (some (b, c, n))) (h1 : g.ρ 1 = none) (hM : g.M b = none)
    (hU : Upd [b] w w') (hb' : w'.heap[b]? = some (.cells (cs' ++ rest').toArray ty (0, 0))) (hr : RepL g.M y l' cs') (hl : l'.length ≤ 1000000) (hc : l'.length ≤ c ∧ c ≤ 9223372036854775807) (hrl : rest'.length = (c - l'.length) * y.cells) :
    ∃ g', Stp (Sw g h0 (List.range 1)) (fun i => 1 ≤ i ∧ i < 2) g w g' w' ∧ Sim g' (fun i => ([.dead, .lst y l'] : List Blk')[i]?) w' ∧ RepV g' (.ols 1) (.slice (some ⟨b, 0, none⟩) l'.length c) := by
  have hSw : Sw g h0 (List.range 1) b := ⟨0, by simp, _, c, n, h00, rfl, he⟩
  have hsame : ∀ i, i < w.heap.size → i ≠ b → w'.heap[i]? = w.heap[i]? := fun i hi hn => hU.same i hi (by simpa using hn)
  refine ⟨newG g 1 (some (b, c, l'.length)), ⟨hU.os, hU.tape, hU.output, hU.size, fun i hi hn => ?_, newG_ge h1, fun i h2 h3 => ?_, fun i b' c' n' h2 h3 => ?_, fun b' o h2 => .inl h2⟩, ⟨fun b' o h2 => ?_, fun i k hk => ?_, fun i j ki kj b' ci ni cj nj hi hj mi mj ei ej => ?_⟩, .inr ⟨b, c, l'.length, newG_self _ _ _, rfl⟩⟩
  · exact hsame i hi (fun e => hn (e ▸ hSw))
  · by_cases e : i = 1
    · omega
    · simp only [newG, if_neg e] at h3
      exact absurd h2 h3
  · by_cases e : i = 1
    · subst e
      rw [newG_self] at h3
      simp only [Option.some.injEq, Prod.mk.injEq] at h3
      exact .inr (h3.1 ▸ hSw)
    · simp only [newG, if_neg e] at h3
      rw [h2] at h3; cases h3
  · have h2' : g.M b' = some o := h2
    have hbb := hs.mem b' o h2'
    rw [hsame b' (lt_of_blk hbb) (fun e => by rw [e, hM] at h2'; cases h2')]
    exact hbb
  · match i, hk with
    | 0, hk => simp at hk; subst hk; trivial
    | 1, hk =>
      simp at hk; subst hk
      exact ⟨hl, .inr ⟨b, c, cs', rest', ty, newG_self _ _ _, hb', hr, hc, hrl, hM⟩⟩
    | i + 2, hk => simp at hk
  · match i, j, hi, hj with
    | 0, _, hi, _ => simp at hi; subst hi; cases mi
    | _, 0, _, hj => simp at hj; subst hj; cases mj
    | 1, 1, _, _ => rfl
    | i + 2, _, hi, _ => simp at hi
    | _, j + 2, _, hj => simp at hj
abbrev sp_delY (f : FuncId) (y : Ty) : Spec := { f := f, ins := ⟨[.ols 0, .i .i64, .i .i64], [.lst y]⟩, outs := [⟨[.ols 1], [.dead, .lst y]⟩], run := fun p k => (delY_S p.1.2.1 p.1.2.2.1 p.2.1).bind fun r => k (((), ()), ((), r, ())) }
theorem delY_ok {P : Program} {f : FuncId} {y : Ty} (hcall : ∀ args w, (callFunc f args).run P w = .ok (.enter f args) w) (hF : DelFn P f y.cells) : SpecOK P (sp_delY f y) := by
  refine ⟨fun Z p κ => ?_, hcall, fun p r hpr g w vs hv hs hρ => ?_⟩
  · show ((delY_S _ _ _).bind _) = ((delY_S _ _ _).bind _).bind κ
    cases delY_S p.1.2.1 p.1.2.2.1 p.2.1 <;> rfl
  · obtain ⟨⟨⟨⟩, (i : Int), (j : Int), ⟨⟩⟩, (l : List y.den), ⟨⟩⟩ := p
    have hpr' : ((delY_S i j l).bind fun r => some (((), ()), ((), r, ()))) = some r := hpr
    unfold delY_S at hpr'
    split at hpr'
    rotate_left
    · cases hpr'
    rename_i hc
    simp only [Option.bind_some] at hpr'
    cases hpr'
    obtain ⟨hi0, hij, hjl, hl0⟩ := hc
    simp only [encs, enc, RepVs] at hv
    obtain ⟨v0, us, rfl, h0, v1, us1, rfl, h1, v2, us2, rfl, h2, rfl⟩ := hv
    simp only [RepV] at h0 h1 h2
    obtain ⟨rfl, hi1⟩ := h1
    obtain ⟨rfl, hj1⟩ := h2
    have hB := hs.blk 0 (.lst y l) rfl
    obtain ⟨hlen, hB⟩ := hB
    rcases hB with ⟨_, e⟩ | ⟨b, c, cs, rest, ty, e0, hb, hL, hcap, hrest, hM⟩
    · rw [e] at hl0; simp at hl0
    rcases h0 with ⟨e, _⟩ | ⟨b2, c2, n2, e, rfl⟩
    · simp only [id] at e; rw [e0] at e; cases e
    simp only [id] at e
    rw [e0] at e
    simp only [Option.some.injEq, Prod.mk.injEq] at e
    obtain ⟨rfl, rfl, rfl⟩ := e
    obtain ⟨i, rfl⟩ : ∃ k : Nat, i = k := ⟨i.toNat, by omega⟩
    obtain ⟨j, rfl⟩ : ∃ k : Nat, j = k := ⟨j.toNat, by omega⟩
    simp only [Int.toNat_natCast] at *
    obtain ⟨hcl, hfl⟩ := RepL.len _ _ hL
    refine (hF b c l.length i j cs rest ty w hb hcl hrest hcap.1 hcap.2 hfl hlen (by omega) (by omega) hl0).mono ?_
    rintro v w' ⟨rfl, hU, rest', hr', hb'⟩
    have h1 := (RepL.split l cs i hL (by omega)).1
    have h2 := (RepL.split l cs j hL (by omega)).2
    have hsz : (l.take i ++ l.drop j).length = i + (l.length - j) := by simp; omega
    obtain ⟨g', st, hs', hv'⟩ := Sim.inPlaceY (l' := l.take i ++ l.drop j) hs rfl e0 (hρ 1 (Nat.le_refl 1)) hM hU hb' (RepL.append _ _ _ _ h1 h2) (by omega) (by omega) (by rw [hsz]; exact hr')
    rw [hsz] at hv'
    exact ⟨g', st, hs', hv'⟩
end Go.Proofs.Ytfamlpbdhhikdaa

namespace Go.Proofs.Ytfamlpbdhhikdaa
set_option linter.all false
open Go
noncomputable def c55 : Code := (Try.f55.body).getD .skip
noncomputable def K55_0 : List Item := [.code (sub c55 [0]), .code (sub c55 [1])]
noncomputable def K55_1 : List Item := [.code (sub c55 [1, 0]), .code (sub c55 [1, 1])]
noncomputable def K55_2 : List Item := [.code (sub c55 [1, 1, 0, 0]), .code (sub c55 [1, 1, 0, 1]), .code (sub c55 [1, 1, 1])]
noncomputable def K55_c : List Item := [.code (sub c55 [1, 1, 0, 1]), .code (sub c55 [1, 1, 1])]
noncomputable def K55_s : List Item := [.code (sub c55 [1, 1, 0, 1, 0, 0]), .code (sub c55 [1, 1, 0, 1, 0, 1]), .code (sub c55 [1, 1, 1])]
noncomputable def K55_sr : List Item := [.code (sub c55 [1, 1, 0, 1, 0, 1]), .code (sub c55 [1, 1, 1])]
noncomputable def K55_g : List Item := [.code (sub c55 [1, 1, 1, 0]), .code (sub c55 [1, 1, 1, 1])]
noncomputable def K55_5 : List Item := [.code (sub c55 [1, 1, 1, 1, 0]), .code (sub c55 [1, 1, 1, 1, 1])]
noncomputable def K55_6 : List Item := [.code (sub c55 [1, 1, 1, 1, 1, 0]), .code (sub c55 [1, 1, 1, 1, 1, 1])]
noncomputable def K55_7 : List Item := [.code (sub c55 [1, 1, 1, 1, 1, 1, 0]), .code (sub c55 [1, 1, 1, 1, 1, 1, 1])]
noncomputable def K55_r : List Item := [.code (sub c55 [1, 1, 1, 1, 1, 1, 1])]
theorem delturn_fn : DelFn Try.prog 55 3 := by
  intro b c n i j vs rest ty w hB hvs hrest hnc hc hfl hn hij hjn h0
  obtain ⟨hue, hel, by_, zv, hT, hZ⟩ := elemT_of (P := Try.prog) (t := 23) (e := 76) (y := (.pair (.int .i64) (.pair (.int .i64) (.int .i64)))) (by kernel_rfl)
  have hT : ElemT Try.prog 23 76 3 by_ zv := hT
  have hsz : szOf Try.prog 76 = some 3 := by kernel_rfl
  refine Fn.ofSt (c := c55) 33 K55_0 [(0, (.slice (some ⟨b, 0, none⟩) n c)), (1, (.int .i64 (↑i : Int))), (2, (.int .i64 (↑j : Int)))] Try.func55 (by kernel_rfl) ⟨⟨rfl, by kernel_rfl⟩, by kernel_rfl⟩ (by kernel_rfl) ?_
  intro cs
  refine St.reg K55_1 [(0, true)] (by kernel_rfl) (by kernel_rfl) ?_
  refine RX.q 1 [] [(0, (.slice (some ⟨b, 0, none⟩) n c)), (1, (.int .i64 (↑i : Int))), (2, (.int .i64 (↑j : Int)))] [] (by kernel_rfl) trivial ?_
  refine RX.done [(0, (.slice (some ⟨b, 0, none⟩) n c)), (1, (.int .i64 (↑i : Int))), (2, (.int .i64 (↑j : Int)))] (by kernel_rfl) (by kernel_rfl) ?_
  refine St.reg K55_2 [(0, true), (1, true), (2, true), (3, true), (4, true), (5, true)] (by kernel_rfl) (by kernel_rfl) ?_
  refine RX.q 6 [(5, true, (.slice (if n = i then (some ⟨b, 0, none⟩) else (some (⟨b, 0, none⟩ : Addr)).map (·.add (i * 3))) (j - i) (n - i)))] [(0, (.slice (some ⟨b, 0, none⟩) n c)), (1, (.int .i64 (↑i : Int))), (2, (.int .i64 (↑j : Int)))] [.raw (Instr.sliceAt 23 (.slice (some ⟨b, 0, none⟩) n c) (some (.int .i64 (↑i : Int))) (some (.int .i64 (↑j : Int))) (some (.int .i64 (↑n : Int)))) (.slice (if n = i then (some ⟨b, 0, none⟩) else (some (⟨b, 0, none⟩ : Addr)).map (·.add (i * 3))) (j - i) (n - i))] (by kernel_rfl) (sliceAt3_run hue hsz hij hjn hnc _) ?_
  refine RX.done [(0, (.slice (some ⟨b, 0, none⟩) n c)), (1, (.int .i64 (↑i : Int))), (2, (.int .i64 (↑j : Int)))] (by kernel_rfl) (by kernel_rfl) ?_
  refine St.reg K55_c [(0, true), (1, true), (2, true)] (by kernel_rfl) (by kernel_rfl) ?_
  refine RX.q 3 [] [(0, (.slice (some ⟨b, 0, none⟩) n c)), (1, (.int .i64 (↑i : Int))), (2, (.int .i64 (↑j : Int))), (16, (.bool ((↑i : Int) == (↑j : Int))))] [] (by kernel_rfl) trivial ?_
  refine RX.done [(0, (.slice (some ⟨b, 0, none⟩) n c)), (1, (.int .i64 (↑i : Int))), (2, (.int .i64 (↑j : Int))), (16, (.bool ((↑i : Int) == (↑j : Int))))] (by kernel_rfl) (by kernel_rfl) ?_
  refine St.cond (k1 := K55_s) (k2 := K55_g) ((↑i : Int) == (↑j : Int)) (by kernel_rfl) (fun hq => ?_) (fun hq => ?_)
  · obtain rfl : i = j := by
      have : (i : Int) = j := by simpa using hq
      omega
    refine St.weak (L' := [(0, (.slice (some ⟨b, 0, none⟩) n c))]) (by kernel_rfl) ?_
    refine St.reg K55_sr [(0, true), (1, true)] (by kernel_rfl) (by kernel_rfl) ?_
    refine RX.q 2 [] [(6, (.slice (some ⟨b, 0, none⟩) n c))] [] (by kernel_rfl) trivial ?_
    refine RX.done [(6, (.slice (some ⟨b, 0, none⟩) n c))] (by kernel_rfl) (by kernel_rfl) ?_
    refine St.ret [.tmp 6] [(.slice (some ⟨b, 0, none⟩) n c)] (by kernel_rfl) Try.func55 (by kernel_rfl) (.cons (.tmp (by kernel_rfl)) .nil) ?_
    refine ⟨by rw [show i + (n - i) = n by omega]; rfl, Upd.refl _ w, rest, by rw [hrest, show i + (n - i) = n by omega], by rw [List.take_append_drop]; exact hB⟩
  · have hlt : i < j := by
      have : ¬ i = j := fun h => by subst h; simp at hq
      omega
    refine St.weak (L' := [(0, (.slice (some ⟨b, 0, none⟩) n c)), (1, (.int .i64 (↑i : Int))), (2, (.int .i64 (↑j : Int)))]) (by kernel_rfl) ?_
    refine St.reg K55_5 [(0, true), (1, true), (2, true)] (by kernel_rfl) (by kernel_rfl) ?_
    refine RX.q 3 [] [(0, (.slice (some ⟨b, 0, none⟩) n c)), (1, (.int .i64 (↑i : Int))), (2, (.int .i64 (↑j : Int))), (7, (.int .i64 (↑n : Int)))] [] (by kernel_rfl) trivial ?_
    refine RX.done [(0, (.slice (some ⟨b, 0, none⟩) n c)), (1, (.int .i64 (↑i : Int))), (2, (.int .i64 (↑j : Int))), (7, (.int .i64 (↑n : Int)))] (by kernel_rfl) (by kernel_rfl) ?_
    have e1 : ∀ w', (Instr.sliceAt 23 (.slice (some ⟨b, 0, none⟩) n c) none (some (.int .i64 (↑i : Int))) none).run Try.prog w' = .ok (.slice (some ⟨b, 0, none⟩) i c) w' := fun w' => by
      have := sliceAt_run (P := Try.prog) (a := some ⟨b, 0, none⟩) (n := n) (c := c) (l := 0) (h := i) hue hsz none (some (.i64, (i : Int))) rfl rfl (Nat.zero_le _) (by omega) hnc w'
      have hc0 : ¬ c = 0 := by omega
      simp only [hc0, if_false, Option.map_some, Nat.sub_zero, Nat.zero_mul, Option.map_none] at this
      rw [this, addr_add]
    have e2 : ∀ w', (Instr.sliceAt 23 (.slice (some ⟨b, 0, none⟩) n c) (some (.int .i64 (↑j : Int))) none none).run Try.prog w' = .ok (.slice (if c = j then (some ⟨b, 0, none⟩) else (some (⟨b, 0, none⟩ : Addr)).map (·.add (j * 3))) (n - j) (c - j)) w' := fun w' =>
      sliceAt_run (P := Try.prog) (a := some ⟨b, 0, none⟩) (n := n) (c := c) (l := j) (h := n) hue hsz (some (.i64, (j : Int))) none rfl rfl hjn (Nat.le_refl _) hnc w'
    have hvi : (vs.take (i * 3)).length = i * 3 := by rw [List.length_take, hvs]; exact Nat.min_eq_left (Nat.mul_le_mul_right _ (by omega))
    have hvj : (vs.drop (j * 3)).length = (n - j) * 3 := by rw [List.length_drop, hvs, ← Nat.sub_mul]
    have hvr : (vs.drop (i * 3) ++ rest).length = (c - i) * 3 := by rw [List.length_append, List.length_drop, hvs, hrest, ← Nat.sub_mul, ← Nat.add_mul]; exact congrArg (· * 3) (by omega)
    have spl : vs ++ rest = vs.take (i * 3) ++ (vs.drop (i * 3) ++ rest) := by rw [← List.append_assoc, List.take_append_drop]
    refine St.drw K55_6 [b] [(0, true), (1, true), (2, true), (3, true), (4, true), (5, true), (6, false), (7, true)] mixed (by kernel_rfl) (by kernel_rfl) ?_
    intro w1 hd hds
    refine RX.qd 6 [(2, true, (.slice (some ⟨b, 0, none⟩) i c)), (5, true, (.slice (if c = j then (some ⟨b, 0, none⟩) else (some (⟨b, 0, none⟩ : Addr)).map (·.add (j * 3))) (n - j) (c - j)))] [(0, (.slice (some ⟨b, 0, none⟩) n c)), (1, (.int .i64 (↑i : Int))), (2, (.int .i64 (↑j : Int))), (7, (.int .i64 (↑n : Int))), (22, (.slice (some ⟨b, 0, none⟩) i c)), (25, (.slice (if c = j then (some ⟨b, 0, none⟩) else (some (⟨b, 0, none⟩ : Addr)).map (·.add (j * 3))) (n - j) (c - j)))] [.raw (Instr.sliceAt 23 (.slice (some ⟨b, 0, none⟩) n c) none (some (.int .i64 (↑i : Int))) none) (.slice (some ⟨b, 0, none⟩) i c), .raw (Instr.sliceAt 23 (.slice (some ⟨b, 0, none⟩) n c) (some (.int .i64 (↑j : Int))) none none) (.slice (if c = j then (some ⟨b, 0, none⟩) else (some (⟨b, 0, none⟩ : Addr)).map (·.add (j * 3))) (n - j) (c - j))] (by kernel_rfl) ⟨e1 _, e2 _⟩ ⟨fun w' _ => e1 w', fun w' _ => e2 w'⟩ ?_
    have hB1 : Blk w1 b (vs ++ rest) ty := Ext.blk hd hB
    have hA : Acc 76 3 0 w1 (.slice (some ⟨b, 0, none⟩) i c) i (vs.take (i * 3)) [b] := ⟨hvi, .inr ⟨b, c, vs.drop (i * 3) ++ rest, rfl, rfl, Nat.zero_le _, ⟨by omega, hc⟩, hvr, ty, by rw [← spl]; exact hB1⟩⟩
    have hSl : Sl 0 w1 (.slice (if c = j then (some ⟨b, 0, none⟩) else (some (⟨b, 0, none⟩ : Addr)).map (·.add (j * 3))) (n - j) (c - j)) (n - j) 3 (vs.drop (j * 3)) := by
      refine ⟨_, _, rfl, by omega, hvj, ?_⟩
      by_cases hcj : c = j
      · exact .inl (by apply List.eq_nil_of_length_eq_zero; rw [hvj, show n - j = 0 by omega, Nat.zero_mul])
      · refine .inr ⟨b, j * 3, (by rw [if_neg hcj, Option.map_some, addr_add, Nat.zero_add]), Nat.zero_le _, lt_of_blk hB1, fun x u hx => ?_⟩
        rw [addr_add]
        refine Blk.cell hB1 ?_
        rw [List.getElem?_drop] at hx
        rw [List.getElem?_append_left (List.getElem?_eq_some_iff.1 hx).1]; exact hx
    have hr2 := append_fit (u := 23) (ty := 23) hT (by kernel_rfl) (by rw [← spl]; exact hB1) hvi hvr hSl (fun x hx => hfl x (List.mem_of_mem_drop hx)) (show i + (n - j) ≤ c by omega)
    have hP2 := Put.mk' (.cells ((vs.take (i * 3) ++ vs.drop (j * 3)) ++ (vs.drop (i * 3) ++ rest).drop ((n - j) * 3)).toArray ty (0, 0)) hB1
    refine RX.runD 26 (Builtin.append_ #[23, 23] 23 #[(.slice (some ⟨b, 0, none⟩) i c), (.slice (if c = j then (some ⟨b, 0, none⟩) else (some (⟨b, 0, none⟩ : Addr)).map (·.add (j * 3))) (n - j) (c - j))]) [(0, (.slice (some ⟨b, 0, none⟩) n c)), (1, (.int .i64 (↑i : Int))), (2, (.int .i64 (↑j : Int))), (7, (.int .i64 (↑n : Int))), (22, (.slice (some ⟨b, 0, none⟩) i c)), (25, (.slice (if c = j then (some ⟨b, 0, none⟩) else (some (⟨b, 0, none⟩ : Addr)).map (·.add (j * 3))) (n - j) (c - j)))] (by kernel_rfl) hr2 hP2.upd ?_
    refine RX.qd 1 [] [(0, (.slice (some ⟨b, 0, none⟩) (i + (n - j)) c)), (7, (.int .i64 (↑n : Int)))] [] (by kernel_rfl) trivial trivial ?_
    refine RX.done [(0, (.slice (some ⟨b, 0, none⟩) (i + (n - j)) c)), (7, (.int .i64 (↑n : Int)))] (by kernel_rfl) (by kernel_rfl) ?_
    have hB2 := hP2.blk
    have hU2 := hP2.upd
    clear hP2 hr2
    generalize ({ w1 with heap := w1.heap.setIfInBounds b (.cells ((vs.take (i * 3) ++ vs.drop (j * 3)) ++ (vs.drop (i * 3) ++ rest).drop ((n - j) * 3)).toArray ty (0, 0)) } : World) = w2 at hB2 hU2 ⊢
    have e3 : ∀ w', (Instr.sliceAt 23 (.slice (some ⟨b, 0, none⟩) (i + (n - j)) c) (some (.int .i64 ((i + (n - j) : Nat) : Int))) (some (.int .i64 (↑n : Int))) none).run Try.prog w' = .ok (.slice (some ⟨b, (i + (n - j)) * 3, none⟩) (n - (i + (n - j))) (c - (i + (n - j)))) w' := fun w' => by
      have := sliceAtC_run (P := Try.prog) (a := some ⟨b, 0, none⟩) (n := i + (n - j)) (c := c) (l := i + (n - j)) (h := n) (k1 := .i64) (k2 := .i64) hue hsz (by omega) hnc w'
      have hcl : ¬ c = i + (n - j) := by omega
      rw [if_neg hcl] at this
      rw [this, Option.map_some, addr_add, Nat.zero_add]
    have hvl : (vs.take (i * 3) ++ vs.drop (j * 3)).length = (i + (n - j)) * 3 := by rw [List.length_append, hvi, hvj, ← Nat.add_mul]
    have htl : ((vs.drop (i * 3) ++ rest).drop ((n - j) * 3)).length = (c - (i + (n - j))) * 3 := by rw [List.length_drop, hvr, ← Nat.sub_mul]; exact congrArg (· * 3) (by omega)
    have hr3 := clear_fit (P := Try.prog) (ty := 0) (c := c - (i + (n - j))) hT (RepC.flat1 (hZ (fun _ => none))) hB2 (k := i + (n - j)) (n := n - (i + (n - j))) (by omega) (by rw [List.length_append, hvl, htl, ← Nat.add_mul, ← Nat.add_mul]; exact Nat.mul_le_mul_right _ (by omega))
    have hP3 := Put.mk' (.cells ((vs.take (i * 3) ++ vs.drop (j * 3) ++ (vs.drop (i * 3) ++ rest).drop ((n - j) * 3)).take ((i + (n - j)) * 3) ++ (List.replicate (n - (i + (n - j))) zv.cells.toList).flatten ++ (vs.take (i * 3) ++ vs.drop (j * 3) ++ (vs.drop (i * 3) ++ rest).drop ((n - j) * 3)).drop ((i + (n - j)) * 3 + (n - (i + (n - j))) * 3)).toArray ty (0, 0)) hB2
    refine St.reg K55_7 [(0, true), (1, true), (2, true), (3, true), (4, true), (5, false)] (by kernel_rfl) (by kernel_rfl) ?_
    refine RX.q 5 [(4, true, (.slice (some ⟨b, (i + (n - j)) * 3, none⟩) (n - (i + (n - j))) (c - (i + (n - j)))))] [(0, (.slice (some ⟨b, 0, none⟩) (i + (n - j)) c)), (31, (.slice (some ⟨b, (i + (n - j)) * 3, none⟩) (n - (i + (n - j))) (c - (i + (n - j)))))] [.raw (Instr.sliceAt 23 (.slice (some ⟨b, 0, none⟩) (i + (n - j)) c) (some (.int .i64 ((i + (n - j) : Nat) : Int))) (some (.int .i64 (↑n : Int))) none) (.slice (some ⟨b, (i + (n - j)) * 3, none⟩) (n - (i + (n - j))) (c - (i + (n - j))))] (by kernel_rfl) (e3 _) ?_
    refine RX.run0 (Builtin.clear_ #[23] 0 #[(.slice (some ⟨b, (i + (n - j)) * 3, none⟩) (n - (i + (n - j))) (c - (i + (n - j))))]) (by kernel_rfl) hr3 ?_
    refine RX.done [(0, (.slice (some ⟨b, 0, none⟩) (i + (n - j)) c))] (by kernel_rfl) (by kernel_rfl) ?_
    have hB3 := hP3.blk
    have hU3 := hP3.upd
    clear hP3 hr3
    generalize ({ w2 with heap := w2.heap.setIfInBounds b _ } : World) = w3 at hB3 hU3 ⊢
    refine St.reg K55_r [(0, true), (1, true)] (by kernel_rfl) (by kernel_rfl) ?_
    refine RX.q 2 [] [(6, (.slice (some ⟨b, 0, none⟩) (i + (n - j)) c))] [] (by kernel_rfl) trivial ?_
    refine RX.done [(6, (.slice (some ⟨b, 0, none⟩) (i + (n - j)) c))] (by kernel_rfl) (by kernel_rfl) ?_
    refine St.ret [.tmp 6] [(.slice (some ⟨b, 0, none⟩) (i + (n - j)) c)] (by kernel_rfl) Try.func55 (by kernel_rfl) (.cons (.tmp (by kernel_rfl)) .nil) ?_
    rw [List.take_left' hvl, List.append_assoc] at hB3
    refine ⟨rfl, ((Ext.up hd).trans hU2).trans hU3, _, ?_, hB3⟩
    have hzl : zv.cells.toList.length = 3 := by rw [Array.length_toList, hT.zsz]
    simp only [List.length_append, flat_rep_len, hzl, List.length_drop, List.length_take, hvs, hrest]
    omega
def delturn_S (_N : Nat) (i j : Int) (l : List (Int × (Int × Int))) : Option (List (Int × (Int × Int))) := delY_S i j l
noncomputable def sp_delturn (N : Nat) : Spec := { f := 55, ins := ⟨[.ols 0, .i .i64, .i .i64], [.lst (.pair (.int .i64) (.pair (.int .i64) (.int .i64)))]⟩, outs := [⟨[.ols 1], [.dead, .lst (.pair (.int .i64) (.pair (.int .i64) (.int .i64)))]⟩], run := fun p k => (delturn_S N p.1.2.1 p.1.2.2.1 p.2.1).bind fun r => k (((), ()), ((), r, ())) }
theorem sp_delturn_ok (N : Nat) : SpecOK Try.prog (sp_delturn N) := delY_ok (f := 55) (y := (.pair (.int .i64) (.pair (.int .i64) (.int .i64)))) (fun args w => Sem.pv_run _ _ _ (by kernel_rfl) w) delturn_fn
end Go.Proofs.Ytfamlpbdhhikdaa

namespace Go.Proofs.Ytfamlpbdhhikdaa
set_option linter.all false
open Go

def copywo_S (N : Nat) (l : List (Int × (Int × Bool))) : Option (List (Int × (Int × Bool))) :=
  grd (lmI (l.length : Int)) <|
  some (l.take (min l.length (List.replicate (l.length : Int).toNat ((0, (0, false)) : (Int × (Int × Bool)))).length) ++ (List.replicate (l.length : Int).toNat ((0, (0, false)) : (Int × (Int × Bool)))).drop (min l.length (List.replicate (l.length : Int).toNat ((0, (0, false)) : (Int × (Int × Bool)))).length))
noncomputable def copywo_sp (N : Nat) : List Spec := []
theorem copywo_all (N : Nat) : AllP (SpecOK Try.prog) (copywo_sp N) := trivial
noncomputable def copywo_c : Code := (Try.f84.body).getD .skip
noncomputable abbrev copywo_B : Body := { c := copywo_c, n := 11, res := [.tmp 2], outs := [⟨[.ols 0], [.lst (.pair (.int .i64) (.pair (.int .i64) .bool))]⟩], m0 := 0 }
abbrev copywo_rt : altD copywo_B.outs → Option (List (Int × (Int × Bool))) := fun r => some r.2.1
abbrev copywo_st : Sta := ⟨[0], ⟨[.sl (.pair (.int .i64) (.pair (.int .i64) .bool))], []⟩⟩
theorem copywo_eq (N : Nat) (l : List (Int × (Int × Bool))) : ev (Z := (List (Int × (Int × Bool)))) Try.prog (copywo_sp N) copywo_B [] [] (some copywo_rt) 400 false [.c [0], .c [1]] (stL copywo_st ((l, ()), ())) (stH copywo_st ((l, ()), ())) = copywo_S N l := by kernel_rfl
noncomputable def sp_copywo (N : Nat) : Spec := { f := 84, ins := ⟨[.sl (.pair (.int .i64) (.pair (.int .i64) .bool))], []⟩, outs := [⟨[.ols 0], [.lst (.pair (.int .i64) (.pair (.int .i64) .bool))]⟩], run := fun p k => (copywo_S N p.1.1).bind fun r => k (((), ()), (r, ())) }
theorem sp_copywo_ok (N : Nat) : SpecOK Try.prog (sp_copywo N) := fn_sound (B := copywo_B) (loops := []) (leaves := []) (fun p => copywo_S N p.1.1) (fun r => (((), ()), (r, ()))) copywo_rt (fun _ _ _ => rfl) (fun r z h => by cases h; rfl) Try.func84 (by kernel_rfl) (by kernel_rfl) (by kernel_rfl) rfl rfl (by kernel_rfl) (fun args w => Sem.pv_run _ _ _ (by kernel_rfl) w) (copywo_all N) mixed trivial (fun z E Xc hE hX hret => trivial) (fun p => copywo_eq N p.1.1)

def copyto_S (N : Nat) (l : List (Int × (Int × Int))) : Option (List (Int × (Int × Int))) :=
  grd (lmI (l.length : Int)) <|
  some (l.take (min l.length (List.replicate (l.length : Int).toNat ((0, (0, 0)) : (Int × (Int × Int)))).length) ++ (List.replicate (l.length : Int).toNat ((0, (0, 0)) : (Int × (Int × Int)))).drop (min l.length (List.replicate (l.length : Int).toNat ((0, (0, 0)) : (Int × (Int × Int)))).length))
noncomputable def copyto_sp (N : Nat) : List Spec := []
theorem copyto_all (N : Nat) : AllP (SpecOK Try.prog) (copyto_sp N) := trivial
noncomputable def copyto_c : Code := (Try.f85.body).getD .skip
noncomputable abbrev copyto_B : Body := { c := copyto_c, n := 11, res := [.tmp 2], outs := [⟨[.ols 0], [.lst (.pair (.int .i64) (.pair (.int .i64) (.int .i64)))]⟩], m0 := 0 }
abbrev copyto_rt : altD copyto_B.outs → Option (List (Int × (Int × Int))) := fun r => some r.2.1
abbrev copyto_st : Sta := ⟨[0], ⟨[.sl (.pair (.int .i64) (.pair (.int .i64) (.int .i64)))], []⟩⟩
theorem copyto_eq (N : Nat) (l : List (Int × (Int × Int))) : ev (Z := (List (Int × (Int × Int)))) Try.prog (copyto_sp N) copyto_B [] [] (some copyto_rt) 400 false [.c [0], .c [1]] (stL copyto_st ((l, ()), ())) (stH copyto_st ((l, ()), ())) = copyto_S N l := by kernel_rfl
noncomputable def sp_copyto (N : Nat) : Spec := { f := 85, ins := ⟨[.sl (.pair (.int .i64) (.pair (.int .i64) (.int .i64)))], []⟩, outs := [⟨[.ols 0], [.lst (.pair (.int .i64) (.pair (.int .i64) (.int .i64)))]⟩], run := fun p k => (copyto_S N p.1.1).bind fun r => k (((), ()), (r, ())) }
theorem sp_copyto_ok (N : Nat) : SpecOK Try.prog (sp_copyto N) := fn_sound (B := copyto_B) (loops := []) (leaves := []) (fun p => copyto_S N p.1.1) (fun r => (((), ()), (r, ()))) copyto_rt (fun _ _ _ => rfl) (fun r z h => by cases h; rfl) Try.func85 (by kernel_rfl) (by kernel_rfl) (by kernel_rfl) rfl rfl (by kernel_rfl) (fun args w => Sem.pv_run _ _ _ (by kernel_rfl) w) (copyto_all N) mixed trivial (fun z E Xc hE hX hret => trivial) (fun p => copyto_eq N p.1.1)

def copyxo_S (N : Nat) (t : List (Int × (Int × Bool))) (t2 : List (Int × (Int × Int))) (t3 : Int) : Option (Int × (List (Int × (Int × Bool))) × (List (Int × (Int × Int)))) :=
  (copywo_S N t).bind fun x_1 =>
  (copyto_S N t2).bind fun x_2 =>
  some (t3, x_1, x_2)
noncomputable def copyxo_sp (N : Nat) : List Spec := [sp_copywo N, sp_copyto N]
theorem copyxo_all (N : Nat) : AllP (SpecOK Try.prog) (copyxo_sp N) := ⟨sp_copywo_ok N, sp_copyto_ok N, trivial⟩
noncomputable def copyxo_c : Code := (Try.f20.body).getD .skip
noncomputable abbrev copyxo_B : Body := { c := copyxo_c, n := 12, res := [.cell 2 25], outs := [⟨[.agg [.ols 0, .ols 1, .i .i64]], [.lst (.pair (.int .i64) (.pair (.int .i64) .bool)), .lst (.pair (.int .i64) (.pair (.int .i64) (.int .i64)))]⟩], m0 := 0 }
abbrev copyxo_rt : altD copyxo_B.outs → Option (Int × (List (Int × (Int × Bool))) × (List (Int × (Int × Int)))) := fun r => some (r.1.1.2.2.1, r.2.1, r.2.2.1)
abbrev copyxo_st : Sta := ⟨[0], ⟨[.agg [.sl (.pair (.int .i64) (.pair (.int .i64) .bool)), .sl (.pair (.int .i64) (.pair (.int .i64) (.int .i64))), .i .i64]], []⟩⟩
theorem copyxo_eq (N : Nat) (t : List (Int × (Int × Bool))) (t2 : List (Int × (Int × Int))) (t3 : Int) : ev (Z := Int × (List (Int × (Int × Bool))) × (List (Int × (Int × Int)))) Try.prog (copyxo_sp N) copyxo_B [] [] (some copyxo_rt) 400 false [.c [0], .c [1]] (stL copyxo_st (((t, t2, t3, ()), ()), ())) (stH copyxo_st (((t, t2, t3, ()), ()), ())) = copyxo_S N t t2 t3 := by kernel_rfl
noncomputable def sp_copyxo (N : Nat) : Spec := { f := 20, ins := ⟨[.agg [.sl (.pair (.int .i64) (.pair (.int .i64) .bool)), .sl (.pair (.int .i64) (.pair (.int .i64) (.int .i64))), .i .i64]], []⟩, outs := [⟨[.agg [.ols 0, .ols 1, .i .i64]], [.lst (.pair (.int .i64) (.pair (.int .i64) .bool)), .lst (.pair (.int .i64) (.pair (.int .i64) (.int .i64)))]⟩], run := fun p k => (copyxo_S N p.1.1.1 p.1.1.2.1 p.1.1.2.2.1).bind fun r => k ((((), (), r.1, ()), ()), (r.2.1, r.2.2, ())) }
theorem sp_copyxo_ok (N : Nat) : SpecOK Try.prog (sp_copyxo N) := fn_sound (B := copyxo_B) (loops := []) (leaves := []) (fun p => copyxo_S N p.1.1.1 p.1.1.2.1 p.1.1.2.2.1) (fun r => ((((), (), r.1, ()), ()), (r.2.1, r.2.2, ()))) copyxo_rt (fun _ _ _ => rfl) (fun r z h => by cases h; rfl) Try.func20 (by kernel_rfl) (by kernel_rfl) (by kernel_rfl) rfl rfl (by kernel_rfl) (fun args w => Sem.pv_run _ _ _ (by kernel_rfl) w) (copyxo_all N) mixed trivial (fun z E Xc hE hX hret => trivial) (fun p => copyxo_eq N p.1.1.1 p.1.1.2.1 p.1.1.2.2.1)

def tmore1_S (N : Nat) (at_ : Int) (u : (List Int)) : Option Bool :=
  (containsi_S N u at_).bind fun x_1 =>
  some (!x_1)
noncomputable def tmore1_sp (N : Nat) : List Spec := [sp_containsi N]
theorem tmore1_all (N : Nat) : AllP (SpecOK Try.prog) (tmore1_sp N) := ⟨sp_containsi_ok N, trivial⟩
noncomputable def tmore1_c : Code := (Try.f56.body).getD .skip
noncomputable abbrev tmore1_B : Body := { c := tmore1_c, n := 8, res := [.tmp 3], outs := [⟨[.b], []⟩], m0 := 0 }
abbrev tmore1_rt : altD tmore1_B.outs → Option Bool := fun r => some r.1.1
abbrev tmore1_st : Sta := ⟨[0, 1], ⟨[.i .i64, .fe (.sl (.int .i64))], []⟩⟩
theorem tmore1_eq (N : Nat) (at_ : Int) (u : (List Int)) : ev (Z := Bool) Try.prog (tmore1_sp N) tmore1_B [] [] (some tmore1_rt) 400 false [.c [0], .c [1]] (stL tmore1_st ((at_, u, ()), ())) (stH tmore1_st ((at_, u, ()), ())) = tmore1_S N at_ u := by kernel_rfl
noncomputable def sp_tmore1 (N : Nat) : Spec := { f := 56, ins := ⟨[.i .i64, .fe (.sl (.int .i64))], []⟩, outs := [⟨[.b], []⟩], run := fun p k => (tmore1_S N p.1.1 p.1.2.1).bind fun r => k ((r, ()), ()) }
theorem sp_tmore1_ok (N : Nat) : SpecOK Try.prog (sp_tmore1 N) := fn_sound (B := tmore1_B) (loops := []) (leaves := []) (fun p => tmore1_S N p.1.1 p.1.2.1) (fun r => ((r, ()), ())) tmore1_rt (fun _ _ _ => rfl) (fun r z h => by cases h; rfl) Try.func56 (by kernel_rfl) (by kernel_rfl) (by kernel_rfl) rfl rfl (by kernel_rfl) (fun args w => Sem.pv_run _ _ _ (by kernel_rfl) w) (tmore1_all N) mixed trivial (fun z E Xc hE hX hret => trivial) (fun p => tmore1_eq N p.1.1 p.1.2.1)

def ixftm_l1 (N : Nat) : Nat → (List Int) → ((List Int)) → Int → Int → Option ((Int) ⊕ (Unit))
  | 0, _, _, _, _ => none
  | n_ + 1, s, f, u, u2 =>
    br (decide (u2 < u))
      (idx s u2 fun x_1 =>
      (tmore1_S N x_1 f).bind fun x_2 =>
      br x_2
        (some (.inl u2))
        (chk (u2 + 1) <|
        ixftm_l1 N n_ s f u (u2 + 1)))
      (some (.inr ()))
def ixftm_S (N : Nat) (s : List Int) (f : (List Int)) : Option Int :=
  (ixftm_l1 N N s f (s.length : Int) 0).bind fun e => match e with
  | .inl i_3 =>
    some i_3
  | .inr _ =>
    some (-1)
noncomputable def ixftm_sp (N : Nat) : List Spec := [sp_tmore1 N]
theorem ixftm_all (N : Nat) : AllP (SpecOK Try.prog) (ixftm_sp N) := ⟨sp_tmore1_ok N, trivial⟩
noncomputable def ixftm_c : Code := (Try.f113.body).getD .skip
noncomputable abbrev ixftm_B : Body := { c := ixftm_c, n := 19, res := [.tmp 4], outs := [⟨[.i .i64], []⟩], m0 := 0 }
abbrev ixftm_rt : altD ixftm_B.outs → Option Int := fun r => some r.1.1
abbrev ixftm_l1_at : List PI := [.c [1, 0, 1, 0, 0, 0], .c [1, 0, 1, 0, 0, 1], .l [1, 0, 1, 0, 0], .b 0, .c [1, 1]]
abbrev ixftm_l1_st : Sta := ⟨[0, 1, 7, 8], ⟨[.sl (.int .i64), .fn 56 [] [.fe (.sl (.int .i64))], .i .i64, .i .i64], []⟩⟩
abbrev ixftm_l1_h (rec : (List Int) → ((List Int)) → Int → Int → Option ((Int) ⊕ (Unit))) : Leaf ((Int) ⊕ (Unit)) := ⟨ixftm_l1_at, ixftm_l1_st, fun p => rec p.1.1 p.1.2.1.2.1 p.1.2.2.1 p.1.2.2.2.1⟩
abbrev ixftm_l1_e0 : Leaf ((Int) ⊕ (Unit)) := ⟨[.c [1, 0, 1, 0, 0, 1, 1, 0, 0, 1, 1, 0, 0], .c [1, 0, 1, 0, 0, 1, 1, 0, 0, 1, 1, 0, 1], .b 1, .c [1, 0, 1, 0, 0, 1, 1, 1], .l [1, 0, 1, 0, 0], .b 0, .c [1, 1]], ⟨[5], ⟨[.i .i64], []⟩⟩, fun p => some (.inl p.1.1)⟩
abbrev ixftm_l1_e1 : Leaf ((Int) ⊕ (Unit)) := ⟨[.c [1, 1, 0], .c [1, 1, 1]], ⟨[], ⟨[], []⟩⟩, fun p => some (.inr ())⟩
noncomputable def ixftm_l1_L (N : Nat) : LoopS := { at_ := ixftm_l1_at, sta := ixftm_l1_st, exits := [([.c [1, 0, 1, 0, 0, 1, 1, 0, 0, 1, 1, 0, 0], .c [1, 0, 1, 0, 0, 1, 1, 0, 0, 1, 1, 0, 1], .b 1, .c [1, 0, 1, 0, 0, 1, 1, 1], .l [1, 0, 1, 0, 0], .b 0, .c [1, 1]], ⟨[5], ⟨[.i .i64], []⟩⟩), ([.c [1, 1, 0], .c [1, 1, 1]], ⟨[], ⟨[], []⟩⟩)], run := fun p k => (ixftm_l1 N N p.1.1 p.1.2.1.2.1 p.1.2.2.1 p.1.2.2.2.1).bind fun e => match e with | .inl x => k (.inl ((x, ()), ())) | .inr x => k (.inr (.inl ((), ()))) }
theorem ixftm_l1_eq (N n_ : Nat) (s : List Int) (f : (List Int)) (u : Int) (u2 : Int) : ev (Z := (Int) ⊕ (Unit)) Try.prog (ixftm_sp N) ixftm_B [] [ixftm_l1_h (ixftm_l1 N n_), ixftm_l1_e0, ixftm_l1_e1] none 400 true ixftm_l1_at (stL ixftm_l1_st ((s, ((), (f, ())), u, u2, ()), ())) (stH ixftm_l1_st ((s, ((), (f, ())), u, u2, ()), ())) = ixftm_l1 N (n_ + 1) s f u u2 := by kernel_rfl
theorem ixftm_l1_ok (N : Nat) {top : Bool} : LoopOK Try.prog ixftm_B.c ixftm_B.n ixftm_B.m0 top (ixftm_l1_L N) := loop_of_ev (Z := (Int) ⊕ (Unit)) (N := N) (fun m p => ixftm_l1 N m p.1.1 p.1.2.1.2.1 p.1.2.2.1 p.1.2.2.2.1) (fun e => match e with | .inl x => .inl ((x, ()), ()) | .inr x => .inr (.inl ((), ()))) (fun _ p k => bind_congr_ (ixftm_l1 N N p.1.1 p.1.2.1.2.1 p.1.2.2.1 p.1.2.2.2.1) _ _ (fun e => by rcases e with x | x <;> rfl)) (fun _ => rfl) (fun m z E Xc hE hX hrec hx => leaf_of_ev (B := ixftm_B) (loops := []) (leaves := [ixftm_l1_h (ixftm_l1 N m), ixftm_l1_e0, ixftm_l1_e1]) (ixftm_all N) mixed trivial hE hX ⟨hrec, (fun p hp => by obtain rfl := Option.some.inj hp; exact hx), (fun p hp => by obtain rfl := Option.some.inj hp; exact hx), trivial⟩ RetOK.no (fun p => ixftm_l1_eq N m p.1.1 p.1.2.1.2.1 p.1.2.2.1 p.1.2.2.2.1))
abbrev ixftm_st : Sta := ⟨[0, 1], ⟨[.sl (.int .i64), .fn 56 [] [.fe (.sl (.int .i64))]], []⟩⟩
theorem ixftm_eq (N : Nat) (s : List Int) (f : (List Int)) : ev (Z := Int) Try.prog (ixftm_sp N) ixftm_B [ixftm_l1_L N] [] (some ixftm_rt) 400 false [.c [0], .c [1]] (stL ixftm_st ((s, ((), (f, ())), ()), ())) (stH ixftm_st ((s, ((), (f, ())), ()), ())) = ixftm_S N s f := by kernel_rfl
noncomputable def sp_ixftm (N : Nat) : Spec := { f := 113, ins := ⟨[.sl (.int .i64), .fn 56 [] [.fe (.sl (.int .i64))]], []⟩, outs := [⟨[.i .i64], []⟩], run := fun p k => (ixftm_S N p.1.1 p.1.2.1.2.1).bind fun r => k ((r, ()), ()) }
theorem sp_ixftm_ok (N : Nat) : SpecOK Try.prog (sp_ixftm N) := fn_sound (B := ixftm_B) (loops := [ixftm_l1_L N]) (leaves := []) (fun p => ixftm_S N p.1.1 p.1.2.1.2.1) (fun r => ((r, ()), ())) ixftm_rt (fun _ _ _ => rfl) (fun r z h => by cases h; rfl) Try.func113 (by kernel_rfl) (by kernel_rfl) (by kernel_rfl) rfl rfl (by kernel_rfl) (fun args w => Sem.pv_run _ _ _ (by kernel_rfl) w) (ixftm_all N) mixed ⟨ixftm_l1_ok N, trivial⟩ (fun z E Xc hE hX hret => trivial) (fun p => ixftm_eq N p.1.1 p.1.2.1.2.1)

def coftm_S (N : Nat) (s : List Int) (f : (List Int)) : Option Bool :=
  (ixftm_S N s f).bind fun x_1 =>
  some (decide (0 ≤ x_1))
noncomputable def coftm_sp (N : Nat) : List Spec := [sp_ixftm N]
theorem coftm_all (N : Nat) : AllP (SpecOK Try.prog) (coftm_sp N) := ⟨sp_ixftm_ok N, trivial⟩
noncomputable def coftm_c : Code := (Try.f46.body).getD .skip
noncomputable abbrev coftm_B : Body := { c := coftm_c, n := 9, res := [.tmp 4], outs := [⟨[.b], []⟩], m0 := 0 }
abbrev coftm_rt : altD coftm_B.outs → Option Bool := fun r => some r.1.1
abbrev coftm_st : Sta := ⟨[0, 1], ⟨[.sl (.int .i64), .fn 56 [] [.fe (.sl (.int .i64))]], []⟩⟩
theorem coftm_eq (N : Nat) (s : List Int) (f : (List Int)) : ev (Z := Bool) Try.prog (coftm_sp N) coftm_B [] [] (some coftm_rt) 400 false [.c [0], .c [1]] (stL coftm_st ((s, ((), (f, ())), ()), ())) (stH coftm_st ((s, ((), (f, ())), ()), ())) = coftm_S N s f := by kernel_rfl
noncomputable def sp_coftm (N : Nat) : Spec := { f := 46, ins := ⟨[.sl (.int .i64), .fn 56 [] [.fe (.sl (.int .i64))]], []⟩, outs := [⟨[.b], []⟩], run := fun p k => (coftm_S N p.1.1 p.1.2.1.2.1).bind fun r => k ((r, ()), ()) }
theorem sp_coftm_ok (N : Nat) : SpecOK Try.prog (sp_coftm N) := fn_sound (B := coftm_B) (loops := []) (leaves := []) (fun p => coftm_S N p.1.1 p.1.2.1.2.1) (fun r => ((r, ()), ())) coftm_rt (fun _ _ _ => rfl) (fun r z h => by cases h; rfl) Try.func46 (by kernel_rfl) (by kernel_rfl) (by kernel_rfl) rfl rfl (by kernel_rfl) (fun args w => Sem.pv_run _ _ _ (by kernel_rfl) w) (coftm_all N) mixed trivial (fun z E Xc hE hX hret => trivial) (fun p => coftm_eq N p.1.1 p.1.2.1.2.1)

def tmore_l1 (N : Nat) : Nat → (List Int) → Int → Int → Int → Int → Int → (List Int) → (List ((List (Int × (Int × Bool))) × ((List (Int × (Int × Int))) × Int))) → Option ((Unit) ⊕ (Unit))
  | 0, _, _, _, _, _, _, _, _ => none
  | n_ + 1, l, e, n, long, u, u2, never, g =>
    br (decide (u2 < u))
      (rng u2 g.length <|
      get g u2.toNat fun x_30 =>
      (fewest_S N x_30.1 x_30.2.1 x_30.2.2).bind fun (x_31, y_32) =>
      (count_S N x_30.1 x_30.2.1 x_30.2.2).bind fun (x_33, y_34) =>
      (even_S N x_30.1 x_30.2.1 x_30.2.2).bind fun (x_35, y_36, y_37) =>
      (never_S N x_30.1 x_30.2.1 x_30.2.2).bind fun (x_38, y_39) =>
      br (!decide (y_34 = 0))
        (some (.inl ()))
        (br (decide (x_33 < n))
          (some (.inl ()))
          (br (decide (e = 0))
            (br (!decide (y_32 = 0))
              (some (.inl ()))
              (br (!decide (y_37 = 0))
                (some (.inl ()))
                (br (!decide (y_39 = 0))
                  (some (.inl ()))
                  (br (decide ((l.length : Int) < (x_31.length : Int)))
                    (some (.inl ()))
                    (br (decide (long < y_36))
                      (some (.inl ()))
                      ((coftm_S N x_38 never).bind fun x_40 =>
                      br x_40
                        (some (.inl ()))
                        (chk (u2 + 1) <|
                        tmore_l1 N n_ l e n long u (u2 + 1) never g)))))))
            (chk (u2 + 1) <|
            tmore_l1 N n_ l e n long u (u2 + 1) never g))))
      (some (.inr ()))
def tmore_j1 (N : Nat) (t : List (Int × (Int × Bool))) (t2 : List (Int × (Int × Int))) (t3 : Int) (stop : Int) (breath : Int) (turn : Int) (stop2 : List (Int × (Int × Bool))) (stop3 : List (Int × (Int × Int))) (breath2 : List (Int × (Int × Bool))) (breath3 : List (Int × (Int × Int))) (turn2 : List (Int × (Int × Bool))) (turn3 : List (Int × (Int × Int))) : Option Bool :=
  (fewest_S N t t2 t3).bind fun (x_21, y_22) =>
  (count_S N t t2 t3).bind fun (x_23, y_24) =>
  (even_S N t t2 t3).bind fun (x_25, y_26, y_27) =>
  (never_S N t t2 t3).bind fun (x_28, y_29) =>
  br (!decide (y_22 = y_27))
    (some false)
    (br (!decide (y_22 = y_29))
      (some false)
      (br (!decide (y_24 = 0))
        (some false)
        (br (!((decide (y_22 = 0)) == (decide (0 < x_23))))
          (some false)
          ((tmore_l1 N N x_21 y_22 x_23 y_26 ([(stop2, stop3, stop), (breath2, breath3, breath), (turn2, turn3, turn)].length : Int) 0 x_28 [(stop2, stop3, stop), (breath2, breath3, breath), (turn2, turn3, turn)]).bind fun e => match e with
          | .inl _ =>
            some false
          | .inr _ =>
            (awake_S N).bind fun x_41 =>
            some x_41))))
def tmore_S (N : Nat) (numbers : List Int) (which : Int) (longer : Int) : Option Bool :=
  (hang_S N numbers).bind fun (x_1, y_2, y_3) =>
  (made_S N 10 3 x_1 y_2 y_3).bind fun (x_4, y_5, y_6, y_7, y_8, y_9) =>
  (copyxo_S N x_4 y_5 y_6).bind fun (x_10, y_11, y_12) =>
  (copyxo_S N x_4 y_5 y_6).bind fun (x_13, y_14, y_15) =>
  (copyxo_S N x_4 y_5 y_6).bind fun (x_16, y_17, y_18) =>
  grd (!decide ((x_4.length : Int) = 0)) <|
  rng (Int.tmod (IntKind.i64.wrap which) (x_4.length : Int)) y_11.length <|
  get y_11 ((Int.tmod (IntKind.i64.wrap which) (x_4.length : Int)).toNat) fun z_19 =>
  chk (y_6 + (Int.tmod (IntKind.i64.wrap longer) 9)) <|
  br (decide (0 < (y_5.length : Int)))
    (grd (!decide ((y_5.length : Int) = 0)) <|
    grd (!decide ((y_5.length : Int) = 0)) <|
    chk ((Int.tmod (IntKind.i64.wrap which) (y_5.length : Int)) + 1) <|
    (delturn_S N (Int.tmod (IntKind.i64.wrap which) (y_5.length : Int)) ((Int.tmod (IntKind.i64.wrap which) (y_5.length : Int)) + 1) y_18).bind fun x_20 =>
    tmore_j1 N x_4 y_5 y_6 x_10 (min 40 (y_6 + (Int.tmod (IntKind.i64.wrap longer) 9))) x_16 (y_11.set ((Int.tmod (IntKind.i64.wrap which) (x_4.length : Int)).toNat) (z_19.1, z_19.2.1, true)) y_12 y_14 y_15 y_17 x_20)
    (tmore_j1 N x_4 y_5 y_6 x_10 (min 40 (y_6 + (Int.tmod (IntKind.i64.wrap longer) 9))) x_16 (y_11.set ((Int.tmod (IntKind.i64.wrap which) (x_4.length : Int)).toNat) (z_19.1, z_19.2.1, true)) y_12 y_14 y_15 y_17 y_18)
noncomputable def tmore_sp (N : Nat) : List Spec := [sp_copyxo N, sp_hang N, sp_fewest N, sp_count N, sp_never N, sp_even N, sp_awake N, sp_made N, sp_delturn N, sp_coftm N]
theorem tmore_all (N : Nat) : AllP (SpecOK Try.prog) (tmore_sp N) := ⟨sp_copyxo_ok N, sp_hang_ok N, sp_fewest_ok N, sp_count_ok N, sp_never_ok N, sp_even_ok N, sp_awake_ok N, sp_made_ok N, sp_delturn_ok N, sp_coftm_ok N, trivial⟩
noncomputable def tmore_c : Code := (Try.f10.body).getD .skip
noncomputable abbrev tmore_B : Body := { c := tmore_c, n := 191, res := [.tmp 6], outs := [⟨[.b], []⟩], m0 := 0 }
abbrev tmore_rt : altD tmore_B.outs → Option Bool := fun r => some r.1.1
abbrev tmore_l1_at : List PI := [.c [1, 1, 1, 1, 1, 1, 1, 1, 1, 1, 1, 0, 1, 0, 0, 0], .c [1, 1, 1, 1, 1, 1, 1, 1, 1, 1, 1, 0, 1, 0, 0, 1], .l [1, 1, 1, 1, 1, 1, 1, 1, 1, 1, 1, 0, 1, 0, 0], .b 0, .c [1, 1, 1, 1, 1, 1, 1, 1, 1, 1, 1, 1]]
abbrev tmore_l1_st : Sta := ⟨[11, 12, 13, 16, 18, 122, 123, 124], ⟨[.sl (.int .i64), .i .i64, .i .i64, .i .i64, .own 0 0, .ols 1, .i .i64, .i .i64], [.segs [.sl (.int .i64)], .lst (.pair (.sl (.pair (.int .i64) (.pair (.int .i64) .bool))) (.pair (.sl (.pair (.int .i64) (.pair (.int .i64) (.int .i64)))) (.int .i64)))]⟩⟩
abbrev tmore_l1_h (rec : (List Int) → Int → Int → Int → Int → Int → (List Int) → (List ((List (Int × (Int × Bool))) × ((List (Int × (Int × Int))) × Int))) → Option ((Unit) ⊕ (Unit))) : Leaf ((Unit) ⊕ (Unit)) := ⟨tmore_l1_at, tmore_l1_st, fun p => rec p.1.1 p.1.2.1 p.1.2.2.1 p.1.2.2.2.1 p.1.2.2.2.2.2.2.1 p.1.2.2.2.2.2.2.2.1 p.2.1.1 p.2.2.1⟩
abbrev tmore_l1_e0 : Leaf ((Unit) ⊕ (Unit)) := ⟨[.c [1, 1, 1, 1, 1, 1, 1, 1, 1, 1, 1, 0, 1, 0, 0, 1, 1, 0, 0, 1, 1, 1, 1, 1, 1, 0, 0], .c [1, 1, 1, 1, 1, 1, 1, 1, 1, 1, 1, 0, 1, 0, 0, 1, 1, 0, 0, 1, 1, 1, 1, 1, 1, 0, 1], .b 1, .c [1, 1, 1, 1, 1, 1, 1, 1, 1, 1, 1, 0, 1, 0, 0, 1, 1, 1], .l [1, 1, 1, 1, 1, 1, 1, 1, 1, 1, 1, 0, 1, 0, 0], .b 0, .c [1, 1, 1, 1, 1, 1, 1, 1, 1, 1, 1, 1]], ⟨[], ⟨[], []⟩⟩, fun p => some (.inl ())⟩
abbrev tmore_l1_e1 : Leaf ((Unit) ⊕ (Unit)) := ⟨[.c [1, 1, 1, 1, 1, 1, 1, 1, 1, 1, 1, 1, 0], .c [1, 1, 1, 1, 1, 1, 1, 1, 1, 1, 1, 1, 1]], ⟨[], ⟨[], []⟩⟩, fun p => some (.inr ())⟩
noncomputable def tmore_l1_L (N : Nat) : LoopS := { at_ := tmore_l1_at, sta := tmore_l1_st, exits := [([.c [1, 1, 1, 1, 1, 1, 1, 1, 1, 1, 1, 0, 1, 0, 0, 1, 1, 0, 0, 1, 1, 1, 1, 1, 1, 0, 0], .c [1, 1, 1, 1, 1, 1, 1, 1, 1, 1, 1, 0, 1, 0, 0, 1, 1, 0, 0, 1, 1, 1, 1, 1, 1, 0, 1], .b 1, .c [1, 1, 1, 1, 1, 1, 1, 1, 1, 1, 1, 0, 1, 0, 0, 1, 1, 1], .l [1, 1, 1, 1, 1, 1, 1, 1, 1, 1, 1, 0, 1, 0, 0], .b 0, .c [1, 1, 1, 1, 1, 1, 1, 1, 1, 1, 1, 1]], ⟨[], ⟨[], []⟩⟩), ([.c [1, 1, 1, 1, 1, 1, 1, 1, 1, 1, 1, 1, 0], .c [1, 1, 1, 1, 1, 1, 1, 1, 1, 1, 1, 1, 1]], ⟨[], ⟨[], []⟩⟩)], run := fun p k => (tmore_l1 N N p.1.1 p.1.2.1 p.1.2.2.1 p.1.2.2.2.1 p.1.2.2.2.2.2.2.1 p.1.2.2.2.2.2.2.2.1 p.2.1.1 p.2.2.1).bind fun e => match e with | .inl x => k (.inl ((), ())) | .inr x => k (.inr (.inl ((), ()))) }
theorem tmore_l1_eq (N n_ : Nat) (l : List Int) (e : Int) (n : Int) (long : Int) (u : Int) (u2 : Int) (never : List Int) (g : List ((List (Int × (Int × Bool))) × ((List (Int × (Int × Int))) × Int))) : ev (Z := (Unit) ⊕ (Unit)) Try.prog (tmore_sp N) tmore_B [] [tmore_l1_h (tmore_l1 N n_), tmore_l1_e0, tmore_l1_e1] none 400 true tmore_l1_at (stL tmore_l1_st ((l, e, n, long, (), (), u, u2, ()), ((never, ()), g, ()))) (stH tmore_l1_st ((l, e, n, long, (), (), u, u2, ()), ((never, ()), g, ()))) = tmore_l1 N (n_ + 1) l e n long u u2 never g := by kernel_rfl
theorem tmore_l1_ok (N : Nat) {top : Bool} : LoopOK Try.prog tmore_B.c tmore_B.n tmore_B.m0 top (tmore_l1_L N) := loop_of_ev (Z := (Unit) ⊕ (Unit)) (N := N) (fun m p => tmore_l1 N m p.1.1 p.1.2.1 p.1.2.2.1 p.1.2.2.2.1 p.1.2.2.2.2.2.2.1 p.1.2.2.2.2.2.2.2.1 p.2.1.1 p.2.2.1) (fun e => match e with | .inl x => .inl ((), ()) | .inr x => .inr (.inl ((), ()))) (fun _ p k => bind_congr_ (tmore_l1 N N p.1.1 p.1.2.1 p.1.2.2.1 p.1.2.2.2.1 p.1.2.2.2.2.2.2.1 p.1.2.2.2.2.2.2.2.1 p.2.1.1 p.2.2.1) _ _ (fun e => by rcases e with x | x <;> rfl)) (fun _ => rfl) (fun m z E Xc hE hX hrec hx => leaf_of_ev (B := tmore_B) (loops := []) (leaves := [tmore_l1_h (tmore_l1 N m), tmore_l1_e0, tmore_l1_e1]) (tmore_all N) mixed trivial hE hX ⟨hrec, (fun p hp => by obtain rfl := Option.some.inj hp; exact hx), (fun p hp => by obtain rfl := Option.some.inj hp; exact hx), trivial⟩ RetOK.no (fun p => tmore_l1_eq N m p.1.1 p.1.2.1 p.1.2.2.1 p.1.2.2.2.1 p.1.2.2.2.2.2.2.1 p.1.2.2.2.2.2.2.2.1 p.2.1.1 p.2.2.1))
abbrev tmore_j1_at : List PI := [.c [1, 1, 1, 1, 1, 1, 0], .c [1, 1, 1, 1, 1, 1, 1]]
abbrev tmore_j1_st : Sta := ⟨[7, 8, 9, 10], ⟨[.own 0 0, .own 1 0, .own 2 0, .own 3 0], [.segs [.sl (.pair (.int .i64) (.pair (.int .i64) .bool)), .sl (.pair (.int .i64) (.pair (.int .i64) (.int .i64))), .i .i64], .segs [.ols 4, .ols 5, .i .i64], .segs [.ols 6, .ols 7, .i .i64], .segs [.ols 8, .ols 9, .i .i64], .lst (.pair (.int .i64) (.pair (.int .i64) .bool)), .lst (.pair (.int .i64) (.pair (.int .i64) (.int .i64))), .lst (.pair (.int .i64) (.pair (.int .i64) .bool)), .lst (.pair (.int .i64) (.pair (.int .i64) (.int .i64))), .lst (.pair (.int .i64) (.pair (.int .i64) .bool)), .lst (.pair (.int .i64) (.pair (.int .i64) (.int .i64)))]⟩⟩
abbrev tmore_j1_k (N : Nat) : Leaf Bool := ⟨tmore_j1_at, tmore_j1_st, fun p => tmore_j1 N p.2.1.1 p.2.1.2.1 p.2.1.2.2.1 p.2.2.1.2.2.1 p.2.2.2.1.2.2.1 p.2.2.2.2.1.2.2.1 p.2.2.2.2.2.1 p.2.2.2.2.2.2.1 p.2.2.2.2.2.2.2.1 p.2.2.2.2.2.2.2.2.1 p.2.2.2.2.2.2.2.2.2.1 p.2.2.2.2.2.2.2.2.2.2.1⟩
theorem tmore_j1_eq (N : Nat) (t : List (Int × (Int × Bool))) (t2 : List (Int × (Int × Int))) (t3 : Int) (stop : Int) (breath : Int) (turn : Int) (stop2 : List (Int × (Int × Bool))) (stop3 : List (Int × (Int × Int))) (breath2 : List (Int × (Int × Bool))) (breath3 : List (Int × (Int × Int))) (turn2 : List (Int × (Int × Bool))) (turn3 : List (Int × (Int × Int))) : ev (Z := Bool) Try.prog (tmore_sp N) tmore_B [tmore_l1_L N] [] (some tmore_rt) 400 true tmore_j1_at (stL tmore_j1_st (((), (), (), (), ()), ((t, t2, t3, ()), ((), (), stop, ()), ((), (), breath, ()), ((), (), turn, ()), stop2, stop3, breath2, breath3, turn2, turn3, ()))) (stH tmore_j1_st (((), (), (), (), ()), ((t, t2, t3, ()), ((), (), stop, ()), ((), (), breath, ()), ((), (), turn, ()), stop2, stop3, breath2, breath3, turn2, turn3, ()))) = tmore_j1 N t t2 t3 stop breath turn stop2 stop3 breath2 breath3 turn2 turn3 := by kernel_rfl
theorem tmore_j1_lf (N : Nat) {z : Bool} {E : EE} {Xc : Ctx} (hE : EOK tmore_B.m0 E) (hX : CxOK true Xc) (hret : RetOK Try.prog tmore_B E Xc z (some tmore_rt)) : LeafOK Try.prog tmore_B.c tmore_B.n tmore_B.m0 E Xc z (tmore_j1_k N) := leaf_of_ev (B := tmore_B) (loops := [tmore_l1_L N]) (leaves := []) (tmore_all N) mixed ⟨tmore_l1_ok N, trivial⟩ hE hX trivial hret (fun p => tmore_j1_eq N p.2.1.1 p.2.1.2.1 p.2.1.2.2.1 p.2.2.1.2.2.1 p.2.2.2.1.2.2.1 p.2.2.2.2.1.2.2.1 p.2.2.2.2.2.1 p.2.2.2.2.2.2.1 p.2.2.2.2.2.2.2.1 p.2.2.2.2.2.2.2.2.1 p.2.2.2.2.2.2.2.2.2.1 p.2.2.2.2.2.2.2.2.2.2.1)
abbrev tmore_st : Sta := ⟨[0, 1, 2], ⟨[.sl (.int .u8), .i .u8, .i .u8], []⟩⟩
theorem tmore_eq (N : Nat) (numbers : List Int) (which : Int) (longer : Int) : ev (Z := Bool) Try.prog (tmore_sp N) tmore_B [tmore_l1_L N] [tmore_j1_k N] (some tmore_rt) 400 false [.c [0], .c [1]] (stL tmore_st ((numbers, which, longer, ()), ())) (stH tmore_st ((numbers, which, longer, ()), ())) = tmore_S N numbers which longer := by kernel_rfl
noncomputable def sp_tmore (N : Nat) : Spec := { f := 10, ins := ⟨[.sl (.int .u8), .i .u8, .i .u8], []⟩, outs := [⟨[.b], []⟩], run := fun p k => (tmore_S N p.1.1 p.1.2.1 p.1.2.2.1).bind fun r => k ((r, ()), ()) }
theorem sp_tmore_ok (N : Nat) : SpecOK Try.prog (sp_tmore N) := fn_sound (B := tmore_B) (loops := [tmore_l1_L N]) (leaves := [tmore_j1_k N]) (fun p => tmore_S N p.1.1 p.1.2.1 p.1.2.2.1) (fun r => ((r, ()), ())) tmore_rt (fun _ _ _ => rfl) (fun r z h => by cases h; rfl) Try.func10 (by kernel_rfl) (by kernel_rfl) (by kernel_rfl) rfl rfl (by kernel_rfl) (fun args w => Sem.pv_run _ _ _ (by kernel_rfl) w) (tmore_all N) mixed ⟨tmore_l1_ok N, trivial⟩ (fun z E Xc hE hX hret => ⟨tmore_j1_lf N hE hX hret, trivial⟩) (fun p => tmore_eq N p.1.1 p.1.2.1 p.1.2.2.1)

end Go.Proofs.Ytfamlpbdhhikdaa

/-
  Parts of a proof, put together: X3, TAw, TP2, TP3, TP4, TP5, TD1, TD2, TD3, TD4, TD5, X4, X5, TD6, TD7, TD8, TD9, TB.
  Conditions: none.
-/
import Derived.Test.YtfamlpbdhhikdaaZg
namespace Go.Proofs.Ytfamlpbdhhikdaa
set_option linter.all false
open Go

def has_l1 (N : Nat) : Nat → (List Int) → Int → Int → Option ((Unit) ⊕ (Unit))
  | 0, _, _, _ => none
  | n_ + 1, l, n, i =>
    br (decide (i < (l.length : Int)))
      (idx l i fun x_1 =>
      br (decide (x_1 = n))
        (some (.inl ()))
        (chk (i + 1) <|
        has_l1 N n_ l n (i + 1)))
      (some (.inr ()))
def has_S (N : Nat) (l : List Int) (n : Int) : Option Bool :=
  (has_l1 N N l n 0).bind fun e => match e with
  | .inl _ =>
    some true
  | .inr _ =>
    some false
def otherwise_l1 (N : Nat) : Nat → (List Int) → Int → Int → Int → Int → Option ((Unit) ⊕ (List Int × Int × Int × Int))
  | 0, _, _, _, _, _ => none
  | n_ + 1, l, w, x, x2, x3 =>
    br (decide (w ≤ x3))
      ((has_S N l w).bind fun x_1 =>
      br (!x_1)
        (some (.inl ()))
        (chk (w + 1) <|
        otherwise_l1 N n_ l (w + 1) x x2 x3))
      (some (.inr (l, x, x2, x3)))
def otherwise_S (N : Nat) (x : Int) (x2 : Int) (x3 : Int) (l : List Int) : Option Bool :=
  (otherwise_l1 N N l x2 x x2 x3).bind fun e => match e with
  | .inl _ =>
    some false
  | .inr (l_2, x_3, x2_4, x3_5) =>
    (has_S N l_2 x_3).bind fun x_6 =>
    some (!x_6)
def said_j1 (N : Nat) (rec : (List Int) → Int → (List (Int × (Int × Bool))) → (List (Int × (Int × Int))) → Int → (List Int) → Option (List Int)) (l : List Int) (i : Int) (t : List (Int × (Int × Bool))) (t2 : List (Int × (Int × Int))) (t3 : Int) (out : List Int) : Option (List Int) :=
  chk (i + 1) <|
  rec l (i + 1) t t2 t3 out
def said_l1 (N : Nat) : Nat → (List Int) → Int → (List (Int × (Int × Bool))) → (List (Int × (Int × Int))) → Int → (List Int) → Option (List Int)
  | 0, _, _, _, _, _, _ => none
  | n_ + 1, l, i, t, t2, t3, out =>
    br (decide (i < (t2.length : Int)))
      (idx t2 i fun x_1 =>
      (otherwise_S N x_1.1 x_1.2.1 x_1.2.2 l).bind fun x_2 =>
      br x_2
        (lim (out.length + [i].length) <|
        said_j1 N (said_l1 N n_) l i t t2 t3 (out ++ [i]))
        (said_j1 N (said_l1 N n_) l i t t2 t3 out))
      (some (out))
def said_S (N : Nat) (t : List (Int × (Int × Bool))) (t2 : List (Int × (Int × Int))) (t3 : Int) (l : List Int) : Option (List Int) :=
  (said_l1 N N l 0 t t2 t3 []).bind fun out_3 =>
  some out_3
end Go.Proofs.Ytfamlpbdhhikdaa

namespace Go.Proofs.Ytfamlpbdhhikdaa
set_option linter.all false
open Go
theorem awake_v : awake_S 1100 = some true := by kernel_rfl
end Go.Proofs.Ytfamlpbdhhikdaa

namespace Go.Proofs.Ytfamlpbdhhikdaa
set_option linter.all false
open Go

/-! ### All elements -/
theorem every_gen {α : Type} {f : α → Option Bool} {p : α → Bool} {s : List α} {N : Nat} (hf : ∀ x ∈ s, f x = some (p x)) (hs : s.length ≤ 1000000) (hN : s.length < N) :
    (((ixS (fun x => (f x).bind fun c => some (!c)) N s).bind fun x => some (decide (0 ≤ x))).bind fun x => some (!x)) = some (s.all p) := by
  rw [ixS_any (p := fun x => !p x) (fun x hx => by rw [hf x hx]; rfl) hs hN]
  simp only [Option.bind_some, any_not]
section
variable (N : Nat)
theorem ixfw_gen : ∀ (n : Nat) (s : List Wd) (u u2 : Int), ixfw_l1 N n s u u2 = ixL (fun x => every1w_S N x.1 x.2.1 x.2.2) n s u u2
  | 0, _, _, _ => rfl
  | n + 1, s, u, u2 => by unfold ixfw_l1 ixL; simp only [ixfw_gen n]
theorem ixft3_gen : ∀ (n : Nat) (s : List Tn) (u u2 : Int), ixft3_l1 N n s u u2 = ixL (fun x => every1t3_S N x.1 x.2.1 x.2.2) n s u u2
  | 0, _, _, _ => rfl
  | n + 1, s, u, u2 => by unfold ixft3_l1 ixL; simp only [ixft3_gen n]
theorem ixft4_gen : ∀ (n : Nat) (s : List Tn) (u u2 : Int), ixft4_l1 N n s u u2 = ixL (fun x => every1t4_S N x.1 x.2.1 x.2.2) n s u u2
  | 0, _, _, _ => rfl
  | n + 1, s, u, u2 => by unfold ixft4_l1 ixL; simp only [ixft4_gen n]
theorem ixfi1_gen : ∀ (n : Nat) (s : List Int) (u u2 : Int), ixfi1_l1 N n s u u2 = ixL (every1i1_S N) n s u u2
  | 0, _, _, _ => rfl
  | n + 1, s, u, u2 => by unfold ixfi1_l1 ixL; simp only [ixfi1_gen n]
end
def okw (w : Wd) : Bool := decide (1 ≤ w.1 ∧ w.1 ≤ 9) && decide (0 ≤ w.2.1 ∧ w.2.1 ≤ 20)
def inT (n : Nat) (x : Int) : Bool := decide (0 ≤ x ∧ x ≤ (n : Int) - 1)
def ok2 (n : Nat) (x : Tn) : Bool := inT n x.1 && (inT n x.2.1 && inT n x.2.2)
def ok3 (x : Tn) : Bool := decide (x.2.1 ≤ x.2.2)
def ok4 (x : Tn) : Bool := !decide (x.2.1 ≤ x.1 ∧ x.1 ≤ x.2.2)
def in12 (x : Int) : Bool := decide (1 ≤ x ∧ x ≤ 12)
section
variable {N : Nat} {ws : List Wd} {ts : List Tn} {br_ : Int}
theorem everyw_v (h : ws.length ≤ 1000000) (hN : ws.length < N) : everyw_S N ws = some (ws.all okw) := by
  unfold everyw_S cofw_S ixfw_S
  rw [← every_gen (f := fun x : Wd => check1_S N x.1 x.2.1 x.2.2) (p := okw) (s := ws) (N := N) (fun x _ => ?_) h hN]
  · unfold ixS
    rw [ixfw_gen]
    rfl
  · unfold check1_S okw
    rw [in_v, in_v]
    by_cases h : 1 ≤ x.1 ∧ x.1 ≤ 9 <;> simp [br, h]
theorem everyt3_v (h : ts.length ≤ 1000000) (hN : ts.length < N) : everyt3_S N ts = some (ts.all ok3) := by
  unfold everyt3_S coft3_S ixft3_S
  rw [← every_gen (f := fun x : Tn => check3_S N x.1 x.2.1 x.2.2) (p := ok3) (s := ts) (N := N) (fun x _ => ?_) h hN]
  · unfold ixS
    rw [ixft3_gen]
    rfl
  · rfl
theorem everyt4_v (h : ts.length ≤ 1000000) (hN : ts.length < N) : everyt4_S N ts = some (ts.all ok4) := by
  unfold everyt4_S coft4_S ixft4_S
  rw [← every_gen (f := fun x : Tn => check4_S N x.1 x.2.1 x.2.2) (p := ok4) (s := ts) (N := N) (fun x _ => ?_) h hN]
  · unfold ixS
    rw [ixft4_gen]
    rfl
  · unfold check4_S ok4
    rw [in_v]; rfl
theorem everyi1_v {l : List Int} (h : l.length ≤ 1000000) (hN : l.length < N) : everyi1_S N l = some (l.all in12) := by
  unfold everyi1_S cofi1_S ixfi1_S
  rw [← every_gen (f := reading1_S N) (p := in12) (s := l) (N := N) (fun x _ => ?_) h hN]
  · unfold ixS
    rw [ixfi1_gen]
    rfl
  · unfold reading1_S in12
    rw [in_v]; rfl
theorem word_v (h : ws.length ≤ 1000000) (n : Int) : word_S N ws ts br_ n = some (inT ws.length n) := by
  unfold word_S
  rw [chk_eq (by omega), in_v]; rfl
theorem check2_v (h : ws.length ≤ 1000000) (x : Tn) : check2_S N x.1 x.2.1 x.2.2 (ws, ts, br_) = some (ok2 ws.length x) := by
  unfold check2_S ok2
  simp only [word_v h, Option.bind_some]
  cases inT ws.length x.1 <;> cases inT ws.length x.2.1 <;> cases inT ws.length x.2.2 <;> rfl
theorem ixft2_gen (h : ws.length ≤ 1000000) : ∀ (n : Nat) (s : List Tn) (u u2 : Int), ixft2_l1 N n s u u2 (ws, ts, br_) = (ixL (fun x => some (!ok2 ws.length x)) n s u u2).map fun r => match r with | .inl i => .inl (i, (ws, ts, br_)) | .inr _ => .inr (ws, ts, br_)
  | 0, _, _, _ => rfl
  | n + 1, s, u, u2 => by
    unfold ixft2_l1 ixL every1t2_S
    simp only [check2_v h, Option.bind_some, ixft2_gen h n]
    unfold br
    split
    · unfold idx
      split
      · cases s[u2.toNat]? with
        | none => rfl
        | some a =>
          dsimp only
          cases ok2 ws.length a
          · rfl
          · simp only [Bool.not_true, Bool.false_eq_true, if_false]
            unfold chk
            split <;> rfl
      · rfl
    · rfl
theorem everyt2_v (hw : ws.length ≤ 1000000) (h : ts.length ≤ 1000000) (hN : ts.length < N) : everyt2_S N ts (ws, ts, br_) = some (ts.all (ok2 ws.length)) := by
  unfold everyt2_S coft2_S ixft2_S
  rw [← every_gen (f := fun x : Tn => some (ok2 ws.length x)) (p := ok2 ws.length) (s := ts) (N := N) (fun x _ => rfl) h hN]
  unfold ixS
  rw [ixft2_gen hw]
  simp only [Option.bind_some]
  cases ixL (fun x => some (!ok2 ws.length x)) N ts ts.length 0 with
  | none => rfl
  | some r => cases r <;> rfl
end
/-- The error of a text. -/
def checkT (ws : List Wd) (ts : List Tn) (br_ : Int) : Int :=
  if ¬ (1 ≤ (ws.length : Int) ∧ (ws.length : Int) ≤ 12) then 2 else if 6 < (ts.length : Int) then 2 else if ¬ (1 ≤ br_ ∧ br_ ≤ 40) then 3 else if ws.all okw = false then 3 else
  if ts.all (ok2 ws.length) = false then 1 else if ts.all ok3 = false then 4 else if ts.all ok4 = false then 7 else 0
section
variable {N : Nat} {ws : List Wd} {ts : List Tn} {br_ : Int}
theorem check_v (hN : 20 ≤ N) (hw : ws.length ≤ 1000000) (ht : ts.length ≤ 1000000) : check_S N ws ts br_ = some (checkT ws ts br_) := by
  unfold check_S checkT
  rw [in_v]
  simp only [Option.bind_some]
  by_cases c1 : 1 ≤ (ws.length : Int) ∧ (ws.length : Int) ≤ 12
  rotate_left
  · rw [br_nnd c1, if_pos c1]
  rw [br_nd c1, if_neg (by simpa using c1)]
  by_cases c2 : 6 < (ts.length : Int)
  · rw [br_dec c2, if_pos c2]
  rw [br_ndec c2, if_neg c2, in_v]
  simp only [Option.bind_some]
  by_cases c3 : 1 ≤ br_ ∧ br_ ≤ 40
  rotate_left
  · rw [br_nnd c3, if_pos c3]
  rw [br_nd c3, if_neg (by simpa using c3), everyw_v hw (by omega), everyt2_v hw ht (by omega), everyt3_v ht (by omega), everyt4_v ht (by omega)]
  simp only [Option.bind_some]
  cases ws.all okw <;> cases ts.all (ok2 ws.length) <;> cases ts.all ok3 <;> cases ts.all ok4 <;> rfl
/-! ### Copies, comparisons -/
end
end Go.Proofs.Ytfamlpbdhhikdaa

namespace Go.Proofs.Ytfamlpbdhhikdaa
set_option linter.all false
open Go

structure TFine (ws : List Wd) (ts : List Tn) (br_ : Int) : Prop where
  n0 : 1 ≤ ws.length
  n : ws.length ≤ 12
  t : ts.length ≤ 6
  b0 : 1 ≤ br_
  b1 : br_ ≤ 40
  w : ∀ w ∈ ws, (1 ≤ w.1 ∧ w.1 ≤ 9) ∧ 0 ≤ w.2.1 ∧ w.2.1 ≤ 20
  x : ∀ x ∈ ts, (0 ≤ x.1 ∧ x.1 < ws.length) ∧ (0 ≤ x.2.1 ∧ x.2.1 < ws.length) ∧ (0 ≤ x.2.2 ∧ x.2.2 < ws.length) ∧ x.2.1 ≤ x.2.2 ∧ ¬ (x.2.1 ≤ x.1 ∧ x.1 ≤ x.2.2)
section
variable {N : Nat} {ws : List Wd} {ts : List Tn} {br_ : Int}
theorem tfine_of (h : checkT ws ts br_ = 0) : TFine ws ts br_ := by
  unfold checkT at h
  split at h
  · omega
  rename_i c1
  split at h
  · omega
  split at h
  · omega
  rename_i c3
  split at h
  · omega
  rename_i c4
  split at h
  · omega
  rename_i c5
  split at h
  · omega
  rename_i c6
  split at h
  · omega
  rename_i c7
  simp only [Bool.not_eq_false, List.all_eq_true] at c4 c5 c6 c7
  refine ⟨by omega, by omega, by omega, by omega, by omega, fun w hw => ?_, fun x hx => ?_⟩
  · have := c4 w hw
    simpa [okw] using this
  · have h1 := c5 x hx; have h2 := c6 x hx; have h3 := c7 x hx
    simp only [ok2, inT, ok3, ok4, Bool.and_eq_true, decide_eq_true_eq, Bool.not_eq_true', decide_eq_false_iff_not] at h1 h2 h3
    exact ⟨by omega, by omega, by omega, h2, h3⟩
theorem TFine.okW (h : TFine ws ts br_) : okW ws = true := okW_iff.2 ⟨by have := h.n; omega, fun w hw => by have := (h.w w hw).1; omega⟩
theorem opened_v (hN : 20 ≤ N) (hw : ws.length ≤ 1000000) (ht : ts.length ≤ 1000000) : opened_S N ws ts br_ = some (if checkT ws ts br_ = 0 then .inl ((ws, ts, br_), 0) else .inr (checkT ws ts br_)) := by
  unfold opened_S
  rw [check_v hN hw ht]
  simp only [Option.bind_some]
  by_cases c : checkT ws ts br_ = 0
  · rw [br_nd c, if_pos c]
  · rw [br_nnd c, if_neg c]
/-! ### Lists of words -/
theorem has_l1_p {l : List Int} {v : Int} (hl : l.length ≤ 1000000) : ∀ (n k : Nat), l.length < n + k → k ≤ l.length → has_l1 N n l v k = some (if (l.drop k).contains v then .inl () else .inr ())
  | 0, k, h, _ => by omega
  | n + 1, k, h, hk => by
    unfold has_l1
    by_cases c : k < l.length
    · have ih := has_l1_p (v := v) hl n (k + 1) (by omega) (by omega)
      rw [show ((k + 1 : Nat) : Int) = (k : Int) + 1 by omega] at ih
      rw [br_dec (by omega), idx_eq (by omega) (gets c 0), drop_cons c 0, List.contains_cons]
      generalize l.getD k 0 = x at *
      by_cases d : x = v
      · subst d; rw [br_dec rfl]; simp
      · rw [br_ndec d, chk_eq (by omega), ih, show (v == x) = false by simp; exact fun e => d e.symm, Bool.false_or]
    · rw [br_ndec (by omega), List.drop_of_length_le (by omega)]; rfl
theorem has_v {l : List Int} {v : Int} (hl : l.length ≤ 1000000) (hN : l.length < N) : has_S N l v = some (l.contains v) := by
  unfold has_S
  have := has_l1_p (N := N) (v := v) hl N 0 (by omega) (by omega)
  simp only [Int.natCast_zero, List.drop_zero] at this
  rw [this]
  cases l.contains v <;> rfl
/-- The numbers from one on up to another one. -/
def wordsL (a b : Int) : List Int := (List.range (b - a).toNat).map fun (i : Nat) => a + (i : Int)
/-- Some words have the whole core of a turn. -/
def coreB (l : List Int) (x : Tn) : Bool := (wordsL x.2.1 (x.2.2 + 1)).all fun w => l.contains w
def sayP (l : List Int) (x : Tn) : Bool := coreB l x && !l.contains x.1
theorem otherwise_l1_p {l : List Int} (hl : l.length ≤ 1000000) (hN : l.length < N) {x : Tn} (hx : -1000 ≤ x.2.1 ∧ x.2.2 ≤ 1000) : ∀ (n : Nat) (w : Int), (x.2.2 + 1 - w).toNat < n → x.2.1 ≤ w →
    otherwise_l1 N n l w x.1 x.2.1 x.2.2 = some (if (wordsL w (x.2.2 + 1)).all (fun w => l.contains w) then .inr (l, x.1, x.2.1, x.2.2) else .inl ())
  | 0, w, h, _ => by omega
  | n + 1, w, h, h1 => by
    unfold otherwise_l1
    by_cases c : w ≤ x.2.2
    · have ih := otherwise_l1_p hl hN hx n (w + 1) (by omega) (by omega)
      have e : wordsL w (x.2.2 + 1) = w :: wordsL (w + 1) (x.2.2 + 1) := by
        unfold wordsL
        rw [show (x.2.2 + 1 - w).toNat = (x.2.2 + 1 - (w + 1)).toNat + 1 by omega, List.range_succ_eq_map, List.map_cons, List.map_map]
        congr 1
        · simp
        · refine List.map_congr_left fun i _ => ?_
          simp only [Function.comp]; omega
      rw [e, List.all_cons, br_dec c, has_v hl hN]
      simp only [Option.bind_some]
      cases l.contains w
      · rfl
      · rw [Bool.not_true, br_false, chk_eq (by omega), ih, Bool.true_and]
    · rw [br_ndec c]
      have : wordsL w (x.2.2 + 1) = [] := by unfold wordsL; rw [show (x.2.2 + 1 - w).toNat = 0 by omega]; rfl
      rw [this]; rfl
theorem otherwise_v {l : List Int} (hl : l.length ≤ 1000000) (hN : l.length < N) {x : Tn} (hx : -1000 ≤ x.2.1 ∧ x.2.2 ≤ 1000) (hN2 : (x.2.2 + 1 - x.2.1).toNat < N) : otherwise_S N x.1 x.2.1 x.2.2 l = some (sayP l x) := by
  unfold otherwise_S sayP coreB
  rw [otherwise_l1_p hl hN hx N x.2.1 hN2 (by omega)]
  cases (wordsL x.2.1 (x.2.2 + 1)).all (fun w => l.contains w)
  · rfl
  · simp only [if_true, Option.bind_some]
    rw [has_v hl hN]; rfl
/-- The turns that are so. -/
def selK (p : Tn → Bool) (ts : List Tn) (k : Nat) : List Int := ((List.range k).filter fun i => p (ts.getD i (0, 0, 0))).map fun (i : Nat) => (i : Int)
theorem selK_len (p : Tn → Bool) (ts : List Tn) (k : Nat) : (selK p ts k).length ≤ k := by
  have := List.length_filter_le (fun i => p (ts.getD i (0, 0, 0))) (List.range k)
  simp only [selK, List.length_map]
  simpa using this
theorem selK_succ (p : Tn → Bool) (ts : List Tn) (k : Nat) : selK p ts (k + 1) = selK p ts k ++ (if p (ts.getD k (0, 0, 0)) = true then [(k : Int)] else []) := by
  simp only [selK, List.range_succ, List.filter_append, List.map_append]
  congr 1
  rw [List.filter_cons]
  by_cases h : p (ts.getD k (0, 0, 0)) = true
  · rw [if_pos h, if_pos h]; rfl
  · rw [if_neg h, if_neg h]; rfl
theorem said_l1_p {l : List Int} {p : Tn → Bool} (ht : ts.length ≤ 1000) (ho : ∀ x ∈ ts, otherwise_S N x.1 x.2.1 x.2.2 l = some (p x)) : ∀ (n k : Nat), ts.length < n + k → k ≤ ts.length → said_l1 N n l k ws ts br_ (selK p ts k) = some (selK p ts ts.length)
  | 0, k, h, _ => by omega
  | n + 1, k, h, hk => by
    unfold said_l1
    by_cases c : k < ts.length
    · have ih := said_l1_p ht ho n (k + 1) (by omega) (by omega)
      rw [selK_succ] at ih
      have hl := selK_len p ts k
      have hp := ho _ (getD_mem (d := (0, 0, 0)) c)
      have g := gets c (0, 0, 0)
      generalize ts.getD k (0, 0, 0) = x at *
      have hj : ∀ out, said_j1 N (said_l1 N n) l k ws ts br_ out = said_l1 N n l ((k + 1 : Nat) : Int) ws ts br_ out := fun out => by
        unfold said_j1
        rw [chk_eq (by omega)]; rfl
      rw [br_dec (by omega), idx_eq (by omega) g, hp]
      simp only [Option.bind_some, hj]
      cases hq : p x
      · rw [br_false]
        simpa [hq] using ih
      · rw [br_true, lim_eq (by simp; omega)]
        simpa [hq] using ih
    · rw [br_ndec (by omega)]
      obtain rfl : k = ts.length := by omega
      rfl
theorem said_v {l : List Int} {p : Tn → Bool} (ht : ts.length ≤ 1000) (hN : ts.length < N) (ho : ∀ x ∈ ts, otherwise_S N x.1 x.2.1 x.2.2 l = some (p x)) : said_S N ws ts br_ l = some (selK p ts ts.length) := by
  unfold said_S
  have := said_l1_p (N := N) (ws := ws) (br_ := br_) ht ho N 0 (by omega) (by omega)
  simp only [Int.natCast_zero] at this
  have e : selK p ts 0 = [] := rfl
  rw [e] at this
  rw [this]; rfl
theorem TFine.said (h : TFine ws ts br_) (hN : 20 ≤ N) {l : List Int} (hl : l.length ≤ 1000000) (hlN : l.length < N) : said_S N ws ts br_ l = some (selK (sayP l) ts ts.length) := by
  have := h.t; have := h.n
  exact said_v (by omega) (by omega) fun x hx => by
    have := h.x x hx
    exact otherwise_v hl hlN (by omega) (by omega)
/-! ### What a part says -/
/-! ### Readings -/
theorem sum_l1_p {l : List Int} {m : Int} (hl : l.length ≤ 1000) (hm : 0 ≤ m ∧ m ≤ 1000) (hr : ∀ x ∈ l, -m ≤ x ∧ x ≤ m) : ∀ (n k : Nat) (s : Int), l.length < n + k → k ≤ l.length → (-(m * k) ≤ s ∧ s ≤ m * k) → sum_l1 N n s l l.length k = some (s + (l.drop k).sum)
  | 0, k, s, h, _, _ => by omega
  | n + 1, k, s, h, hk, hs => by
    unfold sum_l1
    have hmk : m * (k : Int) ≤ 1000 * 1000 := Int.mul_le_mul hm.2 (by omega) (by omega) (by omega)
    by_cases c : k < l.length
    · have hx := hr _ (getD_mem (d := 0) c)
      have g := gets c 0
      rw [drop_cons c 0]
      generalize l.getD k 0 = x at *
      have e : m * ((k + 1 : Nat) : Int) = m * k + m := by rw [Int.natCast_add, Int.mul_add]; simp
      have ih := sum_l1_p hl hm hr n (k + 1) (s + x) (by omega) (by omega) (by omega)
      rw [show ((k + 1 : Nat) : Int) = (k : Int) + 1 by omega] at ih
      rw [br_dec (by omega), idx_eq (by omega) g, chk_eq (by omega), chk_eq (by omega), ih, List.sum_cons]
      congr 1; omega
    · rw [br_ndec (by omega), List.drop_of_length_le (by omega)]; simp
theorem sum_v {l : List Int} {m : Int} (hl : l.length ≤ 1000) (hN : l.length < N) (hm : 0 ≤ m ∧ m ≤ 1000) (hr : ∀ x ∈ l, -m ≤ x ∧ x ≤ m) : sum_S N l = some l.sum := by
  unfold sum_S
  have := sum_l1_p (N := N) hl hm hr N 0 0 (by omega) (by omega) (by simp)
  simp only [Int.natCast_zero, List.drop_zero, Int.zero_add] at this
  rw [this]; rfl
/-- The error of a reading. -/
def readE (ws : List Wd) (ts : List Tn) (br_ : Int) (l : List Int) : Int :=
  if checkT ws ts br_ ≠ 0 then checkT ws ts br_ else if l.all in12 = false then 3 else if l.sum ≠ ws.length then 2 else 0
theorem all12 {l : List Int} (h : l.all in12 = true) : ∀ x ∈ l, 1 ≤ x ∧ x ≤ 12 := by simpa [in12] using h
theorem reading_v (hN : 110 ≤ N) (hw : ws.length ≤ 1000000) (ht : ts.length ≤ 1000000) {l : List Int} (hl : l.length ≤ 100) : reading_S N ws ts br_ l = some (if readE ws ts br_ l = 0 then .inl ((ws, ts, br_), 0) else .inr (readE ws ts br_ l)) := by
  unfold reading_S readE
  rw [opened_v (by omega) hw ht]
  by_cases c : checkT ws ts br_ = 0
  rotate_left
  · simp only [if_neg c, if_pos c, Option.bind_some]
    rw [br_nnd c]
  simp only [c, if_true, Option.bind_some, ne_eq, not_true_eq_false, if_false]
  rw [br_nd trivial, everyi1_v (by omega) (by omega)]
  simp only [Option.bind_some]
  cases d : l.all in12
  · rfl
  have h12 := all12 d
  rw [sum_v (m := 12) (by omega) (by omega) (by omega) (fun x hx => by have := h12 x hx; omega)]
  simp only [Option.bind_some, Bool.not_true, br_false, end__S, Bool.true_eq_false, if_false]
  by_cases e : l.sum = (ws.length : Int)
  · rw [br_nd e]; simp [e]
  · rw [br_nnd e]; simp [e]
end
end Go.Proofs.Ytfamlpbdhhikdaa

namespace Go.Proofs.Ytfamlpbdhhikdaa
set_option linter.all false
open Go

section
variable {N : Nat} {ws : List Wd} {ts : List Tn} {br_ : Int}
/-- The first breath that isn't right, and why. -/
def wrongF (ws : List Wd) (ts : List Tn) (br_ : Int) : List Int → Nat → Int → Option (Int × Int)
  | [], _, _ => none
  | x :: l, p, i => if (faultR ws ts br_ p (p + x.toNat)).2 = true then some (i, (faultR ws ts br_ p (p + x.toNat)).1) else wrongF ws ts br_ l (p + x.toNat) (i + 1)
theorem sum_ge {l : List Int} (h : ∀ x ∈ l, 1 ≤ x ∧ x ≤ 12) : (l.length : Int) ≤ l.sum := by
  induction l with
  | nil => simp
  | cons a l ih =>
    have := h a (by simp); have := ih (fun x hx => h x (by simp [hx]))
    rw [List.sum_cons, List.length_cons]; omega
theorem wrong_l1_p (hN : 110 ≤ N) (hok : okW ws = true) (ht : ts.length ≤ 100) {l : List Int} (hl : l.length ≤ 100) (h12 : ∀ x ∈ l, 1 ≤ x ∧ x ≤ 12) {at_ : Int} : ∀ (n k p : Nat) (kd : Int), l.length < n + k → k ≤ l.length → (p : Int) + (l.drop k).sum ≤ ws.length →
    match wrongF ws ts br_ (l.drop k) p k with
    | some (i, c) => wrong_l1 N n (ws, ts, br_) at_ kd p false l l.length k = some (.inl (c, true, i))
    | none => ∃ c, wrong_l1 N n (ws, ts, br_) at_ kd p false l l.length k = some (.inr (at_, c, false))
  | 0, k, p, kd, h, _, _ => by omega
  | n + 1, k, p, kd, h, hk, hs => by
    have hlen := (okW_iff.1 hok).1
    by_cases c : k < l.length
    · have g := gets c 0
      have hx := h12 _ (getD_mem (d := 0) c)
      have hd := drop_cons c 0
      rw [hd, List.sum_cons] at hs
      have h0 := sum_ge (l := l.drop (k + 1)) (fun y hy => h12 y (List.mem_of_mem_drop hy))
      generalize l.getD k 0 = x at *
      obtain ⟨m, rfl⟩ : ∃ m : Nat, x = m := ⟨x.toNat, (Int.toNat_of_nonneg (by omega)).symm⟩
      have ih := wrong_l1_p hN hok ht hl h12 (at_ := at_) n (k + 1) (p + m) (faultR ws ts br_ p (p + m)).1 (by omega) (by omega) (by omega)
      rw [show ((k + 1 : Nat) : Int) = (k : Int) + 1 by omega, show ((p + m : Nat) : Int) = (p : Int) + m by omega] at ih
      have e : wrong_l1 N (n + 1) (ws, ts, br_) at_ kd p false l l.length k = br (faultR ws ts br_ p (p + m)).2 (some (.inl ((faultR ws ts br_ p (p + m)).1, (faultR ws ts br_ p (p + m)).2, (k : Int)))) (wrong_l1 N n (ws, ts, br_) at_ (faultR ws ts br_ p (p + m)).1 ((p : Int) + m) (faultR ws ts br_ p (p + m)).2 l l.length ((k : Int) + 1)) := by
        rw [wrong_l1, br_dec (by omega), idx_eq (by omega) g, chk_eq (by omega), show (p : Int) + m = ((p + m : Nat) : Int) by omega, fault_v hN hok ht (by omega) (by omega)]
        simp only [Option.bind_some]
        rw [chk_eq (by omega), chk_eq (by omega)]
      rw [e, hd]
      unfold wrongF
      simp only [Int.toNat_natCast]
      cases hf : (faultR ws ts br_ p (p + m)).2
      · rw [br_false]
        simpa using ih
      · rw [br_true]; simp
    · rw [List.drop_of_length_le (by omega)]
      refine ⟨kd, ?_⟩
      rw [wrong_l1, br_ndec (by omega)]
/-- What is wrong with a reading. -/
def wrongR (ws : List Wd) (ts : List Tn) (br_ : Int) (l : List Int) : Int × Int × Int :=
  if readE ws ts br_ l ≠ 0 then (0, 0, readE ws ts br_ l) else match wrongF ws ts br_ l 0 0 with | some (i, k) => (i, k, 0) | none => (0, 0, 6)
theorem read_ok {l : List Int} (h : readE ws ts br_ l = 0) : TFine ws ts br_ ∧ (∀ x ∈ l, 1 ≤ x ∧ x ≤ 12) ∧ l.sum = ws.length := by
  unfold readE at h
  split at h
  · omega
  rename_i c
  split at h
  · omega
  rename_i d
  split at h
  · omega
  rename_i e
  exact ⟨tfine_of (by simpa using c), all12 (by simpa using d), by simpa using e⟩
theorem wrong_v (hN : 110 ≤ N) {l : List Int} (hl : l.length ≤ 100) (h : readE ws ts br_ l = 0) : match wrongF ws ts br_ l 0 0 with
    | some (i, c) => wrong_S N (ws, ts, br_) l = some (i, c, true)
    | none => ∃ c, wrong_S N (ws, ts, br_) l = some (0, c, false) := by
  obtain ⟨hF, h12, hs⟩ := read_ok h
  have e := wrong_l1_p (N := N) (br_ := br_) (l := l) (ts := ts) hN hF.okW (by have := hF.t; omega) hl h12 (at_ := 0) N 0 0 0 (by omega) (by omega) (by simp; omega)
  simp only [Int.natCast_zero, List.drop_zero] at e
  cases hw : wrongF ws ts br_ l 0 0 with
  | none =>
    rw [hw] at e
    obtain ⟨c, e⟩ := e
    refine ⟨c, ?_⟩
    unfold wrong_S
    rw [e]; rfl
  | some ic =>
    rw [hw] at e
    unfold wrong_S
    show _ = _
    dsimp only at e
    rw [e]; rfl
theorem lwrong_v (hN : 110 ≤ N) (hw : ws.length ≤ 1000000) (ht : ts.length ≤ 1000000) {l : List Int} (hl : l.length ≤ 100) : lwrong_S N ws ts br_ l = some (wrongR ws ts br_ l) := by
  unfold lwrong_S wrongR
  rw [reading_v hN hw ht hl]
  by_cases c : readE ws ts br_ l = 0
  · have e := wrong_v (N := N) hN hl c
    simp only [c, if_true, Option.bind_some, ne_eq, not_true_eq_false, if_false]
    rw [br_nd trivial]
    cases hw : wrongF ws ts br_ l 0 0 with
    | none => rw [hw] at e; obtain ⟨k, e⟩ := e; rw [e]; rfl
    | some ic => rw [hw] at e; dsimp only at e; rw [e]; rfl
  · rw [if_neg c, if_pos c]
    simp only [Option.bind_some]
    rw [br_nnd c]
end
end Go.Proofs.Ytfamlpbdhhikdaa

namespace Go.Proofs.Ytfamlpbdhhikdaa
set_option linter.all false
open Go

/-- The first run from a breath on that is so. -/
def inF (p : Int → Bool) : List Int → Int → Int → Option Int
  | [], _, _ => none
  | x :: r, to, b => if p (to + x) = true then some b else inF p r (to + x) (b + 1)
def outF (p : Int → Int → Bool) : List Int → Int → Int → Option (Int × Int)
  | [], _, _ => none
  | x :: r, fr, a => match inF (p fr) (x :: r) fr a with
    | some b => some (a, b)
    | none => outF p r (fr + x) (a + 1)
def trnF (l : List Int) : List Tn → Int → Option (Int × Int × Int)
  | [], _ => none
  | x :: r, k => match outF (fun a b => turnP a b x) l 0 0 with
    | some (a, b) => some (k, a, b)
    | none => trnF l r (k + 1)
section
variable {N : Nat} (hN : 110 ≤ N) {ws : List Wd} {ts : List Tn} {br_ : Int} (hF : TFine ws ts br_) {l : List Int} (hl : l.length ≤ 20) (h12 : ∀ x ∈ l, 1 ≤ x ∧ x ≤ 12) (hs : l.sum = ws.length)
include hN hF hl h12
include hs
omit hs
include hs
end
section
variable {N : Nat} (hN : 110 ≤ N) {ws : List Wd} {ts : List Tn} {br_ : Int}
include hN
end
end Go.Proofs.Ytfamlpbdhhikdaa

namespace Go.Proofs.Ytfamlpbdhhikdaa
set_option linter.all false
open Go

/-- A reading from a place to the end, all of whose breaths are right. -/
def goodB (R : Nat → Nat → Bool) (m : Nat) : Nat → List Int → Bool
  | a, [] => a == m
  | a, x :: l => (decide (1 ≤ x) && decide (a + x.toNat ≤ m)) && (R a (a + x.toNat) && goodB R m (a + x.toNat) l)
/-- The fewest breaths from a place. -/
structure IsMin (R : Nat → Nat → Bool) (m a : Nat) (k : Int) : Prop where
  ex : ∃ l, goodB R m a l = true ∧ (l.length : Int) = k
  le : ∀ l, goodB R m a l = true → k ≤ l.length
section
variable {R : Nat → Nat → Bool} {m : Nat}
theorem good_cons {a : Nat} {x : Int} {l : List Int} : goodB R m a (x :: l) = true ↔ (1 ≤ x ∧ a + x.toNat ≤ m) ∧ R a (a + x.toNat) = true ∧ goodB R m (a + x.toNat) l = true := by
  simp [goodB]
theorem good_nil {a : Nat} : goodB R m a [] = true ↔ a = m := by simp [goodB]
theorem good_step {a q : Nat} {l : List Int} (h : a < q) (hq : q ≤ m) (hR : R a q = true) (hl : goodB R m q l = true) : goodB R m a (((q : Int) - a) :: l) = true := by
  have e : a + ((q : Int) - a).toNat = q := by omega
  rw [good_cons, e]
  exact ⟨⟨by omega, hq⟩, hR, hl⟩
theorem IsMin.end_ : IsMin R m m 0 := ⟨⟨[], by simp [goodB], rfl⟩, fun l _ => by omega⟩
theorem getD_set' {α : Type} {l : List α} {i j : Nat} {v d : α} (hi : i < l.length) : (l.set i v).getD j d = if i = j then v else l.getD j d := by
  by_cases h : i = j
  · subst h; simp [List.getD, hi]
  · simp [List.getD, List.getElem?_set, h]
/-- What the tables say of a place. -/
def Told (R : Nat → Nat → Bool) (m : Nat) (L X : List Int) (i : Nat) : Prop :=
  (X.getD i 0 = 0 ∧ ∀ l, goodB R m i l = false) ∨ ∃ q : Nat, X.getD i 0 = q ∧ i < q ∧ q ≤ m ∧ R i q = true ∧ IsMin R m i (L.getD i 0) ∧ IsMin R m q (L.getD i 0 - 1)
structure Tab (R : Nat → Nat → Bool) (m f : Nat) (L X : List Int) : Prop where
  hL : L.length = 13
  hX : X.length = 13
  bd : ∀ i, i < 13 → 0 ≤ L.getD i 0 ∧ L.getD i 0 ≤ 13 - (i : Int)
  lo : ∀ i, i < f → X.getD i 0 = 0
  en : L.getD m 0 = 0
  told : ∀ i, f < i → i < m → Told R m L X i
/-- What is known of a place, when ends ahead of one were tried. -/
def Cur (R : Nat → Nat → Bool) (m f to : Nat) (L X : List Int) : Prop :=
  (X.getD f 0 = 0 ∧ ∀ q, f < q → q < to → R f q = true → ∀ l, goodB R m q l = false) ∨
  ∃ q : Nat, X.getD f 0 = q ∧ f < q ∧ q < to ∧ q ≤ m ∧ R f q = true ∧ IsMin R m q (L.getD f 0 - 1) ∧ ∀ p, f < p → p < to → R f p = true → ∀ l, goodB R m p l = true → L.getD f 0 ≤ l.length + 1
theorem Cur.start {f : Nat} {L X : List Int} (h : X.getD f 0 = 0) : Cur R m f (f + 1) L X := .inl ⟨h, fun q h1 h2 => by omega⟩
theorem Cur.skip {f to : Nat} {L X : List Int} (h : Cur R m f to L X) (hs : R f to = true → ∀ l, goodB R m to l = false) : Cur R m f (to + 1) L X := by
  rcases h with ⟨h1, h2⟩ | ⟨q, h1, h2, h3, h4, h5, h6, h7⟩
  · refine .inl ⟨h1, fun q a b hR => ?_⟩
    by_cases e : q = to
    · subst e; exact hs hR
    · exact h2 q a (by omega) hR
  · refine .inr ⟨q, h1, h2, by omega, h4, h5, h6, fun p a b hR l hl => ?_⟩
    by_cases e : p = to
    · subst e; rw [hs hR l] at hl; cases hl
    · exact h7 p a (by omega) hR l hl
theorem Cur.keep {f to : Nat} {L X : List Int} (h : Cur R m f to L X) (hx : X.getD f 0 ≠ 0) (ht : IsMin R m to (L.getD to 0)) (hle : L.getD f 0 ≤ L.getD to 0 + 1) : Cur R m f (to + 1) L X := by
  rcases h with ⟨h1, h2⟩ | ⟨q, h1, h2, h3, h4, h5, h6, h7⟩
  · exact absurd h1 hx
  · refine .inr ⟨q, h1, h2, by omega, h4, h5, h6, fun p a b hR l hl => ?_⟩
    by_cases e : p = to
    · subst e; have := ht.le l hl; omega
    · exact h7 p a (by omega) hR l hl
theorem Cur.put {f to : Nat} {L X : List Int} (h : Cur R m f to L X) (hL : L.length = 13) (hX : X.length = 13) (hf : f < 13) (hto : f < to) (hm : to ≤ m) (hR : R f to = true) (ht : IsMin R m to (L.getD to 0)) (hbetter : X.getD f 0 = 0 ∨ L.getD to 0 + 1 < L.getD f 0) :
    Cur R m f (to + 1) (L.set f (L.getD to 0 + 1)) (X.set f to) := by
  refine .inr ⟨to, by rw [getD_set' (by omega), if_pos rfl], hto, by omega, hm, hR, ?_, fun p a b hRp l hl => ?_⟩
  · rw [getD_set' (by omega), if_pos rfl]
    simpa using ht
  · rw [getD_set' (by omega), if_pos rfl]
    by_cases e : p = to
    · subst e; have := ht.le l hl; omega
    · rcases h with ⟨h1, h2⟩ | ⟨q, h1, h2, h3, h4, h5, h6, h7⟩
      · rw [h2 p a (by omega) hRp l] at hl; cases hl
      · have := h7 p a (by omega) hRp l hl
        rcases hbetter with hb | hb
        · omega
        · omega
theorem Tab.put {f to : Nat} {L X : List Int} (h : Tab R m f L X) (hf : f < m) (hm : m ≤ 12) (hto : f < to) (htm : to ≤ m) : Tab R m f (L.set f (L.getD to 0 + 1)) (X.set f to) := by
  have hL := h.hL; have hX := h.hX
  refine ⟨by simpa using hL, by simpa using hX, fun i hi => ?_, fun i hi => ?_, ?_, fun i h1 h2 => ?_⟩
  · rw [getD_set' (by omega)]
    split
    · rename_i e; subst e
      have := h.bd to (by omega)
      omega
    · exact h.bd i hi
  · rw [getD_set' (by omega), if_neg (by omega)]; exact h.lo i hi
  · rw [getD_set' (by omega), if_neg (by omega)]; exact h.en
  · unfold Told
    rw [getD_set' (by omega), getD_set' (by omega), if_neg (by omega), if_neg (by omega)]
    exact h.told i h1 h2
theorem Tab.min {f i : Nat} {L X : List Int} (h : Tab R m f L X) (h1 : f < i) (h2 : i ≤ m) (hx : i < m → X.getD i 0 ≠ 0) : IsMin R m i (L.getD i 0) := by
  by_cases e : i = m
  · subst e; rw [h.en]; exact IsMin.end_
  · rcases h.told i h1 (by omega) with ⟨h3, _⟩ | ⟨q, _, _, _, _, h4, _⟩
    · exact absurd h3 (hx (by omega))
    · exact h4
theorem Tab.next {f : Nat} {L X : List Int} (h : Tab R m f L X) (hf : f < m) (hc : Cur R m f (m + 1) L X) : ∀ i, f ≤ i → i < m → Told R m L X i := by
  intro i h1 h2
  by_cases e : i = f
  · subst e
    rcases hc with ⟨h3, h4⟩ | ⟨q, h3, h4, h5, h6, h7, h8, h9⟩
    · refine .inl ⟨h3, fun l => ?_⟩
      cases hg : goodB R m i l
      · rfl
      cases l with
      | nil => have := good_nil.1 hg; omega
      | cons x l =>
        obtain ⟨⟨a, b⟩, c, d⟩ := good_cons.1 hg
        rw [h4 _ (by omega) (by omega) c l] at d; cases d
    · refine .inr ⟨q, h3, h4, h6, h7, ⟨?_, fun l hl => ?_⟩, h8⟩
      · obtain ⟨l, a, b⟩ := h8.ex
        exact ⟨((q : Int) - i) :: l, good_step h4 h6 h7 a, by rw [List.length_cons]; omega⟩
      · cases l with
        | nil => have := good_nil.1 hl; omega
        | cons x l =>
          obtain ⟨⟨a, b⟩, c, d⟩ := good_cons.1 hl
          have := h9 _ (by omega) (by omega) c l d
          rw [List.length_cons]; omega
  · exact h.told i (by omega) h2
end
end Go.Proofs.Ytfamlpbdhhikdaa

namespace Go.Proofs.Ytfamlpbdhhikdaa
set_option linter.all false
open Go


/-! ### fewestr -/
def fewestr_in (N n : Nat) (d : Tx) (from_ to : Int) (r : Tx) (least next : List Int) : Option (Tx × Int × Tx × List Int × List Int) :=
  (right_S N r from_ to).bind fun x_5 =>
          br (!x_5)
            (fewestr_j1 N (fewestr_l2 N n) d from_ to r least next)
            (rng from_ 13 <|
            get next from_.toNat fun x_6 =>
            br (decide (x_6 = 0))
              (rng to 13 <|
              get least to.toNat fun x_7 =>
              chk (x_7 + 1) <|
              rng from_ 13 <|
              get least from_.toNat fun _ =>
              rng from_ 13 <|
              get next from_.toNat fun _ =>
              fewestr_j1 N (fewestr_l2 N n) d from_ to r (least.set from_.toNat (x_7 + 1)) (next.set from_.toNat to))
              (rng to 13 <|
              get least to.toNat fun x_10 =>
              chk (x_10 + 1) <|
              rng from_ 13 <|
              get least from_.toNat fun x_11 =>
              br (decide ((x_10 + 1) < x_11))
                (rng to 13 <|
                get least to.toNat fun x_12 =>
                chk (x_12 + 1) <|
                rng from_ 13 <|
                get least from_.toNat fun _ =>
                rng from_ 13 <|
                get next from_.toNat fun _ =>
                fewestr_j1 N (fewestr_l2 N n) d from_ to r (least.set from_.toNat (x_12 + 1)) (next.set from_.toNat to))
                (fewestr_j1 N (fewestr_l2 N n) d from_ to r least next)))
section
variable {N : Nat} (hN : 110 ≤ N) {d : Tx} {r : Tx} {R : Nat → Nat → Bool} {m : Nat} (hd : d.1.length = m) (hm : 1 ≤ m ∧ m ≤ 12) (hR : ∀ a b : Nat, a < b → b ≤ m → right_S N r a b = some (R a b))
include hd hm hR
theorem fewestr_l2_p {f : Nat} (hf : f < m) : ∀ (n to : Nat) (L X : List Int), m + 1 < n + to → f < to → to ≤ m + 1 → Tab R m f L X → Cur R m f to L X →
    Ok (fewestr_l2 N n d f to r L X) fun z => z.1 = d ∧ z.2.1 = f ∧ z.2.2.1 = r ∧ Tab R m f z.2.2.2.1 z.2.2.2.2 ∧ Cur R m f (m + 1) z.2.2.2.1 z.2.2.2.2
  | 0, to, L, X, h, _, _, _, _ => by omega
  | n + 1, to, L, X, h, h1, h2, hT, hC => by
    have hL := hT.hL; have hX := hT.hX
    unfold fewestr_l2
    simp only [end__S, hd, Option.bind_some]
    by_cases c : to ≤ m
    rotate_left
    · obtain rfl : to = m + 1 := by omega
      rw [br_ndec (by omega)]
      exact Ok.some ⟨rfl, rfl, rfl, hT, hC⟩
    rw [br_dec (by omega)]
    have hj : ∀ L X, fewestr_j1 N (fewestr_l2 N n) d f to r L X = fewestr_l2 N n d f ((to + 1 : Nat) : Int) r L X := fun L X => by
      unfold fewestr_j1
      rw [chk_eq (by omega)]; rfl
    have ih := fewestr_l2_p hf n (to + 1)
    have inner : (to < m → X.getD to 0 ≠ 0) → Ok (fewestr_in N n d f to r L X) fun z => z.1 = d ∧ z.2.1 = f ∧ z.2.2.1 = r ∧ Tab R m f z.2.2.2.1 z.2.2.2.2 ∧ Cur R m f (m + 1) z.2.2.2.1 z.2.2.2.2 := by
      intro hx
      have ht := hT.min h1 c hx
      have b1 := hT.bd to (by omega)
      unfold fewestr_in
      rw [hR f to h1 c]
      simp only [Option.bind_some, Int.toNat_natCast, hj]
      cases hr : R f to
      · rw [Bool.not_false, br_true]
        exact ih _ _ (by omega) (by omega) (by omega) hT (hC.skip (fun e => by rw [hr] at e; cases e))
      · rw [Bool.not_true, br_false, rng_eq (by omega), get_get 0 (by omega)]
        by_cases e : X.getD f 0 = 0
        · rw [br_dec e, rng_eq (by omega), get_get 0 (by omega), chk_eq (by omega), rng_eq (by omega), get_get 0 (by omega), rng_eq (by omega), get_get 0 (by omega)]
          exact ih _ _ (by omega) (by omega) (by omega) (hT.put hf hm.2 h1 c) (hC.put hL hX (by omega) h1 c hr ht (.inl e))
        · rw [br_ndec e, rng_eq (by omega), get_get 0 (by omega), chk_eq (by omega), rng_eq (by omega), get_get 0 (by omega)]
          by_cases e2 : L.getD to 0 + 1 < L.getD f 0
          · rw [br_dec e2, rng_eq (by omega), get_get 0 (by omega), chk_eq (by omega), rng_eq (by omega), get_get 0 (by omega), rng_eq (by omega), get_get 0 (by omega)]
            exact ih _ _ (by omega) (by omega) (by omega) (hT.put hf hm.2 h1 c) (hC.put hL hX (by omega) h1 c hr ht (.inr e2))
          · rw [br_ndec e2]
            exact ih _ _ (by omega) (by omega) (by omega) hT (hC.keep e ht (by omega))
    by_cases c2 : to < m
    · rw [br_dec (by omega), rng_eq (by omega), get_get 0 (by omega)]
      simp only [Int.toNat_natCast]
      by_cases e : X.getD to 0 = 0
      · rw [br_dec e, hj]
        refine ih _ _ (by omega) (by omega) (by omega) hT (hC.skip fun _ l => ?_)
        rcases hT.told to h1 c2 with ⟨_, h4⟩ | ⟨q, h3, h4, _⟩
        · exact h4 l
        · omega
      · rw [br_ndec e]
        exact inner fun _ => e
    · rw [br_ndec (by omega)]
      exact inner fun h => by omega
include hN in
theorem fewestr_l1_p : ∀ (n f : Nat) (L X : List Int), f < n → f ≤ m → L.length = 13 → X.length = 13 → (∀ i, i < 13 → 0 ≤ L.getD i 0 ∧ L.getD i 0 ≤ 13 - (i : Int)) → (∀ i, i < f → X.getD i 0 = 0) → L.getD m 0 = 0 → (∀ i, f ≤ i → i < m → Told R m L X i) →
    Ok (fewestr_l1 N n d ((f : Int) - 1) r L X) fun z => z.1 = d ∧ z.2.length = 13 ∧ ∃ L' : List Int, ∀ i, i < m → Told R m L' z.2 i
  | 0, f, L, X, h, _, _, _, _, _, _, _ => by omega
  | n + 1, f, L, X, h, hf, hL, hX, bd, lo, en, told => by
    unfold fewestr_l1
    by_cases c : f = 0
    · subst c
      rw [br_ndec (by omega)]
      exact Ok.some ⟨rfl, hX, L, fun i hi => told i (by omega) hi⟩
    · obtain ⟨g, rfl⟩ : ∃ g, f = g + 1 := ⟨f - 1, by omega⟩
      rw [br_dec (by omega), chk_eq (by omega), show ((g + 1 : Nat) : Int) - 1 = (g : Int) by omega, show (g : Int) + 1 = ((g + 1 : Nat) : Int) by omega]
      have hT : Tab R m g L X := ⟨hL, hX, bd, fun i hi => lo i (by omega), en, fun i h1 h2 => told i (by omega) h2⟩
      refine Ok.bind (fewestr_l2_p hd hm hR (f := g) (by omega) N (g + 1) L X (by omega) (by omega) (by omega) hT (Cur.start (lo g (by omega)))) ?_
      rintro ⟨d', f', r', L', X'⟩ ⟨e1, e2, e3, hT', hC'⟩
      dsimp only at e1 e2 e3 hT' hC' ⊢
      rw [e1, e2, e3, chk_eq (by omega)]
      have ih := fewestr_l1_p n g L' X' (by omega) (by omega) hT'.hL hT'.hX hT'.bd hT'.lo hT'.en (hT'.next (by omega) hC')
      exact ih
omit hm hR in
theorem fewestr_l3_p {L X : List Int} (hm : 1 ≤ m ∧ m ≤ 12) (hX : X.length = 13) (told : ∀ i, i < m → Told R m L X i) : ∀ (n a : Nat) (O : List Int), m < n + a → a ≤ m → O.length ≤ a → (a < m → X.getD a 0 ≠ 0) →
    Ok (fewestr_l3 N n d a X O) fun z => ∃ l, z = O ++ l ∧ goodB R m a l = true ∧ IsMin R m a l.length
  | 0, a, O, h, _, _, _ => by omega
  | n + 1, a, O, h, ha, hO, hx => by
    unfold fewestr_l3
    simp only [end__S, hd, Option.bind_some]
    by_cases c : a < m
    · rcases told a c with ⟨h3, _⟩ | ⟨q, h3, h4, h5, h6, h7, h8⟩
      · exact absurd h3 (hx c)
      · rw [br_dec (by omega), rng_eq (by omega), get_get 0 (by omega)]
        simp only [Int.toNat_natCast, h3]
        rw [chk_eq (by omega), lim_eq (by simp; omega), rng_eq (by omega), get_get 0 (by omega), h3]
        have hq : q < m → X.getD q 0 ≠ 0 := fun hq e => by
          rcases told q hq with ⟨_, h9⟩ | ⟨q', h9, h10, _⟩
          · obtain ⟨l, hl, _⟩ := h8.ex
            rw [h9 l] at hl; cases hl
          · omega
        refine (fewestr_l3_p hm hX told n q (O ++ [(q : Int) - a]) (by omega) (by omega) (by simp; omega) hq).mono ?_
        rintro z ⟨l, rfl, hl, hmin⟩
        refine ⟨((q : Int) - a) :: l, by simp, good_step h4 h5 h6 hl, ?_⟩
        have e : (l.length : Int) = L.getD a 0 - 1 := by
          obtain ⟨l1, g1, k1⟩ := h8.ex
          have := hmin.le l1 g1; have := h8.le l hl; omega
        rw [List.length_cons, show ((l.length + 1 : Nat) : Int) = L.getD a 0 by omega]
        exact h7
    · obtain rfl : a = m := by omega
      rw [br_ndec (by omega)]
      exact Ok.some ⟨[], by simp, by simp [goodB], IsMin.end_⟩
include hN
theorem fewestr_v : (∃ l, fewestr_S N r d = some (l, true) ∧ goodB R m 0 l = true ∧ IsMin R m 0 l.length) ∨ (fewestr_S N r d = some ([], false) ∧ ∀ l, goodB R m 0 l = false) := by
  have rep : ∀ i, (List.replicate 13 (0 : Int)).getD i 0 = 0 := fun i => by
    simp only [List.getD, List.getElem?_replicate]
    split <;> rfl
  have e1 := fewestr_l1_p hN hd hm hR N m (List.replicate 13 0) (List.replicate 13 0) (by omega) (by omega) (by simp) (by simp) (fun i hi => by rw [rep]; omega) (fun i _ => rep i) (rep m) (fun i h1 h2 => by omega)
  obtain ⟨⟨d', X⟩, e, e2, hX, L, told⟩ := e1
  dsimp only at e2 hX told
  subst e2
  unfold fewestr_S
  simp only [end__S, hd, Option.bind_some]
  rw [chk_eq (by omega), e]
  simp only [Option.bind_some]
  rw [get_get 0 (by omega)]
  by_cases c : X.getD 0 0 = 0
  · rw [br_dec c]
    refine .inr ⟨rfl, ?_⟩
    rcases told 0 (by omega) with ⟨_, h⟩ | ⟨q, h1, h2, _⟩
    · exact h
    · omega
  · rw [br_ndec c]
    obtain ⟨z, e3, l, hz, hl, hmin⟩ := fewestr_l3_p hd hm hX told N 0 [] (by omega) (by omega) (by simp) (fun _ => c)
    simp only [Int.natCast_zero] at e3
    rw [List.nil_append] at hz
    subst hz
    rw [e3]
    exact .inl ⟨_, rfl, hl, hmin⟩
end
end Go.Proofs.Ytfamlpbdhhikdaa

namespace Go.Proofs.Ytfamlpbdhhikdaa
set_option linter.all false
open Go


/-! ### feweste -/
section
variable {N : Nat} (hN : 110 ≤ N) {d : Tx} {r : (Tx × Int × Tx)} {R : Nat → Nat → Bool} {m : Nat} (hd : d.1.length = m) (hm : 1 ≤ m ∧ m ≤ 12) (hR : ∀ a b : Nat, a < b → b ≤ m → even1_S N a b r.1 r.2.1 r.2.2 = some (R a b))
include hd hm hR
include hN
end

/-! ### fewests -/
def fewests_in (N n : Nat) (d : Tx) (from_ to : Int) (r : Tx) (least next : List Int) : Option (Tx × Int × Tx × List Int × List Int) :=
  (surest1_S N from_ to r).bind fun x_5 =>
          br (!x_5)
            (fewests_j1 N (fewests_l2 N n) d from_ to r least next)
            (rng from_ 13 <|
            get next from_.toNat fun x_6 =>
            br (decide (x_6 = 0))
              (rng to 13 <|
              get least to.toNat fun x_7 =>
              chk (x_7 + 1) <|
              rng from_ 13 <|
              get least from_.toNat fun _ =>
              rng from_ 13 <|
              get next from_.toNat fun _ =>
              fewests_j1 N (fewests_l2 N n) d from_ to r (least.set from_.toNat (x_7 + 1)) (next.set from_.toNat to))
              (rng to 13 <|
              get least to.toNat fun x_10 =>
              chk (x_10 + 1) <|
              rng from_ 13 <|
              get least from_.toNat fun x_11 =>
              br (decide ((x_10 + 1) < x_11))
                (rng to 13 <|
                get least to.toNat fun x_12 =>
                chk (x_12 + 1) <|
                rng from_ 13 <|
                get least from_.toNat fun _ =>
                rng from_ 13 <|
                get next from_.toNat fun _ =>
                fewests_j1 N (fewests_l2 N n) d from_ to r (least.set from_.toNat (x_12 + 1)) (next.set from_.toNat to))
                (fewests_j1 N (fewests_l2 N n) d from_ to r least next)))
section
variable {N : Nat} (hN : 110 ≤ N) {d : Tx} {r : Tx} {R : Nat → Nat → Bool} {m : Nat} (hd : d.1.length = m) (hm : 1 ≤ m ∧ m ≤ 12) (hR : ∀ a b : Nat, a < b → b ≤ m → surest1_S N a b r = some (R a b))
include hd hm hR
theorem fewests_l2_p {f : Nat} (hf : f < m) : ∀ (n to : Nat) (L X : List Int), m + 1 < n + to → f < to → to ≤ m + 1 → Tab R m f L X → Cur R m f to L X →
    Ok (fewests_l2 N n d f to r L X) fun z => z.1 = d ∧ z.2.1 = f ∧ z.2.2.1 = r ∧ Tab R m f z.2.2.2.1 z.2.2.2.2 ∧ Cur R m f (m + 1) z.2.2.2.1 z.2.2.2.2
  | 0, to, L, X, h, _, _, _, _ => by omega
  | n + 1, to, L, X, h, h1, h2, hT, hC => by
    have hL := hT.hL; have hX := hT.hX
    unfold fewests_l2
    simp only [end__S, hd, Option.bind_some]
    by_cases c : to ≤ m
    rotate_left
    · obtain rfl : to = m + 1 := by omega
      rw [br_ndec (by omega)]
      exact Ok.some ⟨rfl, rfl, rfl, hT, hC⟩
    rw [br_dec (by omega)]
    have hj : ∀ L X, fewests_j1 N (fewests_l2 N n) d f to r L X = fewests_l2 N n d f ((to + 1 : Nat) : Int) r L X := fun L X => by
      unfold fewests_j1
      rw [chk_eq (by omega)]; rfl
    have ih := fewests_l2_p hf n (to + 1)
    have inner : (to < m → X.getD to 0 ≠ 0) → Ok (fewests_in N n d f to r L X) fun z => z.1 = d ∧ z.2.1 = f ∧ z.2.2.1 = r ∧ Tab R m f z.2.2.2.1 z.2.2.2.2 ∧ Cur R m f (m + 1) z.2.2.2.1 z.2.2.2.2 := by
      intro hx
      have ht := hT.min h1 c hx
      have b1 := hT.bd to (by omega)
      unfold fewests_in
      rw [hR f to h1 c]
      simp only [Option.bind_some, Int.toNat_natCast, hj]
      cases hr : R f to
      · rw [Bool.not_false, br_true]
        exact ih _ _ (by omega) (by omega) (by omega) hT (hC.skip (fun e => by rw [hr] at e; cases e))
      · rw [Bool.not_true, br_false, rng_eq (by omega), get_get 0 (by omega)]
        by_cases e : X.getD f 0 = 0
        · rw [br_dec e, rng_eq (by omega), get_get 0 (by omega), chk_eq (by omega), rng_eq (by omega), get_get 0 (by omega), rng_eq (by omega), get_get 0 (by omega)]
          exact ih _ _ (by omega) (by omega) (by omega) (hT.put hf hm.2 h1 c) (hC.put hL hX (by omega) h1 c hr ht (.inl e))
        · rw [br_ndec e, rng_eq (by omega), get_get 0 (by omega), chk_eq (by omega), rng_eq (by omega), get_get 0 (by omega)]
          by_cases e2 : L.getD to 0 + 1 < L.getD f 0
          · rw [br_dec e2, rng_eq (by omega), get_get 0 (by omega), chk_eq (by omega), rng_eq (by omega), get_get 0 (by omega), rng_eq (by omega), get_get 0 (by omega)]
            exact ih _ _ (by omega) (by omega) (by omega) (hT.put hf hm.2 h1 c) (hC.put hL hX (by omega) h1 c hr ht (.inr e2))
          · rw [br_ndec e2]
            exact ih _ _ (by omega) (by omega) (by omega) hT (hC.keep e ht (by omega))
    by_cases c2 : to < m
    · rw [br_dec (by omega), rng_eq (by omega), get_get 0 (by omega)]
      simp only [Int.toNat_natCast]
      by_cases e : X.getD to 0 = 0
      · rw [br_dec e, hj]
        refine ih _ _ (by omega) (by omega) (by omega) hT (hC.skip fun _ l => ?_)
        rcases hT.told to h1 c2 with ⟨_, h4⟩ | ⟨q, h3, h4, _⟩
        · exact h4 l
        · omega
      · rw [br_ndec e]
        exact inner fun _ => e
    · rw [br_ndec (by omega)]
      exact inner fun h => by omega
include hN in
theorem fewests_l1_p : ∀ (n f : Nat) (L X : List Int), f < n → f ≤ m → L.length = 13 → X.length = 13 → (∀ i, i < 13 → 0 ≤ L.getD i 0 ∧ L.getD i 0 ≤ 13 - (i : Int)) → (∀ i, i < f → X.getD i 0 = 0) → L.getD m 0 = 0 → (∀ i, f ≤ i → i < m → Told R m L X i) →
    Ok (fewests_l1 N n d ((f : Int) - 1) r L X) fun z => z.1 = d ∧ z.2.length = 13 ∧ ∃ L' : List Int, ∀ i, i < m → Told R m L' z.2 i
  | 0, f, L, X, h, _, _, _, _, _, _, _ => by omega
  | n + 1, f, L, X, h, hf, hL, hX, bd, lo, en, told => by
    unfold fewests_l1
    by_cases c : f = 0
    · subst c
      rw [br_ndec (by omega)]
      exact Ok.some ⟨rfl, hX, L, fun i hi => told i (by omega) hi⟩
    · obtain ⟨g, rfl⟩ : ∃ g, f = g + 1 := ⟨f - 1, by omega⟩
      rw [br_dec (by omega), chk_eq (by omega), show ((g + 1 : Nat) : Int) - 1 = (g : Int) by omega, show (g : Int) + 1 = ((g + 1 : Nat) : Int) by omega]
      have hT : Tab R m g L X := ⟨hL, hX, bd, fun i hi => lo i (by omega), en, fun i h1 h2 => told i (by omega) h2⟩
      refine Ok.bind (fewests_l2_p hd hm hR (f := g) (by omega) N (g + 1) L X (by omega) (by omega) (by omega) hT (Cur.start (lo g (by omega)))) ?_
      rintro ⟨d', f', r', L', X'⟩ ⟨e1, e2, e3, hT', hC'⟩
      dsimp only at e1 e2 e3 hT' hC' ⊢
      rw [e1, e2, e3, chk_eq (by omega)]
      have ih := fewests_l1_p n g L' X' (by omega) (by omega) hT'.hL hT'.hX hT'.bd hT'.lo hT'.en (hT'.next (by omega) hC')
      exact ih
omit hm hR in
theorem fewests_l3_p {L X : List Int} (hm : 1 ≤ m ∧ m ≤ 12) (hX : X.length = 13) (told : ∀ i, i < m → Told R m L X i) : ∀ (n a : Nat) (O : List Int), m < n + a → a ≤ m → O.length ≤ a → (a < m → X.getD a 0 ≠ 0) →
    Ok (fewests_l3 N n d a X O) fun z => ∃ l, z = O ++ l ∧ goodB R m a l = true ∧ IsMin R m a l.length
  | 0, a, O, h, _, _, _ => by omega
  | n + 1, a, O, h, ha, hO, hx => by
    unfold fewests_l3
    simp only [end__S, hd, Option.bind_some]
    by_cases c : a < m
    · rcases told a c with ⟨h3, _⟩ | ⟨q, h3, h4, h5, h6, h7, h8⟩
      · exact absurd h3 (hx c)
      · rw [br_dec (by omega), rng_eq (by omega), get_get 0 (by omega)]
        simp only [Int.toNat_natCast, h3]
        rw [chk_eq (by omega), lim_eq (by simp; omega), rng_eq (by omega), get_get 0 (by omega), h3]
        have hq : q < m → X.getD q 0 ≠ 0 := fun hq e => by
          rcases told q hq with ⟨_, h9⟩ | ⟨q', h9, h10, _⟩
          · obtain ⟨l, hl, _⟩ := h8.ex
            rw [h9 l] at hl; cases hl
          · omega
        refine (fewests_l3_p hm hX told n q (O ++ [(q : Int) - a]) (by omega) (by omega) (by simp; omega) hq).mono ?_
        rintro z ⟨l, rfl, hl, hmin⟩
        refine ⟨((q : Int) - a) :: l, by simp, good_step h4 h5 h6 hl, ?_⟩
        have e : (l.length : Int) = L.getD a 0 - 1 := by
          obtain ⟨l1, g1, k1⟩ := h8.ex
          have := hmin.le l1 g1; have := h8.le l hl; omega
        rw [List.length_cons, show ((l.length + 1 : Nat) : Int) = L.getD a 0 by omega]
        exact h7
    · obtain rfl : a = m := by omega
      rw [br_ndec (by omega)]
      exact Ok.some ⟨[], by simp, by simp [goodB], IsMin.end_⟩
include hN
theorem fewests_v : (∃ l, fewests_S N r d = some (l, true) ∧ goodB R m 0 l = true ∧ IsMin R m 0 l.length) ∨ (fewests_S N r d = some ([], false) ∧ ∀ l, goodB R m 0 l = false) := by
  have rep : ∀ i, (List.replicate 13 (0 : Int)).getD i 0 = 0 := fun i => by
    simp only [List.getD, List.getElem?_replicate]
    split <;> rfl
  have e1 := fewests_l1_p hN hd hm hR N m (List.replicate 13 0) (List.replicate 13 0) (by omega) (by omega) (by simp) (by simp) (fun i hi => by rw [rep]; omega) (fun i _ => rep i) (rep m) (fun i h1 h2 => by omega)
  obtain ⟨⟨d', X⟩, e, e2, hX, L, told⟩ := e1
  dsimp only at e2 hX told
  subst e2
  unfold fewests_S
  simp only [end__S, hd, Option.bind_some]
  rw [chk_eq (by omega), e]
  simp only [Option.bind_some]
  rw [get_get 0 (by omega)]
  by_cases c : X.getD 0 0 = 0
  · rw [br_dec c]
    refine .inr ⟨rfl, ?_⟩
    rcases told 0 (by omega) with ⟨_, h⟩ | ⟨q, h1, h2, _⟩
    · exact h
    · omega
  · rw [br_ndec c]
    obtain ⟨z, e3, l, hz, hl, hmin⟩ := fewests_l3_p hd hm hX told N 0 [] (by omega) (by omega) (by simp) (fun _ => c)
    simp only [Int.natCast_zero] at e3
    rw [List.nil_append] at hz
    subst hz
    rw [e3]
    exact .inl ⟨_, rfl, hl, hmin⟩
end
end Go.Proofs.Ytfamlpbdhhikdaa

namespace Go.Proofs.Ytfamlpbdhhikdaa
set_option linter.all false
open Go

/-- All readings from a place to the end, all of whose breaths are right. -/
def goods (R : Nat → Nat → Bool) (m : Nat) : Nat → Nat → List (List Int)
  | 0, a => if a = m then [[]] else []
  | n + 1, a => if a = m then [[]] else (toL (R a) m (a + 1)).flatMap fun q => (goods R m n q).map fun l => ((q : Int) - a) :: l
section
variable {R : Nat → Nat → Bool} {m : Nat}
/-- The right readings. -/
def goodsL (R : Nat → Nat → Bool) (m a : Nat) : List (List Int) := goods R m 13 a
end
/-! ### Tables of numbers -/
section
variable {N : Nat} (hN : 110 ≤ N) {ws : List Wd} {ts : List Tn} {br_ : Int} (hF : TFine ws ts br_)
include hF
theorem breathsR_v {f : Nat} (hf : f ≤ ws.length) : breathsR f (ws, ts, br_) = some ((endsL ws ts br_ f).map fun (j : Nat) => ((j : Int), ())) := by
  have := hF.t
  unfold breathsR
  rw [if_pos ⟨⟨by omega, by simp; omega⟩, hF.okW, by simp; omega⟩]
  simp
include hN
end
end Go.Proofs.Ytfamlpbdhhikdaa

namespace Go.Proofs.Ytfamlpbdhhikdaa
set_option linter.all false
open Go

section
variable {R : Nat → Nat → Bool} {m : Nat}
theorem good_le : ∀ {l : List Int} {a : Nat}, goodB R m a l = true → a ≤ m
  | [], a, h => by have := good_nil.1 h; omega
  | x :: l, a, h => by have := (good_cons.1 h).1; omega
theorem good_app {p : Nat} : ∀ {l1 : List Int} {a : Nat} {l2 : List Int}, goodB R p a l1 = true → goodB R m p l2 = true → goodB R m a (l1 ++ l2) = true
  | [], a, l2, h1, h2 => by obtain rfl := good_nil.1 h1; exact h2
  | x :: l1, a, l2, h1, h2 => by
    obtain ⟨⟨b1, b2⟩, b3, b4⟩ := good_cons.1 h1
    have := good_le h2
    exact good_cons.2 ⟨⟨b1, by omega⟩, b3, good_app b4 h2⟩
/-- The places at which a reading breaks. -/
def psums : Int → List Int → List Int
  | _, [] => []
  | a, x :: l => (a + x) :: psums (a + x) l
/-- A place that is met, and from which a reading goes on. -/
def metB (R : Nat → Nat → Bool) (p : Nat) : Bool := !(goodsL R p 0).isEmpty
def finB (R : Nat → Nat → Bool) (m p : Nat) : Bool := !(goodsL R m p).isEmpty
def brkB (R : Nat → Nat → Bool) (m p : Nat) : Bool := metB R p && finB R m p
/-- At which places readings were found to break so far. -/
def MetSo (R : Nat → Nat → Bool) (m k : Nat) (M : List Bool) : Prop := M.length = 13 ∧ ∀ q, q ≤ m → (M.getD q false = true ↔ q = 0 ∨ ∃ p, p < k ∧ p < q ∧ brkB R m p = true ∧ R p q = true)
theorem MetSo.skip {k : Nat} {M : List Bool} (h : MetSo R m k M) (hb : brkB R m k = false) : MetSo R m (k + 1) M := by
  refine ⟨h.1, fun q hq => (h.2 q hq).trans ?_⟩
  constructor
  · rintro (h1 | ⟨p, h1, h2⟩)
    · exact .inl h1
    · exact .inr ⟨p, by omega, h2⟩
  · rintro (h1 | ⟨p, h1, h2, h3, h4⟩)
    · exact .inl h1
    · by_cases e : p = k
      · subst e; rw [hb] at h3; cases h3
      · exact .inr ⟨p, by omega, h2, h3, h4⟩
end
section
variable {N : Nat} (hN : 110 ≤ N) {ws : List Wd} {ts : List Tn} {br_ : Int} (hF : TFine ws ts br_)
include hF
end
end Go.Proofs.Ytfamlpbdhhikdaa

namespace Go.Proofs.Ytfamlpbdhhikdaa
set_option linter.all false
open Go

def made_l1 (N : Nat) : Nat → Int → Int → Int → (List Int) → Int → Int → Int → Int → (List (Int × (Int × Bool))) → Option (Int × List Int × Int × Int × Int × Int × (List (Int × (Int × Bool))))
  | 0, _, _, _, _, _, _, _, _, _ => none
  | n_ + 1, turns, u, u2, b, b2, b3, g, t, t2 =>
    br (decide (u2 < u))
      ((strike_S N 1 4 b b2 b3).bind fun (x_9, y_10, y_11, y_12) =>
      (stroke_S N 9 y_10 y_11 y_12).bind fun (x_13, y_14, y_15, y_16) =>
      (seldom_S N 3 y_14 y_15 y_16).bind fun (x_17, y_18, y_19, y_20) =>
      lim (t2.length + [(x_9, x_13, (!x_17))].length) <|
      chk (u2 + 1) <|
      made_l1 N n_ turns u (u2 + 1) y_18 y_19 y_20 g t (t2 ++ [(x_9, x_13, (!x_17))]))
      (some ((turns, b, b2, b3, g, t, t2)))
def made_j1 (N : Nat) (rec : Int → Int → (List Int) → Int → Int → Int → Int → (List (Int × (Int × Bool))) → (List (Int × (Int × Int))) → Option (List Int × Int × Int × Int × Int × (List (Int × (Int × Bool))) × (List (Int × (Int × Int))))) (u : Int) (u2 : Int) (b : List Int) (b2 : Int) (b3 : Int) (g : Int) (t : Int) (t2 : List (Int × (Int × Bool))) (t3 : List (Int × (Int × Int))) : Option (List Int × Int × Int × Int × Int × (List (Int × (Int × Bool))) × (List (Int × (Int × Int)))) :=
  chk (u2 + 1) <|
  rec u (u2 + 1) b b2 b3 g t t2 t3
def made_l2 (N : Nat) : Nat → Int → Int → (List Int) → Int → Int → Int → Int → (List (Int × (Int × Bool))) → (List (Int × (Int × Int))) → Option (List Int × Int × Int × Int × Int × (List (Int × (Int × Bool))) × (List (Int × (Int × Int))))
  | 0, _, _, _, _, _, _, _, _, _ => none
  | n_ + 1, u, u2, b, b2, b3, g, t, t2, t3 =>
    br (decide (u2 < u))
      (br (decide ((t2.length : Int) < 2))
        (some ((b, b2, b3, g, t, t2, t3)))
        (chk ((t2.length : Int) - 1) <|
        (stroke_S N ((t2.length : Int) - 1) b b2 b3).bind fun (x_32, y_33, y_34, y_35) =>
        chk ((t2.length : Int) - 1) <|
        (stroke_S N 2 y_33 y_34 y_35).bind fun (x_36, y_37, y_38, y_39) =>
        chk (x_32 + x_36) <|
        chk ((t2.length : Int) - 1) <|
        (stroke_S N ((t2.length : Int) - 1) y_37 y_38 y_39).bind fun (x_40, y_41, y_42, y_43) =>
        br (decide (x_40 < x_32))
          (lim (t3.length + [(x_40, x_32, (min ((t2.length : Int) - 1) (x_32 + x_36)))].length) <|
          made_j1 N (made_l2 N n_) u u2 y_41 y_42 y_43 g t t2 (t3 ++ [(x_40, x_32, (min ((t2.length : Int) - 1) (x_32 + x_36)))]))
          (br (decide ((min ((t2.length : Int) - 1) (x_32 + x_36)) < x_40))
            (lim (t3.length + [(x_40, x_32, (min ((t2.length : Int) - 1) (x_32 + x_36)))].length) <|
            made_j1 N (made_l2 N n_) u u2 y_41 y_42 y_43 g t t2 (t3 ++ [(x_40, x_32, (min ((t2.length : Int) - 1) (x_32 + x_36)))]))
            (made_j1 N (made_l2 N n_) u u2 y_41 y_42 y_43 g t t2 t3))))
      (some ((b, b2, b3, g, t, t2, t3)))
def made_S (N : Nat) (words : Int) (turns : Int) (b : List Int) (b2 : Int) (b3 : Int) : Option ((List (Int × (Int × Bool))) × (List (Int × (Int × Int))) × Int × List Int × Int × Int) :=
  (strike_S N 3 14 b b2 b3).bind fun (x_1, y_2, y_3, y_4) =>
  (strike_S N 1 words y_2 y_3 y_4).bind fun (x_5, y_6, y_7, y_8) =>
  (made_l1 N N turns x_5 0 y_6 y_7 y_8 0 x_1 []).bind fun (turns_21, b_22, b2_23, b3_24, g_25, t_26, t2_27) =>
  (stroke_S N turns_21 b_22 b2_23 b3_24).bind fun (x_28, y_29, y_30, y_31) =>
  (made_l2 N N x_28 0 y_29 y_30 y_31 g_25 t_26 t2_27 []).bind fun (g_44, g2_45, g3_46, g4_47, t_48, t2_49, t3_50) =>
  some (t2_49, t3_50, t_48, g_44, g2_45, g3_46)
noncomputable def made_sp (N : Nat) : List Spec := [sp_stroke N, sp_strike N, sp_seldom N]
theorem made_all (N : Nat) : AllP (SpecOK Try.prog) (made_sp N) := ⟨sp_stroke_ok N, sp_strike_ok N, sp_seldom_ok N, trivial⟩
noncomputable def made_c : Code := (Try.f36.body).getD .skip
noncomputable abbrev made_B : Body := { c := made_c, n := 83, res := [.cell 6 25], outs := [⟨[.agg [.sl (.pair (.int .i64) (.pair (.int .i64) .bool)), .sl (.pair (.int .i64) (.pair (.int .i64) (.int .i64))), .i .i64]], [.segs [.sl (.int .u8), .i .i64, .i .u32]]⟩], m0 := 1 }
abbrev made_rt : altD made_B.outs → Option ((List (Int × (Int × Bool))) × (List (Int × (Int × Int))) × Int × List Int × Int × Int) := fun r => some (r.1.1.1, r.1.1.2.1, r.1.1.2.2.1, r.2.1.1, r.2.1.2.1, r.2.1.2.2.1)
abbrev made_l1_at : List PI := [.c [1, 1, 0, 1, 0, 0, 0], .c [1, 1, 0, 1, 0, 0, 1], .l [1, 1, 0, 1, 0, 0], .b 0, .c [1, 1, 1]]
abbrev made_l1_st : Sta := ⟨[0, 2, 6, 7, 16, 17], ⟨[.own 0 0, .i .i64, .own 1 0, .own 2 0, .i .i64, .i .i64], [.segs [.sl (.int .u8), .i .i64, .i .u32], .segs [.nils, .nils, .i .i64], .segs [.ols 3, .nils, .i .i64], .lst (.pair (.int .i64) (.pair (.int .i64) .bool))]⟩⟩
abbrev made_l1_h (rec : Int → Int → Int → (List Int) → Int → Int → Int → Int → (List (Int × (Int × Bool))) → Option (Int × List Int × Int × Int × Int × Int × (List (Int × (Int × Bool))))) : Leaf (Int × List Int × Int × Int × Int × Int × (List (Int × (Int × Bool)))) := ⟨made_l1_at, made_l1_st, fun p => rec p.1.2.1 p.1.2.2.2.2.1 p.1.2.2.2.2.2.1 p.2.1.1 p.2.1.2.1 p.2.1.2.2.1 p.2.2.1.2.2.1 p.2.2.2.1.2.2.1 p.2.2.2.2.1⟩
abbrev made_l1_e0 : Leaf (Int × List Int × Int × Int × Int × Int × (List (Int × (Int × Bool)))) := ⟨[.c [1, 1, 1, 0, 0], .c [1, 1, 1, 0, 1], .c [1, 1, 1, 1]], ⟨[0, 2, 6, 7], ⟨[.own 0 0, .i .i64, .own 1 0, .own 2 0], [.segs [.sl (.int .u8), .i .i64, .i .u32], .segs [.nils, .nils, .i .i64], .segs [.ols 3, .nils, .i .i64], .lst (.pair (.int .i64) (.pair (.int .i64) .bool))]⟩⟩, fun p => some ((p.1.2.1, p.2.1.1, p.2.1.2.1, p.2.1.2.2.1, p.2.2.1.2.2.1, p.2.2.2.1.2.2.1, p.2.2.2.2.1))⟩
noncomputable def made_l1_L (N : Nat) : LoopS := { at_ := made_l1_at, sta := made_l1_st, exits := [([.c [1, 1, 1, 0, 0], .c [1, 1, 1, 0, 1], .c [1, 1, 1, 1]], ⟨[0, 2, 6, 7], ⟨[.own 0 0, .i .i64, .own 1 0, .own 2 0], [.segs [.sl (.int .u8), .i .i64, .i .u32], .segs [.nils, .nils, .i .i64], .segs [.ols 3, .nils, .i .i64], .lst (.pair (.int .i64) (.pair (.int .i64) .bool))]⟩⟩)], run := fun p k => (made_l1 N N p.1.2.1 p.1.2.2.2.2.1 p.1.2.2.2.2.2.1 p.2.1.1 p.2.1.2.1 p.2.1.2.2.1 p.2.2.1.2.2.1 p.2.2.2.1.2.2.1 p.2.2.2.2.1).bind fun e => k (.inl (((), e.1, (), (), ()), ((e.2.1, e.2.2.1, e.2.2.2.1, ()), ((), (), e.2.2.2.2.1, ()), ((), (), e.2.2.2.2.2.1, ()), e.2.2.2.2.2.2, ()))) }
theorem made_l1_eq (N n_ : Nat) (turns : Int) (u : Int) (u2 : Int) (b : List Int) (b2 : Int) (b3 : Int) (g : Int) (t : Int) (t2 : List (Int × (Int × Bool))) : ev (Z := Int × List Int × Int × Int × Int × Int × (List (Int × (Int × Bool)))) Try.prog (made_sp N) made_B [] [made_l1_h (made_l1 N n_), made_l1_e0] none 400 true made_l1_at (stL made_l1_st (((), turns, (), (), u, u2, ()), ((b, b2, b3, ()), ((), (), g, ()), ((), (), t, ()), t2, ()))) (stH made_l1_st (((), turns, (), (), u, u2, ()), ((b, b2, b3, ()), ((), (), g, ()), ((), (), t, ()), t2, ()))) = made_l1 N (n_ + 1) turns u u2 b b2 b3 g t t2 := by kernel_rfl
theorem made_l1_ok (N : Nat) {top : Bool} : LoopOK Try.prog made_B.c made_B.n made_B.m0 top (made_l1_L N) := loop_of_ev (Z := Int × List Int × Int × Int × Int × Int × (List (Int × (Int × Bool)))) (N := N) (fun m p => made_l1 N m p.1.2.1 p.1.2.2.2.2.1 p.1.2.2.2.2.2.1 p.2.1.1 p.2.1.2.1 p.2.1.2.2.1 p.2.2.1.2.2.1 p.2.2.2.1.2.2.1 p.2.2.2.2.1) (fun e => .inl (((), e.1, (), (), ()), ((e.2.1, e.2.2.1, e.2.2.2.1, ()), ((), (), e.2.2.2.2.1, ()), ((), (), e.2.2.2.2.2.1, ()), e.2.2.2.2.2.2, ()))) (fun _ _ _ => rfl) (fun _ => rfl) (fun m z E Xc hE hX hrec hx => leaf_of_ev (B := made_B) (loops := []) (leaves := [made_l1_h (made_l1 N m), made_l1_e0]) (made_all N) mixed trivial hE hX ⟨hrec, (fun p hp => by obtain rfl := Option.some.inj hp; exact hx), trivial⟩ RetOK.no (fun p => made_l1_eq N m p.1.2.1 p.1.2.2.2.2.1 p.1.2.2.2.2.2.1 p.2.1.1 p.2.1.2.1 p.2.1.2.2.1 p.2.2.1.2.2.1 p.2.2.2.1.2.2.1 p.2.2.2.2.1))
abbrev made_l2_at : List PI := [.c [1, 1, 1, 0, 1, 0, 0, 0], .c [1, 1, 1, 0, 1, 0, 0, 1], .l [1, 1, 1, 0, 1, 0, 0], .b 2, .c [1, 1, 1, 1]]
abbrev made_l2_st : Sta := ⟨[0, 6, 7, 35, 36], ⟨[.own 0 0, .own 1 0, .own 2 0, .i .i64, .i .i64], [.segs [.sl (.int .u8), .i .i64, .i .u32], .segs [.nils, .nils, .i .i64], .segs [.ols 3, .ols 4, .i .i64], .lst (.pair (.int .i64) (.pair (.int .i64) .bool)), .lst (.pair (.int .i64) (.pair (.int .i64) (.int .i64)))]⟩⟩
abbrev made_l2_h (rec : Int → Int → (List Int) → Int → Int → Int → Int → (List (Int × (Int × Bool))) → (List (Int × (Int × Int))) → Option (List Int × Int × Int × Int × Int × (List (Int × (Int × Bool))) × (List (Int × (Int × Int))))) : Leaf (List Int × Int × Int × Int × Int × (List (Int × (Int × Bool))) × (List (Int × (Int × Int)))) := ⟨made_l2_at, made_l2_st, fun p => rec p.1.2.2.2.1 p.1.2.2.2.2.1 p.2.1.1 p.2.1.2.1 p.2.1.2.2.1 p.2.2.1.2.2.1 p.2.2.2.1.2.2.1 p.2.2.2.2.1 p.2.2.2.2.2.1⟩
abbrev made_l2_e0 : Leaf (List Int × Int × Int × Int × Int × (List (Int × (Int × Bool))) × (List (Int × (Int × Int)))) := ⟨[.c [1, 1, 1, 1, 0], .c [1, 1, 1, 1, 1]], ⟨[6, 7], ⟨[.own 1 0, .own 2 0], [.segs [.sl (.int .u8), .i .i64, .i .u32], .segs [.nils, .nils, .i .i64], .segs [.ols 3, .ols 4, .i .i64], .lst (.pair (.int .i64) (.pair (.int .i64) .bool)), .lst (.pair (.int .i64) (.pair (.int .i64) (.int .i64)))]⟩⟩, fun p => some ((p.2.1.1, p.2.1.2.1, p.2.1.2.2.1, p.2.2.1.2.2.1, p.2.2.2.1.2.2.1, p.2.2.2.2.1, p.2.2.2.2.2.1))⟩
abbrev made_j1_at : List PI := [.c [1, 1, 1, 0, 1, 0, 0, 1, 1, 1], .l [1, 1, 1, 0, 1, 0, 0], .b 2, .c [1, 1, 1, 1]]
abbrev made_j1_st : Sta := ⟨[0, 6, 7, 35, 36], ⟨[.own 0 0, .own 1 0, .own 2 0, .i .i64, .i .i64], [.segs [.sl (.int .u8), .i .i64, .i .u32], .segs [.nils, .nils, .i .i64], .segs [.ols 3, .ols 4, .i .i64], .lst (.pair (.int .i64) (.pair (.int .i64) .bool)), .lst (.pair (.int .i64) (.pair (.int .i64) (.int .i64)))]⟩⟩
abbrev made_j1_k (N : Nat) (rec : Int → Int → (List Int) → Int → Int → Int → Int → (List (Int × (Int × Bool))) → (List (Int × (Int × Int))) → Option (List Int × Int × Int × Int × Int × (List (Int × (Int × Bool))) × (List (Int × (Int × Int))))) : Leaf (List Int × Int × Int × Int × Int × (List (Int × (Int × Bool))) × (List (Int × (Int × Int)))) := ⟨made_j1_at, made_j1_st, fun p => made_j1 N rec p.1.2.2.2.1 p.1.2.2.2.2.1 p.2.1.1 p.2.1.2.1 p.2.1.2.2.1 p.2.2.1.2.2.1 p.2.2.2.1.2.2.1 p.2.2.2.2.1 p.2.2.2.2.2.1⟩
theorem made_j1_eq (N : Nat) (rec : Int → Int → (List Int) → Int → Int → Int → Int → (List (Int × (Int × Bool))) → (List (Int × (Int × Int))) → Option (List Int × Int × Int × Int × Int × (List (Int × (Int × Bool))) × (List (Int × (Int × Int))))) (u : Int) (u2 : Int) (b : List Int) (b2 : Int) (b3 : Int) (g : Int) (t : Int) (t2 : List (Int × (Int × Bool))) (t3 : List (Int × (Int × Int))) : ev (Z := List Int × Int × Int × Int × Int × (List (Int × (Int × Bool))) × (List (Int × (Int × Int)))) Try.prog (made_sp N) made_B [made_l1_L N] [made_l2_h rec, made_l2_e0] none 400 true made_j1_at (stL made_j1_st (((), (), (), u, u2, ()), ((b, b2, b3, ()), ((), (), g, ()), ((), (), t, ()), t2, t3, ()))) (stH made_j1_st (((), (), (), u, u2, ()), ((b, b2, b3, ()), ((), (), g, ()), ((), (), t, ()), t2, t3, ()))) = made_j1 N rec u u2 b b2 b3 g t t2 t3 := by kernel_rfl
theorem made_j1_lf (N : Nat) (rec : Int → Int → (List Int) → Int → Int → Int → Int → (List (Int × (Int × Bool))) → (List (Int × (Int × Int))) → Option (List Int × Int × Int × Int × Int × (List (Int × (Int × Bool))) × (List (Int × (Int × Int))))) {z : List Int × Int × Int × Int × Int × (List (Int × (Int × Bool))) × (List (Int × (Int × Int)))} {top : Bool} {E : EE} {Xc : Ctx} (hE : EOK made_B.m0 E) (hX : CxOK top Xc) (hrec : LeafOK Try.prog made_B.c made_B.n made_B.m0 E Xc z (made_l2_h rec)) (h0 : LeafOK Try.prog made_B.c made_B.n made_B.m0 E Xc z made_l2_e0) : LeafOK Try.prog made_B.c made_B.n made_B.m0 E Xc z (made_j1_k N rec) := leaf_of_ev (B := made_B) (loops := [made_l1_L N]) (leaves := [made_l2_h rec, made_l2_e0]) (made_all N) mixed ⟨made_l1_ok N, trivial⟩ hE hX ⟨hrec, h0, trivial⟩ RetOK.no (fun p => made_j1_eq N rec p.1.2.2.2.1 p.1.2.2.2.2.1 p.2.1.1 p.2.1.2.1 p.2.1.2.2.1 p.2.2.1.2.2.1 p.2.2.2.1.2.2.1 p.2.2.2.2.1 p.2.2.2.2.2.1)
noncomputable def made_l2_L (N : Nat) : LoopS := { at_ := made_l2_at, sta := made_l2_st, exits := [([.c [1, 1, 1, 1, 0], .c [1, 1, 1, 1, 1]], ⟨[6, 7], ⟨[.own 1 0, .own 2 0], [.segs [.sl (.int .u8), .i .i64, .i .u32], .segs [.nils, .nils, .i .i64], .segs [.ols 3, .ols 4, .i .i64], .lst (.pair (.int .i64) (.pair (.int .i64) .bool)), .lst (.pair (.int .i64) (.pair (.int .i64) (.int .i64)))]⟩⟩)], run := fun p k => (made_l2 N N p.1.2.2.2.1 p.1.2.2.2.2.1 p.2.1.1 p.2.1.2.1 p.2.1.2.2.1 p.2.2.1.2.2.1 p.2.2.2.1.2.2.1 p.2.2.2.2.1 p.2.2.2.2.2.1).bind fun e => k (.inl (((), (), ()), ((e.1, e.2.1, e.2.2.1, ()), ((), (), e.2.2.2.1, ()), ((), (), e.2.2.2.2.1, ()), e.2.2.2.2.2.1, e.2.2.2.2.2.2, ()))) }
theorem made_l2_eq (N n_ : Nat) (u : Int) (u2 : Int) (b : List Int) (b2 : Int) (b3 : Int) (g : Int) (t : Int) (t2 : List (Int × (Int × Bool))) (t3 : List (Int × (Int × Int))) : ev (Z := List Int × Int × Int × Int × Int × (List (Int × (Int × Bool))) × (List (Int × (Int × Int)))) Try.prog (made_sp N) made_B [made_l1_L N] [made_l2_h (made_l2 N n_), made_l2_e0, made_j1_k N (made_l2 N n_)] none 400 true made_l2_at (stL made_l2_st (((), (), (), u, u2, ()), ((b, b2, b3, ()), ((), (), g, ()), ((), (), t, ()), t2, t3, ()))) (stH made_l2_st (((), (), (), u, u2, ()), ((b, b2, b3, ()), ((), (), g, ()), ((), (), t, ()), t2, t3, ()))) = made_l2 N (n_ + 1) u u2 b b2 b3 g t t2 t3 := by kernel_rfl
theorem made_l2_ok (N : Nat) {top : Bool} : LoopOK Try.prog made_B.c made_B.n made_B.m0 top (made_l2_L N) := loop_of_ev (Z := List Int × Int × Int × Int × Int × (List (Int × (Int × Bool))) × (List (Int × (Int × Int)))) (N := N) (fun m p => made_l2 N m p.1.2.2.2.1 p.1.2.2.2.2.1 p.2.1.1 p.2.1.2.1 p.2.1.2.2.1 p.2.2.1.2.2.1 p.2.2.2.1.2.2.1 p.2.2.2.2.1 p.2.2.2.2.2.1) (fun e => .inl (((), (), ()), ((e.1, e.2.1, e.2.2.1, ()), ((), (), e.2.2.2.1, ()), ((), (), e.2.2.2.2.1, ()), e.2.2.2.2.2.1, e.2.2.2.2.2.2, ()))) (fun _ _ _ => rfl) (fun _ => rfl) (fun m z E Xc hE hX hrec hx => leaf_of_ev (B := made_B) (loops := [made_l1_L N]) (leaves := [made_l2_h (made_l2 N m), made_l2_e0, made_j1_k N (made_l2 N m)]) (made_all N) mixed ⟨made_l1_ok N, trivial⟩ hE hX ⟨hrec, (fun p hp => by obtain rfl := Option.some.inj hp; exact hx), made_j1_lf N _ hE hX hrec (fun p hp => by obtain rfl := Option.some.inj hp; exact hx), trivial⟩ RetOK.no (fun p => made_l2_eq N m p.1.2.2.2.1 p.1.2.2.2.2.1 p.2.1.1 p.2.1.2.1 p.2.1.2.2.1 p.2.2.1.2.2.1 p.2.2.2.1.2.2.1 p.2.2.2.2.1 p.2.2.2.2.2.1))
abbrev made_st : Sta := ⟨[0, 1, 2], ⟨[.own 0 0, .i .i64, .i .i64], [.segs [.sl (.int .u8), .i .i64, .i .u32]]⟩⟩
theorem made_eq (N : Nat) (words : Int) (turns : Int) (b : List Int) (b2 : Int) (b3 : Int) : ev (Z := (List (Int × (Int × Bool))) × (List (Int × (Int × Int))) × Int × List Int × Int × Int) Try.prog (made_sp N) made_B [made_l1_L N, made_l2_L N] [] (some made_rt) 400 false [.c [0], .c [1]] (stL made_st (((), words, turns, ()), ((b, b2, b3, ()), ()))) (stH made_st (((), words, turns, ()), ((b, b2, b3, ()), ()))) = made_S N words turns b b2 b3 := by kernel_rfl
noncomputable def sp_made (N : Nat) : Spec := { f := 36, ins := ⟨[.own 0 0, .i .i64, .i .i64], [.segs [.sl (.int .u8), .i .i64, .i .u32]]⟩, outs := [⟨[.agg [.sl (.pair (.int .i64) (.pair (.int .i64) .bool)), .sl (.pair (.int .i64) (.pair (.int .i64) (.int .i64))), .i .i64]], [.segs [.sl (.int .u8), .i .i64, .i .u32]]⟩], run := fun p k => (made_S N p.1.2.1 p.1.2.2.1 p.2.1.1 p.2.1.2.1 p.2.1.2.2.1).bind fun r => k (((r.1, r.2.1, r.2.2.1, ()), ()), ((r.2.2.2.1, r.2.2.2.2.1, r.2.2.2.2.2, ()), ())) }
theorem sp_made_ok (N : Nat) : SpecOK Try.prog (sp_made N) := fn_sound (B := made_B) (loops := [made_l1_L N, made_l2_L N]) (leaves := []) (fun p => made_S N p.1.2.1 p.1.2.2.1 p.2.1.1 p.2.1.2.1 p.2.1.2.2.1) (fun r => (((r.1, r.2.1, r.2.2.1, ()), ()), ((r.2.2.2.1, r.2.2.2.2.1, r.2.2.2.2.2, ()), ()))) made_rt (fun _ _ _ => rfl) (fun r z h => by cases h; rfl) Try.func36 (by kernel_rfl) (by kernel_rfl) (by kernel_rfl) rfl rfl (by kernel_rfl) (fun args w => Sem.pv_run _ _ _ (by kernel_rfl) w) (made_all N) mixed ⟨made_l1_ok N, made_l2_ok N, trivial⟩ (fun z E Xc hE hX hret => trivial) (fun p => made_eq N p.1.2.1 p.1.2.2.1 p.2.1.1 p.2.1.2.1 p.2.1.2.2.1)

def tried_j1 (N : Nat) (rec : Int → Int → (List (Int × (Int × Bool))) → Int → Int → (List Int) → Int → Int → (List (Int × (Int × Bool))) → (List (Int × (Int × Int))) → Int → (List Int) → Option (List Int × Int × Int × List Int)) (n : Int) (often : Int) (u : List (Int × (Int × Bool))) (u2 : Int) (u3 : Int) (b : List Int) (b2 : Int) (b3 : Int) (t : List (Int × (Int × Bool))) (t2 : List (Int × (Int × Int))) (t3 : Int) (out : List Int) : Option (List Int × Int × Int × List Int) :=
  chk (u3 + 1) <|
  rec n often u u2 (u3 + 1) b b2 b3 t t2 t3 out
def tried_l1 (N : Nat) : Nat → Int → Int → (List (Int × (Int × Bool))) → Int → Int → (List Int) → Int → Int → (List (Int × (Int × Bool))) → (List (Int × (Int × Int))) → Int → (List Int) → Option (List Int × Int × Int × List Int)
  | 0, _, _, _, _, _, _, _, _, _, _, _, _ => none
  | n_ + 1, n, often, u, u2, u3, b, b2, b3, t, t2, t3, out =>
    br (decide (u3 < u2))
      (idx u u3 fun x_5 =>
      chk (n + 1) <|
      chk ((t.length : Int) - 1) <|
      br (decide (u3 = ((t.length : Int) - 1)))
        (lim (out.length + [(n + 1)].length) <|
        tried_j1 N (tried_l1 N n_) 0 often u u2 u3 b b2 b3 t t2 t3 (out ++ [(n + 1)]))
        (br x_5.2.2
          ((seldom_S N often b b2 b3).bind fun (x_6, y_7, y_8, y_9) =>
          br x_6
            (lim (out.length + [(n + 1)].length) <|
            tried_j1 N (tried_l1 N n_) 0 often u u2 u3 y_7 y_8 y_9 t t2 t3 (out ++ [(n + 1)]))
            ((seldom_S N 12 y_7 y_8 y_9).bind fun (x_10, y_11, y_12, y_13) =>
            br x_10
              (lim (out.length + [(n + 1)].length) <|
              tried_j1 N (tried_l1 N n_) 0 often u u2 u3 y_11 y_12 y_13 t t2 t3 (out ++ [(n + 1)]))
              (tried_j1 N (tried_l1 N n_) (n + 1) often u u2 u3 y_11 y_12 y_13 t t2 t3 out)))
          ((seldom_S N 12 b b2 b3).bind fun (x_14, y_15, y_16, y_17) =>
          br x_14
            (lim (out.length + [(n + 1)].length) <|
            tried_j1 N (tried_l1 N n_) 0 often u u2 u3 y_15 y_16 y_17 t t2 t3 (out ++ [(n + 1)]))
            (tried_j1 N (tried_l1 N n_) (n + 1) often u u2 u3 y_15 y_16 y_17 t t2 t3 out))))
      (some ((b, b2, b3, out)))
def tried_S (N : Nat) (t : List (Int × (Int × Bool))) (t2 : List (Int × (Int × Int))) (t3 : Int) (b : List Int) (b2 : Int) (b3 : Int) : Option (List Int × List Int × Int × Int) :=
  (strike_S N 1 3 b b2 b3).bind fun (x_1, y_2, y_3, y_4) =>
  (tried_l1 N N 0 x_1 t (t.length : Int) 0 y_2 y_3 y_4 t t2 t3 []).bind fun (g_18, g2_19, g3_20, out_21) =>
  some (out_21, g_18, g2_19, g3_20)
noncomputable def tried_sp (N : Nat) : List Spec := [sp_strike N, sp_seldom N]
theorem tried_all (N : Nat) : AllP (SpecOK Try.prog) (tried_sp N) := ⟨sp_strike_ok N, sp_seldom_ok N, trivial⟩
noncomputable def tried_c : Code := (Try.f45.body).getD .skip
noncomputable abbrev tried_B : Body := { c := tried_c, n := 47, res := [.tmp 4], outs := [⟨[.sl (.int .i64)], [.segs [.sl (.int .u8), .i .i64, .i .u32]]⟩], m0 := 1 }
abbrev tried_rt : altD tried_B.outs → Option (List Int × List Int × Int × Int) := fun r => some (r.1.1, r.2.1.1, r.2.1.2.1, r.2.1.2.2.1)
abbrev tried_l1_at : List PI := [.c [1, 1, 1, 0, 1, 0, 0, 0], .c [1, 1, 1, 0, 1, 0, 0, 1], .l [1, 1, 1, 0, 1, 0, 0], .b 0, .c [1, 1, 1, 1]]
abbrev tried_l1_st : Sta := ⟨[0, 3, 5, 6, 7, 13, 14, 15], ⟨[.own 0 0, .own 1 0, .ols 2, .i .i64, .i .i64, .sl (.pair (.int .i64) (.pair (.int .i64) .bool)), .i .i64, .i .i64], [.segs [.sl (.int .u8), .i .i64, .i .u32], .segs [.sl (.pair (.int .i64) (.pair (.int .i64) .bool)), .sl (.pair (.int .i64) (.pair (.int .i64) (.int .i64))), .i .i64], .lst (.int .i64)]⟩⟩
abbrev tried_l1_h (rec : Int → Int → (List (Int × (Int × Bool))) → Int → Int → (List Int) → Int → Int → (List (Int × (Int × Bool))) → (List (Int × (Int × Int))) → Int → (List Int) → Option (List Int × Int × Int × List Int)) : Leaf (List Int × Int × Int × List Int) := ⟨tried_l1_at, tried_l1_st, fun p => rec p.1.2.2.2.1 p.1.2.2.2.2.1 p.1.2.2.2.2.2.1 p.1.2.2.2.2.2.2.1 p.1.2.2.2.2.2.2.2.1 p.2.1.1 p.2.1.2.1 p.2.1.2.2.1 p.2.2.1.1 p.2.2.1.2.1 p.2.2.1.2.2.1 p.2.2.2.1⟩
abbrev tried_l1_e0 : Leaf (List Int × Int × Int × List Int) := ⟨[.c [1, 1, 1, 1, 0], .c [1, 1, 1, 1, 1]], ⟨[5], ⟨[.ols 1], [.segs [.sl (.int .u8), .i .i64, .i .u32], .lst (.int .i64)]⟩⟩, fun p => some ((p.2.1.1, p.2.1.2.1, p.2.1.2.2.1, p.2.2.1))⟩
abbrev tried_j1_at : List PI := [.c [1, 1, 1, 0, 1, 0, 0, 1, 1, 1], .l [1, 1, 1, 0, 1, 0, 0], .b 0, .c [1, 1, 1, 1]]
abbrev tried_j1_st : Sta := ⟨[0, 3, 5, 6, 7, 13, 14, 15], ⟨[.own 0 0, .own 1 0, .ols 2, .i .i64, .i .i64, .sl (.pair (.int .i64) (.pair (.int .i64) .bool)), .i .i64, .i .i64], [.segs [.sl (.int .u8), .i .i64, .i .u32], .segs [.sl (.pair (.int .i64) (.pair (.int .i64) .bool)), .sl (.pair (.int .i64) (.pair (.int .i64) (.int .i64))), .i .i64], .lst (.int .i64)]⟩⟩
abbrev tried_j1_k (N : Nat) (rec : Int → Int → (List (Int × (Int × Bool))) → Int → Int → (List Int) → Int → Int → (List (Int × (Int × Bool))) → (List (Int × (Int × Int))) → Int → (List Int) → Option (List Int × Int × Int × List Int)) : Leaf (List Int × Int × Int × List Int) := ⟨tried_j1_at, tried_j1_st, fun p => tried_j1 N rec p.1.2.2.2.1 p.1.2.2.2.2.1 p.1.2.2.2.2.2.1 p.1.2.2.2.2.2.2.1 p.1.2.2.2.2.2.2.2.1 p.2.1.1 p.2.1.2.1 p.2.1.2.2.1 p.2.2.1.1 p.2.2.1.2.1 p.2.2.1.2.2.1 p.2.2.2.1⟩
theorem tried_j1_eq (N : Nat) (rec : Int → Int → (List (Int × (Int × Bool))) → Int → Int → (List Int) → Int → Int → (List (Int × (Int × Bool))) → (List (Int × (Int × Int))) → Int → (List Int) → Option (List Int × Int × Int × List Int)) (n : Int) (often : Int) (u : List (Int × (Int × Bool))) (u2 : Int) (u3 : Int) (b : List Int) (b2 : Int) (b3 : Int) (t : List (Int × (Int × Bool))) (t2 : List (Int × (Int × Int))) (t3 : Int) (out : List Int) : ev (Z := List Int × Int × Int × List Int) Try.prog (tried_sp N) tried_B [] [tried_l1_h rec, tried_l1_e0] none 400 true tried_j1_at (stL tried_j1_st (((), (), (), n, often, u, u2, u3, ()), ((b, b2, b3, ()), (t, t2, t3, ()), out, ()))) (stH tried_j1_st (((), (), (), n, often, u, u2, u3, ()), ((b, b2, b3, ()), (t, t2, t3, ()), out, ()))) = tried_j1 N rec n often u u2 u3 b b2 b3 t t2 t3 out := by kernel_rfl
theorem tried_j1_lf (N : Nat) (rec : Int → Int → (List (Int × (Int × Bool))) → Int → Int → (List Int) → Int → Int → (List (Int × (Int × Bool))) → (List (Int × (Int × Int))) → Int → (List Int) → Option (List Int × Int × Int × List Int)) {z : List Int × Int × Int × List Int} {top : Bool} {E : EE} {Xc : Ctx} (hE : EOK tried_B.m0 E) (hX : CxOK top Xc) (hrec : LeafOK Try.prog tried_B.c tried_B.n tried_B.m0 E Xc z (tried_l1_h rec)) (h0 : LeafOK Try.prog tried_B.c tried_B.n tried_B.m0 E Xc z tried_l1_e0) : LeafOK Try.prog tried_B.c tried_B.n tried_B.m0 E Xc z (tried_j1_k N rec) := leaf_of_ev (B := tried_B) (loops := []) (leaves := [tried_l1_h rec, tried_l1_e0]) (tried_all N) mixed trivial hE hX ⟨hrec, h0, trivial⟩ RetOK.no (fun p => tried_j1_eq N rec p.1.2.2.2.1 p.1.2.2.2.2.1 p.1.2.2.2.2.2.1 p.1.2.2.2.2.2.2.1 p.1.2.2.2.2.2.2.2.1 p.2.1.1 p.2.1.2.1 p.2.1.2.2.1 p.2.2.1.1 p.2.2.1.2.1 p.2.2.1.2.2.1 p.2.2.2.1)
noncomputable def tried_l1_L (N : Nat) : LoopS := { at_ := tried_l1_at, sta := tried_l1_st, exits := [([.c [1, 1, 1, 1, 0], .c [1, 1, 1, 1, 1]], ⟨[5], ⟨[.ols 1], [.segs [.sl (.int .u8), .i .i64, .i .u32], .lst (.int .i64)]⟩⟩)], run := fun p k => (tried_l1 N N p.1.2.2.2.1 p.1.2.2.2.2.1 p.1.2.2.2.2.2.1 p.1.2.2.2.2.2.2.1 p.1.2.2.2.2.2.2.2.1 p.2.1.1 p.2.1.2.1 p.2.1.2.2.1 p.2.2.1.1 p.2.2.1.2.1 p.2.2.1.2.2.1 p.2.2.2.1).bind fun e => k (.inl (((), ()), ((e.1, e.2.1, e.2.2.1, ()), e.2.2.2, ()))) }
theorem tried_l1_eq (N n_ : Nat) (n : Int) (often : Int) (u : List (Int × (Int × Bool))) (u2 : Int) (u3 : Int) (b : List Int) (b2 : Int) (b3 : Int) (t : List (Int × (Int × Bool))) (t2 : List (Int × (Int × Int))) (t3 : Int) (out : List Int) : ev (Z := List Int × Int × Int × List Int) Try.prog (tried_sp N) tried_B [] [tried_l1_h (tried_l1 N n_), tried_l1_e0, tried_j1_k N (tried_l1 N n_)] none 400 true tried_l1_at (stL tried_l1_st (((), (), (), n, often, u, u2, u3, ()), ((b, b2, b3, ()), (t, t2, t3, ()), out, ()))) (stH tried_l1_st (((), (), (), n, often, u, u2, u3, ()), ((b, b2, b3, ()), (t, t2, t3, ()), out, ()))) = tried_l1 N (n_ + 1) n often u u2 u3 b b2 b3 t t2 t3 out := by kernel_rfl
theorem tried_l1_ok (N : Nat) {top : Bool} : LoopOK Try.prog tried_B.c tried_B.n tried_B.m0 top (tried_l1_L N) := loop_of_ev (Z := List Int × Int × Int × List Int) (N := N) (fun m p => tried_l1 N m p.1.2.2.2.1 p.1.2.2.2.2.1 p.1.2.2.2.2.2.1 p.1.2.2.2.2.2.2.1 p.1.2.2.2.2.2.2.2.1 p.2.1.1 p.2.1.2.1 p.2.1.2.2.1 p.2.2.1.1 p.2.2.1.2.1 p.2.2.1.2.2.1 p.2.2.2.1) (fun e => .inl (((), ()), ((e.1, e.2.1, e.2.2.1, ()), e.2.2.2, ()))) (fun _ _ _ => rfl) (fun _ => rfl) (fun m z E Xc hE hX hrec hx => leaf_of_ev (B := tried_B) (loops := []) (leaves := [tried_l1_h (tried_l1 N m), tried_l1_e0, tried_j1_k N (tried_l1 N m)]) (tried_all N) mixed trivial hE hX ⟨hrec, (fun p hp => by obtain rfl := Option.some.inj hp; exact hx), tried_j1_lf N _ hE hX hrec (fun p hp => by obtain rfl := Option.some.inj hp; exact hx), trivial⟩ RetOK.no (fun p => tried_l1_eq N m p.1.2.2.2.1 p.1.2.2.2.2.1 p.1.2.2.2.2.2.1 p.1.2.2.2.2.2.2.1 p.1.2.2.2.2.2.2.2.1 p.2.1.1 p.2.1.2.1 p.2.1.2.2.1 p.2.2.1.1 p.2.2.1.2.1 p.2.2.1.2.2.1 p.2.2.2.1))
abbrev tried_st : Sta := ⟨[0, 1], ⟨[.own 0 0, .agg [.sl (.pair (.int .i64) (.pair (.int .i64) .bool)), .sl (.pair (.int .i64) (.pair (.int .i64) (.int .i64))), .i .i64]], [.segs [.sl (.int .u8), .i .i64, .i .u32]]⟩⟩
theorem tried_eq (N : Nat) (t : List (Int × (Int × Bool))) (t2 : List (Int × (Int × Int))) (t3 : Int) (b : List Int) (b2 : Int) (b3 : Int) : ev (Z := List Int × List Int × Int × Int) Try.prog (tried_sp N) tried_B [tried_l1_L N] [] (some tried_rt) 400 false [.c [0], .c [1]] (stL tried_st (((), (t, t2, t3, ()), ()), ((b, b2, b3, ()), ()))) (stH tried_st (((), (t, t2, t3, ()), ()), ((b, b2, b3, ()), ()))) = tried_S N t t2 t3 b b2 b3 := by kernel_rfl
noncomputable def sp_tried (N : Nat) : Spec := { f := 45, ins := ⟨[.own 0 0, .agg [.sl (.pair (.int .i64) (.pair (.int .i64) .bool)), .sl (.pair (.int .i64) (.pair (.int .i64) (.int .i64))), .i .i64]], [.segs [.sl (.int .u8), .i .i64, .i .u32]]⟩, outs := [⟨[.sl (.int .i64)], [.segs [.sl (.int .u8), .i .i64, .i .u32]]⟩], run := fun p k => (tried_S N p.1.2.1.1 p.1.2.1.2.1 p.1.2.1.2.2.1 p.2.1.1 p.2.1.2.1 p.2.1.2.2.1).bind fun r => k ((r.1, ()), ((r.2.1, r.2.2.1, r.2.2.2, ()), ())) }
theorem sp_tried_ok (N : Nat) : SpecOK Try.prog (sp_tried N) := fn_sound (B := tried_B) (loops := [tried_l1_L N]) (leaves := []) (fun p => tried_S N p.1.2.1.1 p.1.2.1.2.1 p.1.2.1.2.2.1 p.2.1.1 p.2.1.2.1 p.2.1.2.2.1) (fun r => ((r.1, ()), ((r.2.1, r.2.2.1, r.2.2.2, ()), ()))) tried_rt (fun _ _ _ => rfl) (fun r z h => by cases h; rfl) Try.func45 (by kernel_rfl) (by kernel_rfl) (by kernel_rfl) rfl rfl (by kernel_rfl) (fun args w => Sem.pv_run _ _ _ (by kernel_rfl) w) (tried_all N) mixed ⟨tried_l1_ok N, trivial⟩ (fun z E Xc hE hX hret => trivial) (fun p => tried_eq N p.1.2.1.1 p.1.2.1.2.1 p.1.2.1.2.2.1 p.2.1.1 p.2.1.2.1 p.2.1.2.2.1)

def lsays1_S (N : Nat) (x : Int) (x2 : Int) (x3 : Int) (u : Int) (u2 : Int) : Option Bool :=
  br (decide (u ≤ x2))
    (br (decide (x3 < u2))
      (br (decide (x < u))
        (some true)
        (some (decide (u2 ≤ x))))
      (some false))
    (some false)
noncomputable def lsays1_sp (N : Nat) : List Spec := []
theorem lsays1_all (N : Nat) : AllP (SpecOK Try.prog) (lsays1_sp N) := trivial
noncomputable def lsays1_c : Code := (Try.f151.body).getD .skip
noncomputable abbrev lsays1_B : Body := { c := lsays1_c, n := 29, res := [.tmp 4], outs := [⟨[.b], []⟩], m0 := 0 }
abbrev lsays1_rt : altD lsays1_B.outs → Option Bool := fun r => some r.1.1
abbrev lsays1_st : Sta := ⟨[0, 1, 2], ⟨[.agg [.i .i64, .i .i64, .i .i64], .fe (.int .i64), .fe (.int .i64)], []⟩⟩
theorem lsays1_eq (N : Nat) (x : Int) (x2 : Int) (x3 : Int) (u : Int) (u2 : Int) : ev (Z := Bool) Try.prog (lsays1_sp N) lsays1_B [] [] (some lsays1_rt) 400 false [.c [0], .c [1]] (stL lsays1_st (((x, x2, x3, ()), u, u2, ()), ())) (stH lsays1_st (((x, x2, x3, ()), u, u2, ()), ())) = lsays1_S N x x2 x3 u u2 := by kernel_rfl
noncomputable def sp_lsays1 (N : Nat) : Spec := { f := 151, ins := ⟨[.agg [.i .i64, .i .i64, .i .i64], .fe (.int .i64), .fe (.int .i64)], []⟩, outs := [⟨[.b], []⟩], run := fun p k => (lsays1_S N p.1.1.1 p.1.1.2.1 p.1.1.2.2.1 p.1.2.1 p.1.2.2.1).bind fun r => k ((r, ()), ()) }
theorem sp_lsays1_ok (N : Nat) : SpecOK Try.prog (sp_lsays1 N) := fn_sound (B := lsays1_B) (loops := []) (leaves := []) (fun p => lsays1_S N p.1.1.1 p.1.1.2.1 p.1.1.2.2.1 p.1.2.1 p.1.2.2.1) (fun r => ((r, ()), ())) lsays1_rt (fun _ _ _ => rfl) (fun r z h => by cases h; rfl) Try.func151 (by kernel_rfl) (by kernel_rfl) (by kernel_rfl) rfl rfl (by kernel_rfl) (fun args w => Sem.pv_run _ _ _ (by kernel_rfl) w) (lsays1_all N) mixed trivial (fun z E Xc hE hX hret => trivial) (fun p => lsays1_eq N p.1.1.1 p.1.1.2.1 p.1.1.2.2.1 p.1.2.1 p.1.2.2.1)

def ixfls_l1 (N : Nat) : Nat → (List (Int × (Int × Int))) → Int → Int → Int → Int → Option ((Int) ⊕ (Unit))
  | 0, _, _, _, _, _ => none
  | n_ + 1, s, f, f2, u, u2 =>
    br (decide (u2 < u))
      (idx s u2 fun x_1 =>
      (lsays1_S N x_1.1 x_1.2.1 x_1.2.2 f f2).bind fun x_2 =>
      br x_2
        (some (.inl u2))
        (chk (u2 + 1) <|
        ixfls_l1 N n_ s f f2 u (u2 + 1)))
      (some (.inr ()))
def ixfls_S (N : Nat) (s : List (Int × (Int × Int))) (f : Int) (f2 : Int) : Option Int :=
  (ixfls_l1 N N s f f2 (s.length : Int) 0).bind fun e => match e with
  | .inl i_3 =>
    some i_3
  | .inr _ =>
    some (-1)
noncomputable def ixfls_sp (N : Nat) : List Spec := [sp_lsays1 N]
theorem ixfls_all (N : Nat) : AllP (SpecOK Try.prog) (ixfls_sp N) := ⟨sp_lsays1_ok N, trivial⟩
noncomputable def ixfls_c : Code := (Try.f134.body).getD .skip
noncomputable abbrev ixfls_B : Body := { c := ixfls_c, n := 19, res := [.tmp 4], outs := [⟨[.i .i64], []⟩], m0 := 0 }
abbrev ixfls_rt : altD ixfls_B.outs → Option Int := fun r => some r.1.1
abbrev ixfls_l1_at : List PI := [.c [1, 0, 1, 0, 0, 0], .c [1, 0, 1, 0, 0, 1], .l [1, 0, 1, 0, 0], .b 0, .c [1, 1]]
abbrev ixfls_l1_st : Sta := ⟨[0, 1, 7, 8], ⟨[.sl (.pair (.int .i64) (.pair (.int .i64) (.int .i64))), .fn 151 [] [.fe (.int .i64), .fe (.int .i64)], .i .i64, .i .i64], []⟩⟩
abbrev ixfls_l1_h (rec : (List (Int × (Int × Int))) → Int → Int → Int → Int → Option ((Int) ⊕ (Unit))) : Leaf ((Int) ⊕ (Unit)) := ⟨ixfls_l1_at, ixfls_l1_st, fun p => rec p.1.1 p.1.2.1.2.1 p.1.2.1.2.2.1 p.1.2.2.1 p.1.2.2.2.1⟩
abbrev ixfls_l1_e0 : Leaf ((Int) ⊕ (Unit)) := ⟨[.c [1, 0, 1, 0, 0, 1, 1, 0, 0, 1, 1, 0, 0], .c [1, 0, 1, 0, 0, 1, 1, 0, 0, 1, 1, 0, 1], .b 1, .c [1, 0, 1, 0, 0, 1, 1, 1], .l [1, 0, 1, 0, 0], .b 0, .c [1, 1]], ⟨[5], ⟨[.i .i64], []⟩⟩, fun p => some (.inl p.1.1)⟩
abbrev ixfls_l1_e1 : Leaf ((Int) ⊕ (Unit)) := ⟨[.c [1, 1, 0], .c [1, 1, 1]], ⟨[], ⟨[], []⟩⟩, fun p => some (.inr ())⟩
noncomputable def ixfls_l1_L (N : Nat) : LoopS := { at_ := ixfls_l1_at, sta := ixfls_l1_st, exits := [([.c [1, 0, 1, 0, 0, 1, 1, 0, 0, 1, 1, 0, 0], .c [1, 0, 1, 0, 0, 1, 1, 0, 0, 1, 1, 0, 1], .b 1, .c [1, 0, 1, 0, 0, 1, 1, 1], .l [1, 0, 1, 0, 0], .b 0, .c [1, 1]], ⟨[5], ⟨[.i .i64], []⟩⟩), ([.c [1, 1, 0], .c [1, 1, 1]], ⟨[], ⟨[], []⟩⟩)], run := fun p k => (ixfls_l1 N N p.1.1 p.1.2.1.2.1 p.1.2.1.2.2.1 p.1.2.2.1 p.1.2.2.2.1).bind fun e => match e with | .inl x => k (.inl ((x, ()), ())) | .inr x => k (.inr (.inl ((), ()))) }
theorem ixfls_l1_eq (N n_ : Nat) (s : List (Int × (Int × Int))) (f : Int) (f2 : Int) (u : Int) (u2 : Int) : ev (Z := (Int) ⊕ (Unit)) Try.prog (ixfls_sp N) ixfls_B [] [ixfls_l1_h (ixfls_l1 N n_), ixfls_l1_e0, ixfls_l1_e1] none 400 true ixfls_l1_at (stL ixfls_l1_st ((s, ((), (f, f2, ())), u, u2, ()), ())) (stH ixfls_l1_st ((s, ((), (f, f2, ())), u, u2, ()), ())) = ixfls_l1 N (n_ + 1) s f f2 u u2 := by kernel_rfl
theorem ixfls_l1_ok (N : Nat) {top : Bool} : LoopOK Try.prog ixfls_B.c ixfls_B.n ixfls_B.m0 top (ixfls_l1_L N) := loop_of_ev (Z := (Int) ⊕ (Unit)) (N := N) (fun m p => ixfls_l1 N m p.1.1 p.1.2.1.2.1 p.1.2.1.2.2.1 p.1.2.2.1 p.1.2.2.2.1) (fun e => match e with | .inl x => .inl ((x, ()), ()) | .inr x => .inr (.inl ((), ()))) (fun _ p k => bind_congr_ (ixfls_l1 N N p.1.1 p.1.2.1.2.1 p.1.2.1.2.2.1 p.1.2.2.1 p.1.2.2.2.1) _ _ (fun e => by rcases e with x | x <;> rfl)) (fun _ => rfl) (fun m z E Xc hE hX hrec hx => leaf_of_ev (B := ixfls_B) (loops := []) (leaves := [ixfls_l1_h (ixfls_l1 N m), ixfls_l1_e0, ixfls_l1_e1]) (ixfls_all N) mixed trivial hE hX ⟨hrec, (fun p hp => by obtain rfl := Option.some.inj hp; exact hx), (fun p hp => by obtain rfl := Option.some.inj hp; exact hx), trivial⟩ RetOK.no (fun p => ixfls_l1_eq N m p.1.1 p.1.2.1.2.1 p.1.2.1.2.2.1 p.1.2.2.1 p.1.2.2.2.1))
abbrev ixfls_st : Sta := ⟨[0, 1], ⟨[.sl (.pair (.int .i64) (.pair (.int .i64) (.int .i64))), .fn 151 [] [.fe (.int .i64), .fe (.int .i64)]], []⟩⟩
theorem ixfls_eq (N : Nat) (s : List (Int × (Int × Int))) (f : Int) (f2 : Int) : ev (Z := Int) Try.prog (ixfls_sp N) ixfls_B [ixfls_l1_L N] [] (some ixfls_rt) 400 false [.c [0], .c [1]] (stL ixfls_st ((s, ((), (f, f2, ())), ()), ())) (stH ixfls_st ((s, ((), (f, f2, ())), ()), ())) = ixfls_S N s f f2 := by kernel_rfl
noncomputable def sp_ixfls (N : Nat) : Spec := { f := 134, ins := ⟨[.sl (.pair (.int .i64) (.pair (.int .i64) (.int .i64))), .fn 151 [] [.fe (.int .i64), .fe (.int .i64)]], []⟩, outs := [⟨[.i .i64], []⟩], run := fun p k => (ixfls_S N p.1.1 p.1.2.1.2.1 p.1.2.1.2.2.1).bind fun r => k ((r, ()), ()) }
theorem sp_ixfls_ok (N : Nat) : SpecOK Try.prog (sp_ixfls N) := fn_sound (B := ixfls_B) (loops := [ixfls_l1_L N]) (leaves := []) (fun p => ixfls_S N p.1.1 p.1.2.1.2.1 p.1.2.1.2.2.1) (fun r => ((r, ()), ())) ixfls_rt (fun _ _ _ => rfl) (fun r z h => by cases h; rfl) Try.func134 (by kernel_rfl) (by kernel_rfl) (by kernel_rfl) rfl rfl (by kernel_rfl) (fun args w => Sem.pv_run _ _ _ (by kernel_rfl) w) (ixfls_all N) mixed ⟨ixfls_l1_ok N, trivial⟩ (fun z E Xc hE hX hret => trivial) (fun p => ixfls_eq N p.1.1 p.1.2.1.2.1 p.1.2.1.2.2.1)

def cofls_S (N : Nat) (s : List (Int × (Int × Int))) (f : Int) (f2 : Int) : Option Bool :=
  (ixfls_S N s f f2).bind fun x_1 =>
  some (decide (0 ≤ x_1))
noncomputable def cofls_sp (N : Nat) : List Spec := [sp_ixfls N]
theorem cofls_all (N : Nat) : AllP (SpecOK Try.prog) (cofls_sp N) := ⟨sp_ixfls_ok N, trivial⟩
noncomputable def cofls_c : Code := (Try.f75.body).getD .skip
noncomputable abbrev cofls_B : Body := { c := cofls_c, n := 9, res := [.tmp 4], outs := [⟨[.b], []⟩], m0 := 0 }
abbrev cofls_rt : altD cofls_B.outs → Option Bool := fun r => some r.1.1
abbrev cofls_st : Sta := ⟨[0, 1], ⟨[.sl (.pair (.int .i64) (.pair (.int .i64) (.int .i64))), .fn 151 [] [.fe (.int .i64), .fe (.int .i64)]], []⟩⟩
theorem cofls_eq (N : Nat) (s : List (Int × (Int × Int))) (f : Int) (f2 : Int) : ev (Z := Bool) Try.prog (cofls_sp N) cofls_B [] [] (some cofls_rt) 400 false [.c [0], .c [1]] (stL cofls_st ((s, ((), (f, f2, ())), ()), ())) (stH cofls_st ((s, ((), (f, f2, ())), ()), ())) = cofls_S N s f f2 := by kernel_rfl
noncomputable def sp_cofls (N : Nat) : Spec := { f := 75, ins := ⟨[.sl (.pair (.int .i64) (.pair (.int .i64) (.int .i64))), .fn 151 [] [.fe (.int .i64), .fe (.int .i64)]], []⟩, outs := [⟨[.b], []⟩], run := fun p k => (cofls_S N p.1.1 p.1.2.1.2.1 p.1.2.1.2.2.1).bind fun r => k ((r, ()), ()) }
theorem sp_cofls_ok (N : Nat) : SpecOK Try.prog (sp_cofls N) := fn_sound (B := cofls_B) (loops := []) (leaves := []) (fun p => cofls_S N p.1.1 p.1.2.1.2.1 p.1.2.1.2.2.1) (fun r => ((r, ()), ())) cofls_rt (fun _ _ _ => rfl) (fun r z h => by cases h; rfl) Try.func75 (by kernel_rfl) (by kernel_rfl) (by kernel_rfl) rfl rfl (by kernel_rfl) (fun args w => Sem.pv_run _ _ _ (by kernel_rfl) w) (cofls_all N) mixed trivial (fun z E Xc hE hX hret => trivial) (fun p => cofls_eq N p.1.1 p.1.2.1.2.1 p.1.2.1.2.2.1)

def lsays_S (N : Nat) (t : List (Int × (Int × Bool))) (t2 : List (Int × (Int × Int))) (t3 : Int) (from_ : Int) (to : Int) : Option Bool :=
  (cofls_S N t2 from_ to).bind fun x_1 =>
  some x_1
noncomputable def lsays_sp (N : Nat) : List Spec := [sp_cofls N]
theorem lsays_all (N : Nat) : AllP (SpecOK Try.prog) (lsays_sp N) := ⟨sp_cofls_ok N, trivial⟩
noncomputable def lsays_c : Code := (Try.f114.body).getD .skip
noncomputable abbrev lsays_B : Body := { c := lsays_c, n := 11, res := [.tmp 6], outs := [⟨[.b], []⟩], m0 := 0 }
abbrev lsays_rt : altD lsays_B.outs → Option Bool := fun r => some r.1.1
abbrev lsays_st : Sta := ⟨[0, 1, 2], ⟨[.agg [.sl (.pair (.int .i64) (.pair (.int .i64) .bool)), .sl (.pair (.int .i64) (.pair (.int .i64) (.int .i64))), .i .i64], .i .i64, .i .i64], []⟩⟩
theorem lsays_eq (N : Nat) (t : List (Int × (Int × Bool))) (t2 : List (Int × (Int × Int))) (t3 : Int) (from_ : Int) (to : Int) : ev (Z := Bool) Try.prog (lsays_sp N) lsays_B [] [] (some lsays_rt) 400 false [.c [0], .c [1]] (stL lsays_st (((t, t2, t3, ()), from_, to, ()), ())) (stH lsays_st (((t, t2, t3, ()), from_, to, ()), ())) = lsays_S N t t2 t3 from_ to := by kernel_rfl
noncomputable def sp_lsays (N : Nat) : Spec := { f := 114, ins := ⟨[.agg [.sl (.pair (.int .i64) (.pair (.int .i64) .bool)), .sl (.pair (.int .i64) (.pair (.int .i64) (.int .i64))), .i .i64], .i .i64, .i .i64], []⟩, outs := [⟨[.b], []⟩], run := fun p k => (lsays_S N p.1.1.1 p.1.1.2.1 p.1.1.2.2.1 p.1.2.1 p.1.2.2.1).bind fun r => k ((r, ()), ()) }
theorem sp_lsays_ok (N : Nat) : SpecOK Try.prog (sp_lsays N) := fn_sound (B := lsays_B) (loops := []) (leaves := []) (fun p => lsays_S N p.1.1.1 p.1.1.2.1 p.1.1.2.2.1 p.1.2.1 p.1.2.2.1) (fun r => ((r, ()), ())) lsays_rt (fun _ _ _ => rfl) (fun r z h => by cases h; rfl) Try.func114 (by kernel_rfl) (by kernel_rfl) (by kernel_rfl) rfl rfl (by kernel_rfl) (fun args w => Sem.pv_run _ _ _ (by kernel_rfl) w) (lsays_all N) mixed trivial (fun z E Xc hE hX hret => trivial) (fun p => lsays_eq N p.1.1.1 p.1.1.2.1 p.1.1.2.2.1 p.1.2.1 p.1.2.2.1)

def fits_l1 (N : Nat) : Nat → Int → Int → Int → (List (Int × (Int × Bool))) → Int → Int → (List (Int × (Int × Bool))) → (List (Int × (Int × Int))) → Int → Option (Int × Int × Int × (List (Int × (Int × Bool))) × (List (Int × (Int × Int))) × Int)
  | 0, _, _, _, _, _, _, _, _, _ => none
  | n_ + 1, from_, to, n, u, u2, u3, t, t2, t3 =>
    br (decide (u3 < u2))
      (idx u u3 fun x_1 =>
      chk (n + x_1.1) <|
      chk (u3 + 1) <|
      fits_l1 N n_ from_ to (n + x_1.1) u u2 (u3 + 1) t t2 t3)
      (some ((from_, to, n, t, t2, t3)))
def fits_S (N : Nat) (t : List (Int × (Int × Bool))) (t2 : List (Int × (Int × Int))) (t3 : Int) (from_ : Int) (to : Int) : Option Bool :=
  grd (decide ((0 : Int) ≤ from_ ∧ (from_ : Int) ≤ to ∧ to ≤ (t.length : Int))) <|
  (fits_l1 N N from_ to 0 ((t.take to.toNat).drop from_.toNat) (((t.take to.toNat).drop from_.toNat).length : Int) 0 t t2 t3).bind fun (from__2, to_3, n_4, t_5, t2_6, t3_7) =>
  br (decide (n_4 ≤ t3_7))
    (br (decide (from__2 = 0))
      (br (decide (to_3 = (t_5.length : Int)))
        ((lsays_S N t_5 t2_6 t3_7 from__2 to_3).bind fun x_8 =>
        some (!x_8))
        (chk (to_3 - 1) <|
        idx t_5 (to_3 - 1) fun x_9 =>
        br x_9.2.2
          ((lsays_S N t_5 t2_6 t3_7 from__2 to_3).bind fun x_10 =>
          some (!x_10))
          (some false)))
      (chk (from__2 - 1) <|
      idx t_5 (from__2 - 1) fun x_11 =>
      br x_11.2.2
        (br (decide (to_3 = (t_5.length : Int)))
          ((lsays_S N t_5 t2_6 t3_7 from__2 to_3).bind fun x_12 =>
          some (!x_12))
          (chk (to_3 - 1) <|
          idx t_5 (to_3 - 1) fun x_13 =>
          br x_13.2.2
            ((lsays_S N t_5 t2_6 t3_7 from__2 to_3).bind fun x_14 =>
            some (!x_14))
            (some false)))
        (some false)))
    (some false)
noncomputable def fits_sp (N : Nat) : List Spec := [sp_lsays N]
theorem fits_all (N : Nat) : AllP (SpecOK Try.prog) (fits_sp N) := ⟨sp_lsays_ok N, trivial⟩
noncomputable def fits_c : Code := (Try.f64.body).getD .skip
noncomputable abbrev fits_B : Body := { c := fits_c, n := 65, res := [.tmp 6], outs := [⟨[.b], []⟩], m0 := 0 }
abbrev fits_rt : altD fits_B.outs → Option Bool := fun r => some r.1.1
abbrev fits_l1_at : List PI := [.c [1, 1, 0, 1, 0, 0, 0], .c [1, 1, 0, 1, 0, 0, 1], .l [1, 1, 0, 1, 0, 0], .b 0, .c [1, 1, 1]]
abbrev fits_l1_st : Sta := ⟨[1, 2, 3, 7, 14, 15, 16], ⟨[.i .i64, .i .i64, .own 0 0, .i .i64, .sl (.pair (.int .i64) (.pair (.int .i64) .bool)), .i .i64, .i .i64], [.segs [.sl (.pair (.int .i64) (.pair (.int .i64) .bool)), .sl (.pair (.int .i64) (.pair (.int .i64) (.int .i64))), .i .i64]]⟩⟩
abbrev fits_l1_h (rec : Int → Int → Int → (List (Int × (Int × Bool))) → Int → Int → (List (Int × (Int × Bool))) → (List (Int × (Int × Int))) → Int → Option (Int × Int × Int × (List (Int × (Int × Bool))) × (List (Int × (Int × Int))) × Int)) : Leaf (Int × Int × Int × (List (Int × (Int × Bool))) × (List (Int × (Int × Int))) × Int) := ⟨fits_l1_at, fits_l1_st, fun p => rec p.1.1 p.1.2.1 p.1.2.2.2.1 p.1.2.2.2.2.1 p.1.2.2.2.2.2.1 p.1.2.2.2.2.2.2.1 p.2.1.1 p.2.1.2.1 p.2.1.2.2.1⟩
abbrev fits_l1_e0 : Leaf (Int × Int × Int × (List (Int × (Int × Bool))) × (List (Int × (Int × Int))) × Int) := ⟨[.c [1, 1, 1, 0], .c [1, 1, 1, 1]], ⟨[1, 2, 3, 7], ⟨[.i .i64, .i .i64, .own 0 0, .i .i64], [.segs [.sl (.pair (.int .i64) (.pair (.int .i64) .bool)), .sl (.pair (.int .i64) (.pair (.int .i64) (.int .i64))), .i .i64]]⟩⟩, fun p => some ((p.1.1, p.1.2.1, p.1.2.2.2.1, p.2.1.1, p.2.1.2.1, p.2.1.2.2.1))⟩
noncomputable def fits_l1_L (N : Nat) : LoopS := { at_ := fits_l1_at, sta := fits_l1_st, exits := [([.c [1, 1, 1, 0], .c [1, 1, 1, 1]], ⟨[1, 2, 3, 7], ⟨[.i .i64, .i .i64, .own 0 0, .i .i64], [.segs [.sl (.pair (.int .i64) (.pair (.int .i64) .bool)), .sl (.pair (.int .i64) (.pair (.int .i64) (.int .i64))), .i .i64]]⟩⟩)], run := fun p k => (fits_l1 N N p.1.1 p.1.2.1 p.1.2.2.2.1 p.1.2.2.2.2.1 p.1.2.2.2.2.2.1 p.1.2.2.2.2.2.2.1 p.2.1.1 p.2.1.2.1 p.2.1.2.2.1).bind fun e => k (.inl ((e.1, e.2.1, (), e.2.2.1, ()), ((e.2.2.2.1, e.2.2.2.2.1, e.2.2.2.2.2, ()), ()))) }
theorem fits_l1_eq (N n_ : Nat) (from_ : Int) (to : Int) (n : Int) (u : List (Int × (Int × Bool))) (u2 : Int) (u3 : Int) (t : List (Int × (Int × Bool))) (t2 : List (Int × (Int × Int))) (t3 : Int) : ev (Z := Int × Int × Int × (List (Int × (Int × Bool))) × (List (Int × (Int × Int))) × Int) Try.prog (fits_sp N) fits_B [] [fits_l1_h (fits_l1 N n_), fits_l1_e0] none 400 true fits_l1_at (stL fits_l1_st ((from_, to, (), n, u, u2, u3, ()), ((t, t2, t3, ()), ()))) (stH fits_l1_st ((from_, to, (), n, u, u2, u3, ()), ((t, t2, t3, ()), ()))) = fits_l1 N (n_ + 1) from_ to n u u2 u3 t t2 t3 := by kernel_rfl
theorem fits_l1_ok (N : Nat) {top : Bool} : LoopOK Try.prog fits_B.c fits_B.n fits_B.m0 top (fits_l1_L N) := loop_of_ev (Z := Int × Int × Int × (List (Int × (Int × Bool))) × (List (Int × (Int × Int))) × Int) (N := N) (fun m p => fits_l1 N m p.1.1 p.1.2.1 p.1.2.2.2.1 p.1.2.2.2.2.1 p.1.2.2.2.2.2.1 p.1.2.2.2.2.2.2.1 p.2.1.1 p.2.1.2.1 p.2.1.2.2.1) (fun e => .inl ((e.1, e.2.1, (), e.2.2.1, ()), ((e.2.2.2.1, e.2.2.2.2.1, e.2.2.2.2.2, ()), ()))) (fun _ _ _ => rfl) (fun _ => rfl) (fun m z E Xc hE hX hrec hx => leaf_of_ev (B := fits_B) (loops := []) (leaves := [fits_l1_h (fits_l1 N m), fits_l1_e0]) (fits_all N) mixed trivial hE hX ⟨hrec, (fun p hp => by obtain rfl := Option.some.inj hp; exact hx), trivial⟩ RetOK.no (fun p => fits_l1_eq N m p.1.1 p.1.2.1 p.1.2.2.2.1 p.1.2.2.2.2.1 p.1.2.2.2.2.2.1 p.1.2.2.2.2.2.2.1 p.2.1.1 p.2.1.2.1 p.2.1.2.2.1))
abbrev fits_st : Sta := ⟨[0, 1, 2], ⟨[.agg [.sl (.pair (.int .i64) (.pair (.int .i64) .bool)), .sl (.pair (.int .i64) (.pair (.int .i64) (.int .i64))), .i .i64], .i .i64, .i .i64], []⟩⟩
theorem fits_eq (N : Nat) (t : List (Int × (Int × Bool))) (t2 : List (Int × (Int × Int))) (t3 : Int) (from_ : Int) (to : Int) : ev (Z := Bool) Try.prog (fits_sp N) fits_B [fits_l1_L N] [] (some fits_rt) 400 false [.c [0], .c [1]] (stL fits_st (((t, t2, t3, ()), from_, to, ()), ())) (stH fits_st (((t, t2, t3, ()), from_, to, ()), ())) = fits_S N t t2 t3 from_ to := by kernel_rfl
noncomputable def sp_fits (N : Nat) : Spec := { f := 64, ins := ⟨[.agg [.sl (.pair (.int .i64) (.pair (.int .i64) .bool)), .sl (.pair (.int .i64) (.pair (.int .i64) (.int .i64))), .i .i64], .i .i64, .i .i64], []⟩, outs := [⟨[.b], []⟩], run := fun p k => (fits_S N p.1.1.1 p.1.1.2.1 p.1.1.2.2.1 p.1.2.1 p.1.2.2.1).bind fun r => k ((r, ()), ()) }
theorem sp_fits_ok (N : Nat) : SpecOK Try.prog (sp_fits N) := fn_sound (B := fits_B) (loops := [fits_l1_L N]) (leaves := []) (fun p => fits_S N p.1.1.1 p.1.1.2.1 p.1.1.2.2.1 p.1.2.1 p.1.2.2.1) (fun r => ((r, ()), ())) fits_rt (fun _ _ _ => rfl) (fun r z h => by cases h; rfl) Try.func64 (by kernel_rfl) (by kernel_rfl) (by kernel_rfl) rfl rfl (by kernel_rfl) (fun args w => Sem.pv_run _ _ _ (by kernel_rfl) w) (fits_all N) mixed ⟨fits_l1_ok N, trivial⟩ (fun z E Xc hE hX hret => trivial) (fun p => fits_eq N p.1.1.1 p.1.1.2.1 p.1.1.2.2.1 p.1.2.1 p.1.2.2.1)

def places_l1 (N : Nat) : Nat → (List Int) → Int → Int → (List (Int × (Int × Bool))) → (List (Int × (Int × Int))) → Int → (List Int) → Option ((Unit) ⊕ ((List (Int × (Int × Bool))) × (List (Int × (Int × Int))) × Int × List Int))
  | 0, _, _, _, _, _, _, _ => none
  | n_ + 1, u, u2, u3, t, t2, t3, out =>
    br (decide (u3 < u2))
      (idx u u3 fun x_1 =>
      chk ((out.length : Int) - 1) <|
      rng ((out.length : Int) - 1) out.length <|
      get out (((out.length : Int) - 1).toNat) fun x_2 =>
      br (decide (x_1 < 1))
        (some (.inl ()))
        (chk ((t.length : Int) - x_2) <|
        br (decide (((t.length : Int) - x_2) < x_1))
          (some (.inl ()))
          (chk ((out.length : Int) - 1) <|
          rng ((out.length : Int) - 1) out.length <|
          get out (((out.length : Int) - 1).toNat) fun x_3 =>
          chk (x_3 + x_1) <|
          lim (out.length + [(x_3 + x_1)].length) <|
          chk (u3 + 1) <|
          places_l1 N n_ u u2 (u3 + 1) t t2 t3 (out ++ [(x_3 + x_1)]))))
      (some (.inr (t, t2, t3, out)))
def places_S (N : Nat) (t : List (Int × (Int × Bool))) (t2 : List (Int × (Int × Int))) (t3 : Int) (l : List Int) : Option (List Int) :=
  (places_l1 N N l (l.length : Int) 0 t t2 t3 [0]).bind fun e => match e with
  | .inl _ =>
    some []
  | .inr (t_4, t2_5, t3_6, out_7) =>
    chk ((out_7.length : Int) - 1) <|
    rng ((out_7.length : Int) - 1) out_7.length <|
    get out_7 (((out_7.length : Int) - 1).toNat) fun x_8 =>
    br (!decide (x_8 = (t_4.length : Int)))
      (some [])
      (some out_7)
noncomputable def places_sp (N : Nat) : List Spec := []
theorem places_all (N : Nat) : AllP (SpecOK Try.prog) (places_sp N) := trivial
noncomputable def places_c : Code := (Try.f39.body).getD .skip
noncomputable abbrev places_B : Body := { c := places_c, n := 56, res := [.tmp 4], outs := [⟨[.sl (.int .i64)], []⟩], m0 := 0 }
abbrev places_rt : altD places_B.outs → Option (List Int) := fun r => some r.1.1
abbrev places_l1_at : List PI := [.c [1, 1, 0, 1, 0, 0, 0], .c [1, 1, 0, 1, 0, 0, 1], .l [1, 1, 0, 1, 0, 0], .b 0, .c [1, 1, 1]]
abbrev places_l1_st : Sta := ⟨[2, 5, 10, 11, 12], ⟨[.own 0 0, .ols 1, .sl (.int .i64), .i .i64, .i .i64], [.segs [.sl (.pair (.int .i64) (.pair (.int .i64) .bool)), .sl (.pair (.int .i64) (.pair (.int .i64) (.int .i64))), .i .i64], .lst (.int .i64)]⟩⟩
abbrev places_l1_h (rec : (List Int) → Int → Int → (List (Int × (Int × Bool))) → (List (Int × (Int × Int))) → Int → (List Int) → Option ((Unit) ⊕ ((List (Int × (Int × Bool))) × (List (Int × (Int × Int))) × Int × List Int))) : Leaf ((Unit) ⊕ ((List (Int × (Int × Bool))) × (List (Int × (Int × Int))) × Int × List Int)) := ⟨places_l1_at, places_l1_st, fun p => rec p.1.2.2.1 p.1.2.2.2.1 p.1.2.2.2.2.1 p.2.1.1 p.2.1.2.1 p.2.1.2.2.1 p.2.2.1⟩
abbrev places_l1_e0 : Leaf ((Unit) ⊕ ((List (Int × (Int × Bool))) × (List (Int × (Int × Int))) × Int × List Int)) := ⟨[.c [1, 1, 0, 1, 0, 0, 1, 1, 0, 0, 1, 0, 1, 1, 0, 0], .c [1, 1, 0, 1, 0, 0, 1, 1, 0, 0, 1, 0, 1, 1, 0, 1], .c [1, 1, 0, 1, 0, 0, 1, 1, 0, 0, 1, 1], .b 1, .c [1, 1, 0, 1, 0, 0, 1, 1, 1], .l [1, 1, 0, 1, 0, 0], .b 0, .c [1, 1, 1]], ⟨[], ⟨[], []⟩⟩, fun p => some (.inl ())⟩
abbrev places_l1_e1 : Leaf ((Unit) ⊕ ((List (Int × (Int × Bool))) × (List (Int × (Int × Int))) × Int × List Int)) := ⟨[.c [1, 1, 1, 0, 0], .c [1, 1, 1, 0, 1], .c [1, 1, 1, 1]], ⟨[2, 5], ⟨[.own 0 0, .ols 1], [.segs [.sl (.pair (.int .i64) (.pair (.int .i64) .bool)), .sl (.pair (.int .i64) (.pair (.int .i64) (.int .i64))), .i .i64], .lst (.int .i64)]⟩⟩, fun p => some (.inr (p.2.1.1, p.2.1.2.1, p.2.1.2.2.1, p.2.2.1))⟩
noncomputable def places_l1_L (N : Nat) : LoopS := { at_ := places_l1_at, sta := places_l1_st, exits := [([.c [1, 1, 0, 1, 0, 0, 1, 1, 0, 0, 1, 0, 1, 1, 0, 0], .c [1, 1, 0, 1, 0, 0, 1, 1, 0, 0, 1, 0, 1, 1, 0, 1], .c [1, 1, 0, 1, 0, 0, 1, 1, 0, 0, 1, 1], .b 1, .c [1, 1, 0, 1, 0, 0, 1, 1, 1], .l [1, 1, 0, 1, 0, 0], .b 0, .c [1, 1, 1]], ⟨[], ⟨[], []⟩⟩), ([.c [1, 1, 1, 0, 0], .c [1, 1, 1, 0, 1], .c [1, 1, 1, 1]], ⟨[2, 5], ⟨[.own 0 0, .ols 1], [.segs [.sl (.pair (.int .i64) (.pair (.int .i64) .bool)), .sl (.pair (.int .i64) (.pair (.int .i64) (.int .i64))), .i .i64], .lst (.int .i64)]⟩⟩)], run := fun p k => (places_l1 N N p.1.2.2.1 p.1.2.2.2.1 p.1.2.2.2.2.1 p.2.1.1 p.2.1.2.1 p.2.1.2.2.1 p.2.2.1).bind fun e => match e with | .inl x => k (.inl ((), ())) | .inr x => k (.inr (.inl (((), (), ()), ((x.1, x.2.1, x.2.2.1, ()), x.2.2.2, ())))) }
theorem places_l1_eq (N n_ : Nat) (u : List Int) (u2 : Int) (u3 : Int) (t : List (Int × (Int × Bool))) (t2 : List (Int × (Int × Int))) (t3 : Int) (out : List Int) : ev (Z := (Unit) ⊕ ((List (Int × (Int × Bool))) × (List (Int × (Int × Int))) × Int × List Int)) Try.prog (places_sp N) places_B [] [places_l1_h (places_l1 N n_), places_l1_e0, places_l1_e1] none 400 true places_l1_at (stL places_l1_st (((), (), u, u2, u3, ()), ((t, t2, t3, ()), out, ()))) (stH places_l1_st (((), (), u, u2, u3, ()), ((t, t2, t3, ()), out, ()))) = places_l1 N (n_ + 1) u u2 u3 t t2 t3 out := by kernel_rfl
theorem places_l1_ok (N : Nat) {top : Bool} : LoopOK Try.prog places_B.c places_B.n places_B.m0 top (places_l1_L N) := loop_of_ev (Z := (Unit) ⊕ ((List (Int × (Int × Bool))) × (List (Int × (Int × Int))) × Int × List Int)) (N := N) (fun m p => places_l1 N m p.1.2.2.1 p.1.2.2.2.1 p.1.2.2.2.2.1 p.2.1.1 p.2.1.2.1 p.2.1.2.2.1 p.2.2.1) (fun e => match e with | .inl x => .inl ((), ()) | .inr x => .inr (.inl (((), (), ()), ((x.1, x.2.1, x.2.2.1, ()), x.2.2.2, ())))) (fun _ p k => bind_congr_ (places_l1 N N p.1.2.2.1 p.1.2.2.2.1 p.1.2.2.2.2.1 p.2.1.1 p.2.1.2.1 p.2.1.2.2.1 p.2.2.1) _ _ (fun e => by rcases e with x | x <;> rfl)) (fun _ => rfl) (fun m z E Xc hE hX hrec hx => leaf_of_ev (B := places_B) (loops := []) (leaves := [places_l1_h (places_l1 N m), places_l1_e0, places_l1_e1]) (places_all N) mixed trivial hE hX ⟨hrec, (fun p hp => by obtain rfl := Option.some.inj hp; exact hx), (fun p hp => by obtain rfl := Option.some.inj hp; exact hx), trivial⟩ RetOK.no (fun p => places_l1_eq N m p.1.2.2.1 p.1.2.2.2.1 p.1.2.2.2.2.1 p.2.1.1 p.2.1.2.1 p.2.1.2.2.1 p.2.2.1))
abbrev places_st : Sta := ⟨[0, 1], ⟨[.agg [.sl (.pair (.int .i64) (.pair (.int .i64) .bool)), .sl (.pair (.int .i64) (.pair (.int .i64) (.int .i64))), .i .i64], .sl (.int .i64)], []⟩⟩
theorem places_eq (N : Nat) (t : List (Int × (Int × Bool))) (t2 : List (Int × (Int × Int))) (t3 : Int) (l : List Int) : ev (Z := List Int) Try.prog (places_sp N) places_B [places_l1_L N] [] (some places_rt) 400 false [.c [0], .c [1]] (stL places_st (((t, t2, t3, ()), l, ()), ())) (stH places_st (((t, t2, t3, ()), l, ()), ())) = places_S N t t2 t3 l := by kernel_rfl
noncomputable def sp_places (N : Nat) : Spec := { f := 39, ins := ⟨[.agg [.sl (.pair (.int .i64) (.pair (.int .i64) .bool)), .sl (.pair (.int .i64) (.pair (.int .i64) (.int .i64))), .i .i64], .sl (.int .i64)], []⟩, outs := [⟨[.sl (.int .i64)], []⟩], run := fun p k => (places_S N p.1.1.1 p.1.1.2.1 p.1.1.2.2.1 p.1.2.1).bind fun r => k ((r, ()), ()) }
theorem sp_places_ok (N : Nat) : SpecOK Try.prog (sp_places N) := fn_sound (B := places_B) (loops := [places_l1_L N]) (leaves := []) (fun p => places_S N p.1.1.1 p.1.1.2.1 p.1.1.2.2.1 p.1.2.1) (fun r => ((r, ()), ())) places_rt (fun _ _ _ => rfl) (fun r z h => by cases h; rfl) Try.func39 (by kernel_rfl) (by kernel_rfl) (by kernel_rfl) rfl rfl (by kernel_rfl) (fun args w => Sem.pv_run _ _ _ (by kernel_rfl) w) (places_all N) mixed ⟨places_l1_ok N, trivial⟩ (fun z E Xc hE hX hret => trivial) (fun p => places_eq N p.1.1.1 p.1.1.2.1 p.1.1.2.2.1 p.1.2.1)

def sound_l1 (N : Nat) : Nat → (List Int) → Int → Int → (List (Int × (Int × Bool))) → (List (Int × (Int × Int))) → Int → Option ((Unit) ⊕ (List Int))
  | 0, _, _, _, _, _, _ => none
  | n_ + 1, p, u, u2, t, t2, t3 =>
    br (decide (u2 < u))
      (idx p u2 fun x_2 =>
      chk (u2 + 1) <|
      idx p (u2 + 1) fun x_3 =>
      (fits_S N t t2 t3 x_2 x_3).bind fun x_4 =>
      br (!x_4)
        (some (.inl ()))
        (chk (u2 + 1) <|
        sound_l1 N n_ p u (u2 + 1) t t2 t3))
      (some (.inr p))
def sound_S (N : Nat) (t : List (Int × (Int × Bool))) (t2 : List (Int × (Int × Int))) (t3 : Int) (l : List Int) : Option Bool :=
  (places_S N t t2 t3 l).bind fun x_1 =>
  chk ((x_1.length : Int) - 1) <|
  grd (decide ((0 : Int) ≤ (max 0 ((x_1.length : Int) - 1)) ∧ (max 0 ((x_1.length : Int) - 1)) ≤ (x_1.length : Int))) <|
  (sound_l1 N N x_1 ((x_1.take ((max 0 ((x_1.length : Int) - 1)).toNat)).length : Int) 0 t t2 t3).bind fun e => match e with
  | .inl _ =>
    some false
  | .inr p_5 =>
    some (decide (1 < (p_5.length : Int)))
noncomputable def sound_sp (N : Nat) : List Spec := [sp_fits N, sp_places N]
theorem sound_all (N : Nat) : AllP (SpecOK Try.prog) (sound_sp N) := ⟨sp_fits_ok N, sp_places_ok N, trivial⟩
noncomputable def sound_c : Code := (Try.f38.body).getD .skip
noncomputable abbrev sound_B : Body := { c := sound_c, n := 36, res := [.tmp 4], outs := [⟨[.b], []⟩], m0 := 0 }
abbrev sound_rt : altD sound_B.outs → Option Bool := fun r => some r.1.1
abbrev sound_l1_at : List PI := [.c [1, 1, 0, 1, 0, 0, 0], .c [1, 1, 0, 1, 0, 0, 1], .l [1, 1, 0, 1, 0, 0], .b 0, .c [1, 1, 1]]
abbrev sound_l1_st : Sta := ⟨[2, 5, 16, 17], ⟨[.own 0 0, .sl (.int .i64), .i .i64, .i .i64], [.segs [.sl (.pair (.int .i64) (.pair (.int .i64) .bool)), .sl (.pair (.int .i64) (.pair (.int .i64) (.int .i64))), .i .i64]]⟩⟩
abbrev sound_l1_h (rec : (List Int) → Int → Int → (List (Int × (Int × Bool))) → (List (Int × (Int × Int))) → Int → Option ((Unit) ⊕ (List Int))) : Leaf ((Unit) ⊕ (List Int)) := ⟨sound_l1_at, sound_l1_st, fun p => rec p.1.2.1 p.1.2.2.1 p.1.2.2.2.1 p.2.1.1 p.2.1.2.1 p.2.1.2.2.1⟩
abbrev sound_l1_e0 : Leaf ((Unit) ⊕ (List Int)) := ⟨[.c [1, 1, 0, 1, 0, 0, 1, 1, 0, 0, 1, 1, 0, 0], .c [1, 1, 0, 1, 0, 0, 1, 1, 0, 0, 1, 1, 0, 1], .b 1, .c [1, 1, 0, 1, 0, 0, 1, 1, 1], .l [1, 1, 0, 1, 0, 0], .b 0, .c [1, 1, 1]], ⟨[], ⟨[], []⟩⟩, fun p => some (.inl ())⟩
abbrev sound_l1_e1 : Leaf ((Unit) ⊕ (List Int)) := ⟨[.c [1, 1, 1, 0], .c [1, 1, 1, 1]], ⟨[5], ⟨[.sl (.int .i64)], []⟩⟩, fun p => some (.inr p.1.1)⟩
noncomputable def sound_l1_L (N : Nat) : LoopS := { at_ := sound_l1_at, sta := sound_l1_st, exits := [([.c [1, 1, 0, 1, 0, 0, 1, 1, 0, 0, 1, 1, 0, 0], .c [1, 1, 0, 1, 0, 0, 1, 1, 0, 0, 1, 1, 0, 1], .b 1, .c [1, 1, 0, 1, 0, 0, 1, 1, 1], .l [1, 1, 0, 1, 0, 0], .b 0, .c [1, 1, 1]], ⟨[], ⟨[], []⟩⟩), ([.c [1, 1, 1, 0], .c [1, 1, 1, 1]], ⟨[5], ⟨[.sl (.int .i64)], []⟩⟩)], run := fun p k => (sound_l1 N N p.1.2.1 p.1.2.2.1 p.1.2.2.2.1 p.2.1.1 p.2.1.2.1 p.2.1.2.2.1).bind fun e => match e with | .inl x => k (.inl ((), ())) | .inr x => k (.inr (.inl ((x, ()), ()))) }
theorem sound_l1_eq (N n_ : Nat) (p : List Int) (u : Int) (u2 : Int) (t : List (Int × (Int × Bool))) (t2 : List (Int × (Int × Int))) (t3 : Int) : ev (Z := (Unit) ⊕ (List Int)) Try.prog (sound_sp N) sound_B [] [sound_l1_h (sound_l1 N n_), sound_l1_e0, sound_l1_e1] none 400 true sound_l1_at (stL sound_l1_st (((), p, u, u2, ()), ((t, t2, t3, ()), ()))) (stH sound_l1_st (((), p, u, u2, ()), ((t, t2, t3, ()), ()))) = sound_l1 N (n_ + 1) p u u2 t t2 t3 := by kernel_rfl
theorem sound_l1_ok (N : Nat) {top : Bool} : LoopOK Try.prog sound_B.c sound_B.n sound_B.m0 top (sound_l1_L N) := loop_of_ev (Z := (Unit) ⊕ (List Int)) (N := N) (fun m p => sound_l1 N m p.1.2.1 p.1.2.2.1 p.1.2.2.2.1 p.2.1.1 p.2.1.2.1 p.2.1.2.2.1) (fun e => match e with | .inl x => .inl ((), ()) | .inr x => .inr (.inl ((x, ()), ()))) (fun _ p k => bind_congr_ (sound_l1 N N p.1.2.1 p.1.2.2.1 p.1.2.2.2.1 p.2.1.1 p.2.1.2.1 p.2.1.2.2.1) _ _ (fun e => by rcases e with x | x <;> rfl)) (fun _ => rfl) (fun m z E Xc hE hX hrec hx => leaf_of_ev (B := sound_B) (loops := []) (leaves := [sound_l1_h (sound_l1 N m), sound_l1_e0, sound_l1_e1]) (sound_all N) mixed trivial hE hX ⟨hrec, (fun p hp => by obtain rfl := Option.some.inj hp; exact hx), (fun p hp => by obtain rfl := Option.some.inj hp; exact hx), trivial⟩ RetOK.no (fun p => sound_l1_eq N m p.1.2.1 p.1.2.2.1 p.1.2.2.2.1 p.2.1.1 p.2.1.2.1 p.2.1.2.2.1))
abbrev sound_st : Sta := ⟨[0, 1], ⟨[.agg [.sl (.pair (.int .i64) (.pair (.int .i64) .bool)), .sl (.pair (.int .i64) (.pair (.int .i64) (.int .i64))), .i .i64], .sl (.int .i64)], []⟩⟩
theorem sound_eq (N : Nat) (t : List (Int × (Int × Bool))) (t2 : List (Int × (Int × Int))) (t3 : Int) (l : List Int) : ev (Z := Bool) Try.prog (sound_sp N) sound_B [sound_l1_L N] [] (some sound_rt) 400 false [.c [0], .c [1]] (stL sound_st (((t, t2, t3, ()), l, ()), ())) (stH sound_st (((t, t2, t3, ()), l, ()), ())) = sound_S N t t2 t3 l := by kernel_rfl
noncomputable def sp_sound (N : Nat) : Spec := { f := 38, ins := ⟨[.agg [.sl (.pair (.int .i64) (.pair (.int .i64) .bool)), .sl (.pair (.int .i64) (.pair (.int .i64) (.int .i64))), .i .i64], .sl (.int .i64)], []⟩, outs := [⟨[.b], []⟩], run := fun p k => (sound_S N p.1.1.1 p.1.1.2.1 p.1.1.2.2.1 p.1.2.1).bind fun r => k ((r, ()), ()) }
theorem sp_sound_ok (N : Nat) : SpecOK Try.prog (sp_sound N) := fn_sound (B := sound_B) (loops := [sound_l1_L N]) (leaves := []) (fun p => sound_S N p.1.1.1 p.1.1.2.1 p.1.1.2.2.1 p.1.2.1) (fun r => ((r, ()), ())) sound_rt (fun _ _ _ => rfl) (fun r z h => by cases h; rfl) Try.func38 (by kernel_rfl) (by kernel_rfl) (by kernel_rfl) rfl rfl (by kernel_rfl) (fun args w => Sem.pv_run _ _ _ (by kernel_rfl) w) (sound_all N) mixed ⟨sound_l1_ok N, trivial⟩ (fun z E Xc hE hX hret => trivial) (fun p => sound_eq N p.1.1.1 p.1.1.2.1 p.1.1.2.2.1 p.1.2.1)

def lsure_l2 (N : Nat) : Nat → (List Int) → Int → (List Int) → Int → Int → (List Int) → Int → Int → (List (Int × (Int × Bool))) → (List (Int × (Int × Int))) → Int → Option ((Unit) ⊕ (List Int × List Int × Int × Int × (List (Int × (Int × Bool))) × (List (Int × (Int × Int))) × Int))
  | 0, _, _, _, _, _, _, _, _, _, _, _ => none
  | n_ + 1, p, from_, u, u2, u3, u4, u5, u6, t, t2, t3 =>
    br (decide (u6 < u5))
      (idx u4 u6 fun x_3 =>
      (lsays_S N t t2 t3 from_ x_3).bind fun x_4 =>
      br x_4
        (some (.inl ()))
        (chk (u6 + 1) <|
        lsure_l2 N n_ p from_ u u2 u3 u4 u5 (u6 + 1) t t2 t3))
      (some (.inr (p, u, u2, u3, t, t2, t3)))
def lsure_l1 (N : Nat) : Nat → (List Int) → (List Int) → Int → Int → (List (Int × (Int × Bool))) → (List (Int × (Int × Int))) → Int → Option ((Unit) ⊕ (List Int))
  | 0, _, _, _, _, _, _, _ => none
  | n_ + 1, p, u, u2, u3, t, t2, t3 =>
    br (decide (u3 < u2))
      (idx u u3 fun x_2 =>
      chk (u3 + 1) <|
      grd (decide ((0 : Int) ≤ (u3 + 1) ∧ (u3 + 1) ≤ (p.length : Int))) <|
      (lsure_l2 N N p x_2 u u2 u3 (p.drop ((u3 + 1).toNat)) ((p.drop ((u3 + 1).toNat)).length : Int) 0 t t2 t3).bind fun e => match e with
      | .inl _ =>
        some (.inl ())
      | .inr (p_5, u_6, u2_7, u3_8, t_9, t2_10, t3_11) =>
        chk (u3_8 + 1) <|
        lsure_l1 N n_ p_5 u_6 u2_7 (u3_8 + 1) t_9 t2_10 t3_11)
      (some (.inr p))
def lsure_S (N : Nat) (t : List (Int × (Int × Bool))) (t2 : List (Int × (Int × Int))) (t3 : Int) (l : List Int) : Option Bool :=
  (places_S N t t2 t3 l).bind fun x_1 =>
  (lsure_l1 N N x_1 x_1 (x_1.length : Int) 0 t t2 t3).bind fun e => match e with
  | .inl _ =>
    some false
  | .inr p_12 =>
    some (decide (1 < (p_12.length : Int)))
noncomputable def lsure_sp (N : Nat) : List Spec := [sp_lsays N, sp_places N]
theorem lsure_all (N : Nat) : AllP (SpecOK Try.prog) (lsure_sp N) := ⟨sp_lsays_ok N, sp_places_ok N, trivial⟩
noncomputable def lsure_c : Code := (Try.f48.body).getD .skip
noncomputable abbrev lsure_B : Body := { c := lsure_c, n := 38, res := [.tmp 4], outs := [⟨[.b], []⟩], m0 := 0 }
abbrev lsure_rt : altD lsure_B.outs → Option Bool := fun r => some r.1.1
abbrev lsure_l2_at : List PI := [.c [1, 1, 0, 1, 0, 0, 1, 1, 0, 0, 1, 1, 0, 0, 0], .c [1, 1, 0, 1, 0, 0, 1, 1, 0, 0, 1, 1, 0, 0, 1], .l [1, 1, 0, 1, 0, 0, 1, 1, 0, 0, 1, 1, 0, 0], .b 2, .b 1, .c [1, 1, 0, 1, 0, 0, 1, 1, 1], .l [1, 1, 0, 1, 0, 0], .b 0, .c [1, 1, 1]]
abbrev lsure_l2_st : Sta := ⟨[2, 5, 7, 13, 14, 15, 23, 24, 25], ⟨[.own 0 0, .sl (.int .i64), .i .i64, .sl (.int .i64), .i .i64, .i .i64, .sl (.int .i64), .i .i64, .i .i64], [.segs [.sl (.pair (.int .i64) (.pair (.int .i64) .bool)), .sl (.pair (.int .i64) (.pair (.int .i64) (.int .i64))), .i .i64]]⟩⟩
abbrev lsure_l2_h (rec : (List Int) → Int → (List Int) → Int → Int → (List Int) → Int → Int → (List (Int × (Int × Bool))) → (List (Int × (Int × Int))) → Int → Option ((Unit) ⊕ (List Int × List Int × Int × Int × (List (Int × (Int × Bool))) × (List (Int × (Int × Int))) × Int))) : Leaf ((Unit) ⊕ (List Int × List Int × Int × Int × (List (Int × (Int × Bool))) × (List (Int × (Int × Int))) × Int)) := ⟨lsure_l2_at, lsure_l2_st, fun p => rec p.1.2.1 p.1.2.2.1 p.1.2.2.2.1 p.1.2.2.2.2.1 p.1.2.2.2.2.2.1 p.1.2.2.2.2.2.2.1 p.1.2.2.2.2.2.2.2.1 p.1.2.2.2.2.2.2.2.2.1 p.2.1.1 p.2.1.2.1 p.2.1.2.2.1⟩
abbrev lsure_l2_e0 : Leaf ((Unit) ⊕ (List Int × List Int × Int × Int × (List (Int × (Int × Bool))) × (List (Int × (Int × Int))) × Int)) := ⟨[.c [1, 1, 0, 1, 0, 0, 1, 1, 0, 0, 1, 1, 0, 0, 1, 1, 0, 0, 1, 1, 0, 0], .c [1, 1, 0, 1, 0, 0, 1, 1, 0, 0, 1, 1, 0, 0, 1, 1, 0, 0, 1, 1, 0, 1], .b 3, .c [1, 1, 0, 1, 0, 0, 1, 1, 0, 0, 1, 1, 0, 0, 1, 1, 1], .l [1, 1, 0, 1, 0, 0, 1, 1, 0, 0, 1, 1, 0, 0], .b 2, .b 1, .c [1, 1, 0, 1, 0, 0, 1, 1, 1], .l [1, 1, 0, 1, 0, 0], .b 0, .c [1, 1, 1]], ⟨[], ⟨[], []⟩⟩, fun p => some (.inl ())⟩
abbrev lsure_l2_e1 : Leaf ((Unit) ⊕ (List Int × List Int × Int × Int × (List (Int × (Int × Bool))) × (List (Int × (Int × Int))) × Int)) := ⟨[.c [1, 1, 0, 1, 0, 0, 1, 1, 1], .l [1, 1, 0, 1, 0, 0], .b 0, .c [1, 1, 1]], ⟨[2, 5, 13, 14, 15], ⟨[.own 0 0, .sl (.int .i64), .sl (.int .i64), .i .i64, .i .i64], [.segs [.sl (.pair (.int .i64) (.pair (.int .i64) .bool)), .sl (.pair (.int .i64) (.pair (.int .i64) (.int .i64))), .i .i64]]⟩⟩, fun p => some (.inr (p.1.2.1, p.1.2.2.1, p.1.2.2.2.1, p.1.2.2.2.2.1, p.2.1.1, p.2.1.2.1, p.2.1.2.2.1))⟩
noncomputable def lsure_l2_L (N : Nat) : LoopS := { at_ := lsure_l2_at, sta := lsure_l2_st, exits := [([.c [1, 1, 0, 1, 0, 0, 1, 1, 0, 0, 1, 1, 0, 0, 1, 1, 0, 0, 1, 1, 0, 0], .c [1, 1, 0, 1, 0, 0, 1, 1, 0, 0, 1, 1, 0, 0, 1, 1, 0, 0, 1, 1, 0, 1], .b 3, .c [1, 1, 0, 1, 0, 0, 1, 1, 0, 0, 1, 1, 0, 0, 1, 1, 1], .l [1, 1, 0, 1, 0, 0, 1, 1, 0, 0, 1, 1, 0, 0], .b 2, .b 1, .c [1, 1, 0, 1, 0, 0, 1, 1, 1], .l [1, 1, 0, 1, 0, 0], .b 0, .c [1, 1, 1]], ⟨[], ⟨[], []⟩⟩), ([.c [1, 1, 0, 1, 0, 0, 1, 1, 1], .l [1, 1, 0, 1, 0, 0], .b 0, .c [1, 1, 1]], ⟨[2, 5, 13, 14, 15], ⟨[.own 0 0, .sl (.int .i64), .sl (.int .i64), .i .i64, .i .i64], [.segs [.sl (.pair (.int .i64) (.pair (.int .i64) .bool)), .sl (.pair (.int .i64) (.pair (.int .i64) (.int .i64))), .i .i64]]⟩⟩)], run := fun p k => (lsure_l2 N N p.1.2.1 p.1.2.2.1 p.1.2.2.2.1 p.1.2.2.2.2.1 p.1.2.2.2.2.2.1 p.1.2.2.2.2.2.2.1 p.1.2.2.2.2.2.2.2.1 p.1.2.2.2.2.2.2.2.2.1 p.2.1.1 p.2.1.2.1 p.2.1.2.2.1).bind fun e => match e with | .inl x => k (.inl ((), ())) | .inr x => k (.inr (.inl (((), x.1, x.2.1, x.2.2.1, x.2.2.2.1, ()), ((x.2.2.2.2.1, x.2.2.2.2.2.1, x.2.2.2.2.2.2, ()), ())))) }
theorem lsure_l2_eq (N n_ : Nat) (p : List Int) (from_ : Int) (u : List Int) (u2 : Int) (u3 : Int) (u4 : List Int) (u5 : Int) (u6 : Int) (t : List (Int × (Int × Bool))) (t2 : List (Int × (Int × Int))) (t3 : Int) : ev (Z := (Unit) ⊕ (List Int × List Int × Int × Int × (List (Int × (Int × Bool))) × (List (Int × (Int × Int))) × Int)) Try.prog (lsure_sp N) lsure_B [] [lsure_l2_h (lsure_l2 N n_), lsure_l2_e0, lsure_l2_e1] none 400 true lsure_l2_at (stL lsure_l2_st (((), p, from_, u, u2, u3, u4, u5, u6, ()), ((t, t2, t3, ()), ()))) (stH lsure_l2_st (((), p, from_, u, u2, u3, u4, u5, u6, ()), ((t, t2, t3, ()), ()))) = lsure_l2 N (n_ + 1) p from_ u u2 u3 u4 u5 u6 t t2 t3 := by kernel_rfl
theorem lsure_l2_ok (N : Nat) {top : Bool} : LoopOK Try.prog lsure_B.c lsure_B.n lsure_B.m0 top (lsure_l2_L N) := loop_of_ev (Z := (Unit) ⊕ (List Int × List Int × Int × Int × (List (Int × (Int × Bool))) × (List (Int × (Int × Int))) × Int)) (N := N) (fun m p => lsure_l2 N m p.1.2.1 p.1.2.2.1 p.1.2.2.2.1 p.1.2.2.2.2.1 p.1.2.2.2.2.2.1 p.1.2.2.2.2.2.2.1 p.1.2.2.2.2.2.2.2.1 p.1.2.2.2.2.2.2.2.2.1 p.2.1.1 p.2.1.2.1 p.2.1.2.2.1) (fun e => match e with | .inl x => .inl ((), ()) | .inr x => .inr (.inl (((), x.1, x.2.1, x.2.2.1, x.2.2.2.1, ()), ((x.2.2.2.2.1, x.2.2.2.2.2.1, x.2.2.2.2.2.2, ()), ())))) (fun _ p k => bind_congr_ (lsure_l2 N N p.1.2.1 p.1.2.2.1 p.1.2.2.2.1 p.1.2.2.2.2.1 p.1.2.2.2.2.2.1 p.1.2.2.2.2.2.2.1 p.1.2.2.2.2.2.2.2.1 p.1.2.2.2.2.2.2.2.2.1 p.2.1.1 p.2.1.2.1 p.2.1.2.2.1) _ _ (fun e => by rcases e with x | x <;> rfl)) (fun _ => rfl) (fun m z E Xc hE hX hrec hx => leaf_of_ev (B := lsure_B) (loops := []) (leaves := [lsure_l2_h (lsure_l2 N m), lsure_l2_e0, lsure_l2_e1]) (lsure_all N) mixed trivial hE hX ⟨hrec, (fun p hp => by obtain rfl := Option.some.inj hp; exact hx), (fun p hp => by obtain rfl := Option.some.inj hp; exact hx), trivial⟩ RetOK.no (fun p => lsure_l2_eq N m p.1.2.1 p.1.2.2.1 p.1.2.2.2.1 p.1.2.2.2.2.1 p.1.2.2.2.2.2.1 p.1.2.2.2.2.2.2.1 p.1.2.2.2.2.2.2.2.1 p.1.2.2.2.2.2.2.2.2.1 p.2.1.1 p.2.1.2.1 p.2.1.2.2.1))
abbrev lsure_l1_at : List PI := [.c [1, 1, 0, 1, 0, 0, 0], .c [1, 1, 0, 1, 0, 0, 1], .l [1, 1, 0, 1, 0, 0], .b 0, .c [1, 1, 1]]
abbrev lsure_l1_st : Sta := ⟨[2, 5, 13, 14, 15], ⟨[.own 0 0, .sl (.int .i64), .sl (.int .i64), .i .i64, .i .i64], [.segs [.sl (.pair (.int .i64) (.pair (.int .i64) .bool)), .sl (.pair (.int .i64) (.pair (.int .i64) (.int .i64))), .i .i64]]⟩⟩
abbrev lsure_l1_h (rec : (List Int) → (List Int) → Int → Int → (List (Int × (Int × Bool))) → (List (Int × (Int × Int))) → Int → Option ((Unit) ⊕ (List Int))) : Leaf ((Unit) ⊕ (List Int)) := ⟨lsure_l1_at, lsure_l1_st, fun p => rec p.1.2.1 p.1.2.2.1 p.1.2.2.2.1 p.1.2.2.2.2.1 p.2.1.1 p.2.1.2.1 p.2.1.2.2.1⟩
abbrev lsure_l1_e0 : Leaf ((Unit) ⊕ (List Int)) := ⟨[.c [1, 1, 0, 1, 0, 0, 1, 1, 0, 0, 1, 1, 0, 0, 1, 1, 0, 0, 1, 1, 0, 0], .c [1, 1, 0, 1, 0, 0, 1, 1, 0, 0, 1, 1, 0, 0, 1, 1, 0, 0, 1, 1, 0, 1], .b 3, .c [1, 1, 0, 1, 0, 0, 1, 1, 0, 0, 1, 1, 0, 0, 1, 1, 1], .l [1, 1, 0, 1, 0, 0, 1, 1, 0, 0, 1, 1, 0, 0], .b 2, .b 1, .c [1, 1, 0, 1, 0, 0, 1, 1, 1], .l [1, 1, 0, 1, 0, 0], .b 0, .c [1, 1, 1]], ⟨[], ⟨[], []⟩⟩, fun p => some (.inl ())⟩
abbrev lsure_l1_e1 : Leaf ((Unit) ⊕ (List Int)) := ⟨[.c [1, 1, 1, 0], .c [1, 1, 1, 1]], ⟨[5], ⟨[.sl (.int .i64)], []⟩⟩, fun p => some (.inr p.1.1)⟩
noncomputable def lsure_l1_L (N : Nat) : LoopS := { at_ := lsure_l1_at, sta := lsure_l1_st, exits := [([.c [1, 1, 0, 1, 0, 0, 1, 1, 0, 0, 1, 1, 0, 0, 1, 1, 0, 0, 1, 1, 0, 0], .c [1, 1, 0, 1, 0, 0, 1, 1, 0, 0, 1, 1, 0, 0, 1, 1, 0, 0, 1, 1, 0, 1], .b 3, .c [1, 1, 0, 1, 0, 0, 1, 1, 0, 0, 1, 1, 0, 0, 1, 1, 1], .l [1, 1, 0, 1, 0, 0, 1, 1, 0, 0, 1, 1, 0, 0], .b 2, .b 1, .c [1, 1, 0, 1, 0, 0, 1, 1, 1], .l [1, 1, 0, 1, 0, 0], .b 0, .c [1, 1, 1]], ⟨[], ⟨[], []⟩⟩), ([.c [1, 1, 1, 0], .c [1, 1, 1, 1]], ⟨[5], ⟨[.sl (.int .i64)], []⟩⟩)], run := fun p k => (lsure_l1 N N p.1.2.1 p.1.2.2.1 p.1.2.2.2.1 p.1.2.2.2.2.1 p.2.1.1 p.2.1.2.1 p.2.1.2.2.1).bind fun e => match e with | .inl x => k (.inl ((), ())) | .inr x => k (.inr (.inl ((x, ()), ()))) }
theorem lsure_l1_eq (N n_ : Nat) (p : List Int) (u : List Int) (u2 : Int) (u3 : Int) (t : List (Int × (Int × Bool))) (t2 : List (Int × (Int × Int))) (t3 : Int) : ev (Z := (Unit) ⊕ (List Int)) Try.prog (lsure_sp N) lsure_B [lsure_l2_L N] [lsure_l1_h (lsure_l1 N n_), lsure_l1_e0, lsure_l1_e1] none 400 true lsure_l1_at (stL lsure_l1_st (((), p, u, u2, u3, ()), ((t, t2, t3, ()), ()))) (stH lsure_l1_st (((), p, u, u2, u3, ()), ((t, t2, t3, ()), ()))) = lsure_l1 N (n_ + 1) p u u2 u3 t t2 t3 := by kernel_rfl
theorem lsure_l1_ok (N : Nat) {top : Bool} : LoopOK Try.prog lsure_B.c lsure_B.n lsure_B.m0 top (lsure_l1_L N) := loop_of_ev (Z := (Unit) ⊕ (List Int)) (N := N) (fun m p => lsure_l1 N m p.1.2.1 p.1.2.2.1 p.1.2.2.2.1 p.1.2.2.2.2.1 p.2.1.1 p.2.1.2.1 p.2.1.2.2.1) (fun e => match e with | .inl x => .inl ((), ()) | .inr x => .inr (.inl ((x, ()), ()))) (fun _ p k => bind_congr_ (lsure_l1 N N p.1.2.1 p.1.2.2.1 p.1.2.2.2.1 p.1.2.2.2.2.1 p.2.1.1 p.2.1.2.1 p.2.1.2.2.1) _ _ (fun e => by rcases e with x | x <;> rfl)) (fun _ => rfl) (fun m z E Xc hE hX hrec hx => leaf_of_ev (B := lsure_B) (loops := [lsure_l2_L N]) (leaves := [lsure_l1_h (lsure_l1 N m), lsure_l1_e0, lsure_l1_e1]) (lsure_all N) mixed ⟨lsure_l2_ok N, trivial⟩ hE hX ⟨hrec, (fun p hp => by obtain rfl := Option.some.inj hp; exact hx), (fun p hp => by obtain rfl := Option.some.inj hp; exact hx), trivial⟩ RetOK.no (fun p => lsure_l1_eq N m p.1.2.1 p.1.2.2.1 p.1.2.2.2.1 p.1.2.2.2.2.1 p.2.1.1 p.2.1.2.1 p.2.1.2.2.1))
abbrev lsure_st : Sta := ⟨[0, 1], ⟨[.agg [.sl (.pair (.int .i64) (.pair (.int .i64) .bool)), .sl (.pair (.int .i64) (.pair (.int .i64) (.int .i64))), .i .i64], .sl (.int .i64)], []⟩⟩
theorem lsure_eq (N : Nat) (t : List (Int × (Int × Bool))) (t2 : List (Int × (Int × Int))) (t3 : Int) (l : List Int) : ev (Z := Bool) Try.prog (lsure_sp N) lsure_B [lsure_l2_L N, lsure_l1_L N] [] (some lsure_rt) 400 false [.c [0], .c [1]] (stL lsure_st (((t, t2, t3, ()), l, ()), ())) (stH lsure_st (((t, t2, t3, ()), l, ()), ())) = lsure_S N t t2 t3 l := by kernel_rfl
noncomputable def sp_lsure (N : Nat) : Spec := { f := 48, ins := ⟨[.agg [.sl (.pair (.int .i64) (.pair (.int .i64) .bool)), .sl (.pair (.int .i64) (.pair (.int .i64) (.int .i64))), .i .i64], .sl (.int .i64)], []⟩, outs := [⟨[.b], []⟩], run := fun p k => (lsure_S N p.1.1.1 p.1.1.2.1 p.1.1.2.2.1 p.1.2.1).bind fun r => k ((r, ()), ()) }
theorem sp_lsure_ok (N : Nat) : SpecOK Try.prog (sp_lsure N) := fn_sound (B := lsure_B) (loops := [lsure_l2_L N, lsure_l1_L N]) (leaves := []) (fun p => lsure_S N p.1.1.1 p.1.1.2.1 p.1.1.2.2.1 p.1.2.1) (fun r => ((r, ()), ())) lsure_rt (fun _ _ _ => rfl) (fun r z h => by cases h; rfl) Try.func48 (by kernel_rfl) (by kernel_rfl) (by kernel_rfl) rfl rfl (by kernel_rfl) (fun args w => Sem.pv_run _ _ _ (by kernel_rfl) w) (lsure_all N) mixed ⟨lsure_l2_ok N, lsure_l1_ok N, trivial⟩ (fun z E Xc hE hX hret => trivial) (fun p => lsure_eq N p.1.1.1 p.1.1.2.1 p.1.1.2.2.1 p.1.2.1)

def tbroken_l2 (N : Nat) : Nat → (List Int) → Int → (List Int) → (List Int) → Int → Int → Int → Int → Int → (List (Int × (Int × Bool))) → (List (Int × (Int × Int))) → Int → (List Int) → Int → Int → Option ((Unit) ⊕ (List Int × Int × List Int × List Int × Int × Int × Int × (List (Int × (Int × Bool))) × (List (Int × (Int × Int))) × Int × List Int × Int × Int))
  | 0, _, _, _, _, _, _, _, _, _, _, _, _, _, _, _ => none
  | n_ + 1, l, e, m, s, g, from_, to, u, u2, t, t2, t3, q, q2, q3 =>
    br (decide (to ≤ (t.length : Int)))
      ((fits_S N t t2 t3 from_ to).bind fun x_25 =>
      br x_25
        (idx m to fun x_26 =>
        idx m from_ fun x_27 =>
        chk (x_27 + 1) <|
        br (decide ((x_27 + 1) < x_26))
          (some (.inl ()))
          (chk (to + 1) <|
          tbroken_l2 N n_ l e m s g from_ (to + 1) u u2 t t2 t3 q q2 q3))
        (chk (to + 1) <|
        tbroken_l2 N n_ l e m s g from_ (to + 1) u u2 t t2 t3 q q2 q3))
      (some (.inr (l, e, m, s, g, u, u2, t, t2, t3, q, q2, q3)))
def tbroken_l1 (N : Nat) : Nat → (List Int) → Int → (List Int) → (List Int) → Int → Int → Int → (List (Int × (Int × Bool))) → (List (Int × (Int × Int))) → Int → (List Int) → Int → Int → Option ((Unit) ⊕ (List Int × Int × List Int × Int × (List (Int × (Int × Bool))) × (List (Int × (Int × Int))) × Int × List Int × Int × Int))
  | 0, _, _, _, _, _, _, _, _, _, _, _, _, _ => none
  | n_ + 1, l, e, m, s, g, u, u2, t, t2, t3, q, q2, q3 =>
    br (decide (u2 < u))
      (chk (u2 + 1) <|
      (tbroken_l2 N N l e m s g u2 (u2 + 1) u u2 t t2 t3 q q2 q3).bind fun e => match e with
      | .inl _ =>
        some (.inl ())
      | .inr (l_28, e_29, m_30, s_31, g_32, u_33, u2_34, t_35, t2_36, t3_37, q_38, q2_39, q3_40) =>
        chk (u2_34 + 1) <|
        tbroken_l1 N n_ l_28 e_29 m_30 s_31 g_32 u_33 (u2_34 + 1) t_35 t2_36 t3_37 q_38 q2_39 q3_40)
      (some (.inr (l, e, s, g, t, t2, t3, q, q2, q3)))
def tbroken_l3 (N : Nat) : Nat → (List Int) → Int → (List Int) → Int → Int → (List (Int × (Int × Bool))) → (List (Int × (Int × Int))) → Int → (List Int) → Int → Int → Option ((Unit) ⊕ ((Unit) ⊕ (Unit)))
  | 0, _, _, _, _, _, _, _, _, _, _, _ => none
  | n_ + 1, l, e, s, g, u, t, t2, t3, q, q2, q3 =>
    br (decide (u < 10))
      ((tried_S N t t2 t3 q q2 q3).bind fun (x_53, y_54, y_55, y_56) =>
      (sound_S N t t2 t3 x_53).bind fun x_57 =>
      br x_57
        (br (!decide (e = 0))
          (some (.inl ()))
          (br (decide ((x_53.length : Int) < (l.length : Int)))
            (some (.inl ()))
            ((lsure_S N t t2 t3 x_53).bind fun x_58 =>
            br x_58
              (br (!decide (g = 0))
                (some (.inl ()))
                (br (decide ((x_53.length : Int) < (s.length : Int)))
                  (some (.inl ()))
                  ((lwrong_S N t t2 t3 x_53).bind fun (x_59, y_60, y_61) =>
                  (sound_S N t t2 t3 x_53).bind fun x_62 =>
                  br (!((decide (y_61 = 6)) == x_62))
                    (some (.inr (.inl ())))
                    (br (!decide (y_61 = 6))
                      (br (!decide (y_61 = 0))
                        (some (.inr (.inl ())))
                        (chk (u + 1) <|
                        tbroken_l3 N n_ l e s g (u + 1) t t2 t3 y_54 y_55 y_56))
                      (chk (u + 1) <|
                      tbroken_l3 N n_ l e s g (u + 1) t t2 t3 y_54 y_55 y_56)))))
              ((lwrong_S N t t2 t3 x_53).bind fun (x_63, y_64, y_65) =>
              (sound_S N t t2 t3 x_53).bind fun x_66 =>
              br (!((decide (y_65 = 6)) == x_66))
                (some (.inr (.inl ())))
                (br (!decide (y_65 = 6))
                  (br (!decide (y_65 = 0))
                    (some (.inr (.inl ())))
                    (chk (u + 1) <|
                    tbroken_l3 N n_ l e s g (u + 1) t t2 t3 y_54 y_55 y_56))
                  (chk (u + 1) <|
                  tbroken_l3 N n_ l e s g (u + 1) t t2 t3 y_54 y_55 y_56))))))
        ((lwrong_S N t t2 t3 x_53).bind fun (x_67, y_68, y_69) =>
        (sound_S N t t2 t3 x_53).bind fun x_70 =>
        br (!((decide (y_69 = 6)) == x_70))
          (some (.inr (.inl ())))
          (br (!decide (y_69 = 6))
            (br (!decide (y_69 = 0))
              (some (.inr (.inl ())))
              (chk (u + 1) <|
              tbroken_l3 N n_ l e s g (u + 1) t t2 t3 y_54 y_55 y_56))
            (chk (u + 1) <|
            tbroken_l3 N n_ l e s g (u + 1) t t2 t3 y_54 y_55 y_56))))
      (some (.inr (.inr ())))
def tbroken_j1 (N : Nat) (l : List Int) (e : Int) (s : List Int) (g : Int) (t : List (Int × (Int × Bool))) (t2 : List (Int × (Int × Int))) (t3 : Int) (q : List Int) (q2 : Int) (q3 : Int) : Option Bool :=
  br (decide (g = 0))
    ((sound_S N t t2 t3 s).bind fun x_51 =>
    br (!x_51)
      (some false)
      ((lsure_S N t t2 t3 s).bind fun x_52 =>
      br (!x_52)
        (some false)
        (br (decide ((s.length : Int) < (l.length : Int)))
          (some false)
          ((tbroken_l3 N N l e s g 0 t t2 t3 q q2 q3).bind fun e => match e with
          | .inl _ =>
            some false
          | .inr (.inl _) =>
            some false
          | .inr (.inr _) =>
            (awake_S N).bind fun x_71 =>
            some x_71))))
    ((tbroken_l3 N N l e s g 0 t t2 t3 q q2 q3).bind fun e => match e with
    | .inl _ =>
      some false
    | .inr (.inl _) =>
      some false
    | .inr (.inr _) =>
      (awake_S N).bind fun x_72 =>
      some x_72)
def tbroken_S (N : Nat) (numbers : List Int) (tries : List Int) : Option Bool :=
  (hang_S N numbers).bind fun (x_1, y_2, y_3) =>
  (made_S N 10 3 x_1 y_2 y_3).bind fun (x_4, y_5, y_6, y_7, y_8, y_9) =>
  (hang_S N tries).bind fun (x_10, y_11, y_12) =>
  (fewest_S N x_4 y_5 y_6).bind fun (x_13, y_14) =>
  (marks_S N x_4 y_5 y_6).bind fun (x_15, y_16) =>
  (surest_S N x_4 y_5 y_6).bind fun (x_17, y_18) =>
  (check_S N x_4 y_5 y_6).bind fun x_19 =>
  br (!decide (x_19 = 0))
    (some false)
    (br (!decide (y_14 = y_16))
      (some false)
      (br (!decide (y_14 = 0))
        (br (!decide (y_14 = 6))
          (some false)
          (br (!decide (y_18 = 0))
            (br (!decide (y_18 = 6))
              (some false)
              (br (!decide (y_14 = 0))
                (br (decide (y_18 = 0))
                  (some false)
                  (br (decide (y_14 = 0))
                    ((shows_S N x_4 y_5 y_6 x_15).bind fun (x_20, y_21) =>
                    br (!decide (y_21 = 0))
                      (some false)
                      (br (!decide (x_20 = (x_13.length : Int)))
                        (some false)
                        ((sound_S N x_4 y_5 y_6 x_13).bind fun x_22 =>
                        br (!x_22)
                          (some false)
                          (chk ((x_4.length : Int) + 1) <|
                          br (!decide ((x_15.length : Int) = ((x_4.length : Int) + 1)))
                            (some false)
                            (idx x_15 0 fun x_23 =>
                            br (!decide (x_23 = 0))
                              (some false)
                              (idx x_15 (x_4.length : Int) fun x_24 =>
                              br (!decide (x_24 = (x_13.length : Int)))
                                (some false)
                                ((tbroken_l1 N N x_13 y_14 x_15 x_17 y_18 (x_4.length : Int) 0 x_4 y_5 y_6 x_10 y_11 y_12).bind fun e => match e with
                                | .inl _ =>
                                  some false
                                | .inr (l_41, e_42, s_43, g_44, t_45, t2_46, t3_47, q_48, q2_49, q3_50) =>
                                  tbroken_j1 N l_41 e_42 s_43 g_44 t_45 t2_46 t3_47 q_48 q2_49 q3_50)))))))
                    (tbroken_j1 N x_13 y_14 x_17 y_18 x_4 y_5 y_6 x_10 y_11 y_12)))
                (br (decide (y_14 = 0))
                  ((shows_S N x_4 y_5 y_6 x_15).bind fun (x_73, y_74) =>
                  br (!decide (y_74 = 0))
                    (some false)
                    (br (!decide (x_73 = (x_13.length : Int)))
                      (some false)
                      ((sound_S N x_4 y_5 y_6 x_13).bind fun x_75 =>
                      br (!x_75)
                        (some false)
                        (chk ((x_4.length : Int) + 1) <|
                        br (!decide ((x_15.length : Int) = ((x_4.length : Int) + 1)))
                          (some false)
                          (idx x_15 0 fun x_76 =>
                          br (!decide (x_76 = 0))
                            (some false)
                            (idx x_15 (x_4.length : Int) fun x_77 =>
                            br (!decide (x_77 = (x_13.length : Int)))
                              (some false)
                              ((tbroken_l1 N N x_13 y_14 x_15 x_17 y_18 (x_4.length : Int) 0 x_4 y_5 y_6 x_10 y_11 y_12).bind fun e => match e with
                              | .inl _ =>
                                some false
                              | .inr (l_78, e_79, s_80, g_81, t_82, t2_83, t3_84, q_85, q2_86, q3_87) =>
                                tbroken_j1 N l_78 e_79 s_80 g_81 t_82 t2_83 t3_84 q_85 q2_86 q3_87)))))))
                  (tbroken_j1 N x_13 y_14 x_17 y_18 x_4 y_5 y_6 x_10 y_11 y_12))))
            (br (!decide (y_14 = 0))
              (br (decide (y_18 = 0))
                (some false)
                (br (decide (y_14 = 0))
                  ((shows_S N x_4 y_5 y_6 x_15).bind fun (x_88, y_89) =>
                  br (!decide (y_89 = 0))
                    (some false)
                    (br (!decide (x_88 = (x_13.length : Int)))
                      (some false)
                      ((sound_S N x_4 y_5 y_6 x_13).bind fun x_90 =>
                      br (!x_90)
                        (some false)
                        (chk ((x_4.length : Int) + 1) <|
                        br (!decide ((x_15.length : Int) = ((x_4.length : Int) + 1)))
                          (some false)
                          (idx x_15 0 fun x_91 =>
                          br (!decide (x_91 = 0))
                            (some false)
                            (idx x_15 (x_4.length : Int) fun x_92 =>
                            br (!decide (x_92 = (x_13.length : Int)))
                              (some false)
                              ((tbroken_l1 N N x_13 y_14 x_15 x_17 y_18 (x_4.length : Int) 0 x_4 y_5 y_6 x_10 y_11 y_12).bind fun e => match e with
                              | .inl _ =>
                                some false
                              | .inr (l_93, e_94, s_95, g_96, t_97, t2_98, t3_99, q_100, q2_101, q3_102) =>
                                tbroken_j1 N l_93 e_94 s_95 g_96 t_97 t2_98 t3_99 q_100 q2_101 q3_102)))))))
                  (tbroken_j1 N x_13 y_14 x_17 y_18 x_4 y_5 y_6 x_10 y_11 y_12)))
              (br (decide (y_14 = 0))
                ((shows_S N x_4 y_5 y_6 x_15).bind fun (x_103, y_104) =>
                br (!decide (y_104 = 0))
                  (some false)
                  (br (!decide (x_103 = (x_13.length : Int)))
                    (some false)
                    ((sound_S N x_4 y_5 y_6 x_13).bind fun x_105 =>
                    br (!x_105)
                      (some false)
                      (chk ((x_4.length : Int) + 1) <|
                      br (!decide ((x_15.length : Int) = ((x_4.length : Int) + 1)))
                        (some false)
                        (idx x_15 0 fun x_106 =>
                        br (!decide (x_106 = 0))
                          (some false)
                          (idx x_15 (x_4.length : Int) fun x_107 =>
                          br (!decide (x_107 = (x_13.length : Int)))
                            (some false)
                            ((tbroken_l1 N N x_13 y_14 x_15 x_17 y_18 (x_4.length : Int) 0 x_4 y_5 y_6 x_10 y_11 y_12).bind fun e => match e with
                            | .inl _ =>
                              some false
                            | .inr (l_108, e_109, s_110, g_111, t_112, t2_113, t3_114, q_115, q2_116, q3_117) =>
                              tbroken_j1 N l_108 e_109 s_110 g_111 t_112 t2_113 t3_114 q_115 q2_116 q3_117)))))))
                (tbroken_j1 N x_13 y_14 x_17 y_18 x_4 y_5 y_6 x_10 y_11 y_12)))))
        (br (!decide (y_18 = 0))
          (br (!decide (y_18 = 6))
            (some false)
            (br (!decide (y_14 = 0))
              (br (decide (y_18 = 0))
                (some false)
                (br (decide (y_14 = 0))
                  ((shows_S N x_4 y_5 y_6 x_15).bind fun (x_118, y_119) =>
                  br (!decide (y_119 = 0))
                    (some false)
                    (br (!decide (x_118 = (x_13.length : Int)))
                      (some false)
                      ((sound_S N x_4 y_5 y_6 x_13).bind fun x_120 =>
                      br (!x_120)
                        (some false)
                        (chk ((x_4.length : Int) + 1) <|
                        br (!decide ((x_15.length : Int) = ((x_4.length : Int) + 1)))
                          (some false)
                          (idx x_15 0 fun x_121 =>
                          br (!decide (x_121 = 0))
                            (some false)
                            (idx x_15 (x_4.length : Int) fun x_122 =>
                            br (!decide (x_122 = (x_13.length : Int)))
                              (some false)
                              ((tbroken_l1 N N x_13 y_14 x_15 x_17 y_18 (x_4.length : Int) 0 x_4 y_5 y_6 x_10 y_11 y_12).bind fun e => match e with
                              | .inl _ =>
                                some false
                              | .inr (l_123, e_124, s_125, g_126, t_127, t2_128, t3_129, q_130, q2_131, q3_132) =>
                                tbroken_j1 N l_123 e_124 s_125 g_126 t_127 t2_128 t3_129 q_130 q2_131 q3_132)))))))
                  (tbroken_j1 N x_13 y_14 x_17 y_18 x_4 y_5 y_6 x_10 y_11 y_12)))
              (br (decide (y_14 = 0))
                ((shows_S N x_4 y_5 y_6 x_15).bind fun (x_133, y_134) =>
                br (!decide (y_134 = 0))
                  (some false)
                  (br (!decide (x_133 = (x_13.length : Int)))
                    (some false)
                    ((sound_S N x_4 y_5 y_6 x_13).bind fun x_135 =>
                    br (!x_135)
                      (some false)
                      (chk ((x_4.length : Int) + 1) <|
                      br (!decide ((x_15.length : Int) = ((x_4.length : Int) + 1)))
                        (some false)
                        (idx x_15 0 fun x_136 =>
                        br (!decide (x_136 = 0))
                          (some false)
                          (idx x_15 (x_4.length : Int) fun x_137 =>
                          br (!decide (x_137 = (x_13.length : Int)))
                            (some false)
                            ((tbroken_l1 N N x_13 y_14 x_15 x_17 y_18 (x_4.length : Int) 0 x_4 y_5 y_6 x_10 y_11 y_12).bind fun e => match e with
                            | .inl _ =>
                              some false
                            | .inr (l_138, e_139, s_140, g_141, t_142, t2_143, t3_144, q_145, q2_146, q3_147) =>
                              tbroken_j1 N l_138 e_139 s_140 g_141 t_142 t2_143 t3_144 q_145 q2_146 q3_147)))))))
                (tbroken_j1 N x_13 y_14 x_17 y_18 x_4 y_5 y_6 x_10 y_11 y_12))))
          (br (!decide (y_14 = 0))
            (br (decide (y_18 = 0))
              (some false)
              (br (decide (y_14 = 0))
                ((shows_S N x_4 y_5 y_6 x_15).bind fun (x_148, y_149) =>
                br (!decide (y_149 = 0))
                  (some false)
                  (br (!decide (x_148 = (x_13.length : Int)))
                    (some false)
                    ((sound_S N x_4 y_5 y_6 x_13).bind fun x_150 =>
                    br (!x_150)
                      (some false)
                      (chk ((x_4.length : Int) + 1) <|
                      br (!decide ((x_15.length : Int) = ((x_4.length : Int) + 1)))
                        (some false)
                        (idx x_15 0 fun x_151 =>
                        br (!decide (x_151 = 0))
                          (some false)
                          (idx x_15 (x_4.length : Int) fun x_152 =>
                          br (!decide (x_152 = (x_13.length : Int)))
                            (some false)
                            ((tbroken_l1 N N x_13 y_14 x_15 x_17 y_18 (x_4.length : Int) 0 x_4 y_5 y_6 x_10 y_11 y_12).bind fun e => match e with
                            | .inl _ =>
                              some false
                            | .inr (l_153, e_154, s_155, g_156, t_157, t2_158, t3_159, q_160, q2_161, q3_162) =>
                              tbroken_j1 N l_153 e_154 s_155 g_156 t_157 t2_158 t3_159 q_160 q2_161 q3_162)))))))
                (tbroken_j1 N x_13 y_14 x_17 y_18 x_4 y_5 y_6 x_10 y_11 y_12)))
            (br (decide (y_14 = 0))
              ((shows_S N x_4 y_5 y_6 x_15).bind fun (x_163, y_164) =>
              br (!decide (y_164 = 0))
                (some false)
                (br (!decide (x_163 = (x_13.length : Int)))
                  (some false)
                  ((sound_S N x_4 y_5 y_6 x_13).bind fun x_165 =>
                  br (!x_165)
                    (some false)
                    (chk ((x_4.length : Int) + 1) <|
                    br (!decide ((x_15.length : Int) = ((x_4.length : Int) + 1)))
                      (some false)
                      (idx x_15 0 fun x_166 =>
                      br (!decide (x_166 = 0))
                        (some false)
                        (idx x_15 (x_4.length : Int) fun x_167 =>
                        br (!decide (x_167 = (x_13.length : Int)))
                          (some false)
                          ((tbroken_l1 N N x_13 y_14 x_15 x_17 y_18 (x_4.length : Int) 0 x_4 y_5 y_6 x_10 y_11 y_12).bind fun e => match e with
                          | .inl _ =>
                            some false
                          | .inr (l_168, e_169, s_170, g_171, t_172, t2_173, t3_174, q_175, q2_176, q3_177) =>
                            tbroken_j1 N l_168 e_169 s_170 g_171 t_172 t2_173 t3_174 q_175 q2_176 q3_177)))))))
              (tbroken_j1 N x_13 y_14 x_17 y_18 x_4 y_5 y_6 x_10 y_11 y_12))))))
noncomputable def tbroken_sp (N : Nat) : List Spec := [sp_hang N, sp_check N, sp_lwrong N, sp_fewest N, sp_shows N, sp_marks N, sp_surest N, sp_awake N, sp_made N, sp_tried N, sp_fits N, sp_sound N, sp_lsure N]
theorem tbroken_all (N : Nat) : AllP (SpecOK Try.prog) (tbroken_sp N) := ⟨sp_hang_ok N, sp_check_ok N, sp_lwrong_ok N, sp_fewest_ok N, sp_shows_ok N, sp_marks_ok N, sp_surest_ok N, sp_awake_ok N, sp_made_ok N, sp_tried_ok N, sp_fits_ok N, sp_sound_ok N, sp_lsure_ok N, trivial⟩
noncomputable def tbroken_c : Code := (Try.f13.body).getD .skip
noncomputable abbrev tbroken_B : Body := { c := tbroken_c, n := 232, res := [.tmp 4], outs := [⟨[.b], []⟩], m0 := 0 }
abbrev tbroken_rt : altD tbroken_B.outs → Option Bool := fun r => some r.1.1
abbrev tbroken_l2_at : List PI := [.c [1, 1, 1, 1, 1, 1, 1, 0, 1, 0, 1, 1, 1, 0, 0, 1, 1, 0, 0, 1, 1, 0, 0, 0, 0], .c [1, 1, 1, 1, 1, 1, 1, 0, 1, 0, 1, 1, 1, 0, 0, 1, 1, 0, 0, 1, 1, 0, 0, 0, 1], .c [1, 1, 1, 1, 1, 1, 1, 0, 1, 0, 1, 1, 1, 0, 0, 1, 1, 0, 0, 1, 1, 0, 0, 1], .l [1, 1, 1, 1, 1, 1, 1, 0, 1, 0, 1, 1, 1, 0, 0, 1, 1, 0, 0, 1, 1, 0, 0], .b 2, .b 1, .c [1, 1, 1, 1, 1, 1, 1, 0, 1, 0, 1, 1, 1, 0, 0, 1, 1, 1], .l [1, 1, 1, 1, 1, 1, 1, 0, 1, 0, 1, 1, 1, 0, 0], .b 0, .c [1, 1, 1, 1, 1, 1, 1, 1]]
abbrev tbroken_l2_st : Sta := ⟨[5, 6, 7, 8, 9, 11, 12, 15, 16, 123, 124], ⟨[.own 0 0, .own 1 0, .sl (.int .i64), .i .i64, .sl (.int .i64), .sl (.int .i64), .i .i64, .i .i64, .i .i64, .i .i64, .i .i64], [.segs [.sl (.pair (.int .i64) (.pair (.int .i64) .bool)), .sl (.pair (.int .i64) (.pair (.int .i64) (.int .i64))), .i .i64], .segs [.sl (.int .u8), .i .i64, .i .u32]]⟩⟩
abbrev tbroken_l2_h (rec : (List Int) → Int → (List Int) → (List Int) → Int → Int → Int → Int → Int → (List (Int × (Int × Bool))) → (List (Int × (Int × Int))) → Int → (List Int) → Int → Int → Option ((Unit) ⊕ (List Int × Int × List Int × List Int × Int × Int × Int × (List (Int × (Int × Bool))) × (List (Int × (Int × Int))) × Int × List Int × Int × Int))) : Leaf ((Unit) ⊕ (List Int × Int × List Int × List Int × Int × Int × Int × (List (Int × (Int × Bool))) × (List (Int × (Int × Int))) × Int × List Int × Int × Int)) := ⟨tbroken_l2_at, tbroken_l2_st, fun p => rec p.1.2.2.1 p.1.2.2.2.1 p.1.2.2.2.2.1 p.1.2.2.2.2.2.1 p.1.2.2.2.2.2.2.1 p.1.2.2.2.2.2.2.2.1 p.1.2.2.2.2.2.2.2.2.1 p.1.2.2.2.2.2.2.2.2.2.1 p.1.2.2.2.2.2.2.2.2.2.2.1 p.2.1.1 p.2.1.2.1 p.2.1.2.2.1 p.2.2.1.1 p.2.2.1.2.1 p.2.2.1.2.2.1⟩
abbrev tbroken_l2_e0 : Leaf ((Unit) ⊕ (List Int × Int × List Int × List Int × Int × Int × Int × (List (Int × (Int × Bool))) × (List (Int × (Int × Int))) × Int × List Int × Int × Int)) := ⟨[.c [1, 1, 1, 1, 1, 1, 1, 0, 1, 0, 1, 1, 1, 0, 0, 1, 1, 0, 0, 1, 1, 0, 0, 1, 0, 0, 1, 0, 0], .c [1, 1, 1, 1, 1, 1, 1, 0, 1, 0, 1, 1, 1, 0, 0, 1, 1, 0, 0, 1, 1, 0, 0, 1, 0, 0, 1, 0, 1], .b 3, .c [1, 1, 1, 1, 1, 1, 1, 0, 1, 0, 1, 1, 1, 0, 0, 1, 1, 0, 0, 1, 1, 0, 0, 1, 1], .l [1, 1, 1, 1, 1, 1, 1, 0, 1, 0, 1, 1, 1, 0, 0, 1, 1, 0, 0, 1, 1, 0, 0], .b 2, .b 1, .c [1, 1, 1, 1, 1, 1, 1, 0, 1, 0, 1, 1, 1, 0, 0, 1, 1, 1], .l [1, 1, 1, 1, 1, 1, 1, 0, 1, 0, 1, 1, 1, 0, 0], .b 0, .c [1, 1, 1, 1, 1, 1, 1, 1]], ⟨[], ⟨[], []⟩⟩, fun p => some (.inl ())⟩
abbrev tbroken_l2_e1 : Leaf ((Unit) ⊕ (List Int × Int × List Int × List Int × Int × Int × Int × (List (Int × (Int × Bool))) × (List (Int × (Int × Int))) × Int × List Int × Int × Int)) := ⟨[.c [1, 1, 1, 1, 1, 1, 1, 0, 1, 0, 1, 1, 1, 0, 0, 1, 1, 1], .l [1, 1, 1, 1, 1, 1, 1, 0, 1, 0, 1, 1, 1, 0, 0], .b 0, .c [1, 1, 1, 1, 1, 1, 1, 1]], ⟨[5, 6, 7, 8, 9, 11, 12, 123, 124], ⟨[.own 0 0, .own 1 0, .sl (.int .i64), .i .i64, .sl (.int .i64), .sl (.int .i64), .i .i64, .i .i64, .i .i64], [.segs [.sl (.pair (.int .i64) (.pair (.int .i64) .bool)), .sl (.pair (.int .i64) (.pair (.int .i64) (.int .i64))), .i .i64], .segs [.sl (.int .u8), .i .i64, .i .u32]]⟩⟩, fun p => some (.inr (p.1.2.2.1, p.1.2.2.2.1, p.1.2.2.2.2.1, p.1.2.2.2.2.2.1, p.1.2.2.2.2.2.2.1, p.1.2.2.2.2.2.2.2.1, p.1.2.2.2.2.2.2.2.2.1, p.2.1.1, p.2.1.2.1, p.2.1.2.2.1, p.2.2.1.1, p.2.2.1.2.1, p.2.2.1.2.2.1))⟩
noncomputable def tbroken_l2_L (N : Nat) : LoopS := { at_ := tbroken_l2_at, sta := tbroken_l2_st, exits := [([.c [1, 1, 1, 1, 1, 1, 1, 0, 1, 0, 1, 1, 1, 0, 0, 1, 1, 0, 0, 1, 1, 0, 0, 1, 0, 0, 1, 0, 0], .c [1, 1, 1, 1, 1, 1, 1, 0, 1, 0, 1, 1, 1, 0, 0, 1, 1, 0, 0, 1, 1, 0, 0, 1, 0, 0, 1, 0, 1], .b 3, .c [1, 1, 1, 1, 1, 1, 1, 0, 1, 0, 1, 1, 1, 0, 0, 1, 1, 0, 0, 1, 1, 0, 0, 1, 1], .l [1, 1, 1, 1, 1, 1, 1, 0, 1, 0, 1, 1, 1, 0, 0, 1, 1, 0, 0, 1, 1, 0, 0], .b 2, .b 1, .c [1, 1, 1, 1, 1, 1, 1, 0, 1, 0, 1, 1, 1, 0, 0, 1, 1, 1], .l [1, 1, 1, 1, 1, 1, 1, 0, 1, 0, 1, 1, 1, 0, 0], .b 0, .c [1, 1, 1, 1, 1, 1, 1, 1]], ⟨[], ⟨[], []⟩⟩), ([.c [1, 1, 1, 1, 1, 1, 1, 0, 1, 0, 1, 1, 1, 0, 0, 1, 1, 1], .l [1, 1, 1, 1, 1, 1, 1, 0, 1, 0, 1, 1, 1, 0, 0], .b 0, .c [1, 1, 1, 1, 1, 1, 1, 1]], ⟨[5, 6, 7, 8, 9, 11, 12, 123, 124], ⟨[.own 0 0, .own 1 0, .sl (.int .i64), .i .i64, .sl (.int .i64), .sl (.int .i64), .i .i64, .i .i64, .i .i64], [.segs [.sl (.pair (.int .i64) (.pair (.int .i64) .bool)), .sl (.pair (.int .i64) (.pair (.int .i64) (.int .i64))), .i .i64], .segs [.sl (.int .u8), .i .i64, .i .u32]]⟩⟩)], run := fun p k => (tbroken_l2 N N p.1.2.2.1 p.1.2.2.2.1 p.1.2.2.2.2.1 p.1.2.2.2.2.2.1 p.1.2.2.2.2.2.2.1 p.1.2.2.2.2.2.2.2.1 p.1.2.2.2.2.2.2.2.2.1 p.1.2.2.2.2.2.2.2.2.2.1 p.1.2.2.2.2.2.2.2.2.2.2.1 p.2.1.1 p.2.1.2.1 p.2.1.2.2.1 p.2.2.1.1 p.2.2.1.2.1 p.2.2.1.2.2.1).bind fun e => match e with | .inl x => k (.inl ((), ())) | .inr x => k (.inr (.inl (((), (), x.1, x.2.1, x.2.2.1, x.2.2.2.1, x.2.2.2.2.1, x.2.2.2.2.2.1, x.2.2.2.2.2.2.1, ()), ((x.2.2.2.2.2.2.2.1, x.2.2.2.2.2.2.2.2.1, x.2.2.2.2.2.2.2.2.2.1, ()), (x.2.2.2.2.2.2.2.2.2.2.1, x.2.2.2.2.2.2.2.2.2.2.2.1, x.2.2.2.2.2.2.2.2.2.2.2.2, ()), ())))) }
theorem tbroken_l2_eq (N n_ : Nat) (l : List Int) (e : Int) (m : List Int) (s : List Int) (g : Int) (from_ : Int) (to : Int) (u : Int) (u2 : Int) (t : List (Int × (Int × Bool))) (t2 : List (Int × (Int × Int))) (t3 : Int) (q : List Int) (q2 : Int) (q3 : Int) : ev (Z := (Unit) ⊕ (List Int × Int × List Int × List Int × Int × Int × Int × (List (Int × (Int × Bool))) × (List (Int × (Int × Int))) × Int × List Int × Int × Int)) Try.prog (tbroken_sp N) tbroken_B [] [tbroken_l2_h (tbroken_l2 N n_), tbroken_l2_e0, tbroken_l2_e1] none 400 true tbroken_l2_at (stL tbroken_l2_st (((), (), l, e, m, s, g, from_, to, u, u2, ()), ((t, t2, t3, ()), (q, q2, q3, ()), ()))) (stH tbroken_l2_st (((), (), l, e, m, s, g, from_, to, u, u2, ()), ((t, t2, t3, ()), (q, q2, q3, ()), ()))) = tbroken_l2 N (n_ + 1) l e m s g from_ to u u2 t t2 t3 q q2 q3 := by kernel_rfl
theorem tbroken_l2_ok (N : Nat) {top : Bool} : LoopOK Try.prog tbroken_B.c tbroken_B.n tbroken_B.m0 top (tbroken_l2_L N) := loop_of_ev (Z := (Unit) ⊕ (List Int × Int × List Int × List Int × Int × Int × Int × (List (Int × (Int × Bool))) × (List (Int × (Int × Int))) × Int × List Int × Int × Int)) (N := N) (fun m p => tbroken_l2 N m p.1.2.2.1 p.1.2.2.2.1 p.1.2.2.2.2.1 p.1.2.2.2.2.2.1 p.1.2.2.2.2.2.2.1 p.1.2.2.2.2.2.2.2.1 p.1.2.2.2.2.2.2.2.2.1 p.1.2.2.2.2.2.2.2.2.2.1 p.1.2.2.2.2.2.2.2.2.2.2.1 p.2.1.1 p.2.1.2.1 p.2.1.2.2.1 p.2.2.1.1 p.2.2.1.2.1 p.2.2.1.2.2.1) (fun e => match e with | .inl x => .inl ((), ()) | .inr x => .inr (.inl (((), (), x.1, x.2.1, x.2.2.1, x.2.2.2.1, x.2.2.2.2.1, x.2.2.2.2.2.1, x.2.2.2.2.2.2.1, ()), ((x.2.2.2.2.2.2.2.1, x.2.2.2.2.2.2.2.2.1, x.2.2.2.2.2.2.2.2.2.1, ()), (x.2.2.2.2.2.2.2.2.2.2.1, x.2.2.2.2.2.2.2.2.2.2.2.1, x.2.2.2.2.2.2.2.2.2.2.2.2, ()), ())))) (fun _ p k => bind_congr_ (tbroken_l2 N N p.1.2.2.1 p.1.2.2.2.1 p.1.2.2.2.2.1 p.1.2.2.2.2.2.1 p.1.2.2.2.2.2.2.1 p.1.2.2.2.2.2.2.2.1 p.1.2.2.2.2.2.2.2.2.1 p.1.2.2.2.2.2.2.2.2.2.1 p.1.2.2.2.2.2.2.2.2.2.2.1 p.2.1.1 p.2.1.2.1 p.2.1.2.2.1 p.2.2.1.1 p.2.2.1.2.1 p.2.2.1.2.2.1) _ _ (fun e => by rcases e with x | x <;> rfl)) (fun _ => rfl) (fun m z E Xc hE hX hrec hx => leaf_of_ev (B := tbroken_B) (loops := []) (leaves := [tbroken_l2_h (tbroken_l2 N m), tbroken_l2_e0, tbroken_l2_e1]) (tbroken_all N) mixed trivial hE hX ⟨hrec, (fun p hp => by obtain rfl := Option.some.inj hp; exact hx), (fun p hp => by obtain rfl := Option.some.inj hp; exact hx), trivial⟩ RetOK.no (fun p => tbroken_l2_eq N m p.1.2.2.1 p.1.2.2.2.1 p.1.2.2.2.2.1 p.1.2.2.2.2.2.1 p.1.2.2.2.2.2.2.1 p.1.2.2.2.2.2.2.2.1 p.1.2.2.2.2.2.2.2.2.1 p.1.2.2.2.2.2.2.2.2.2.1 p.1.2.2.2.2.2.2.2.2.2.2.1 p.2.1.1 p.2.1.2.1 p.2.1.2.2.1 p.2.2.1.1 p.2.2.1.2.1 p.2.2.1.2.2.1))
abbrev tbroken_l1_at : List PI := [.c [1, 1, 1, 1, 1, 1, 1, 0, 1, 0, 1, 1, 1, 0, 0, 0], .c [1, 1, 1, 1, 1, 1, 1, 0, 1, 0, 1, 1, 1, 0, 0, 1], .l [1, 1, 1, 1, 1, 1, 1, 0, 1, 0, 1, 1, 1, 0, 0], .b 0, .c [1, 1, 1, 1, 1, 1, 1, 1]]
abbrev tbroken_l1_st : Sta := ⟨[5, 6, 7, 8, 9, 11, 12, 123, 124], ⟨[.own 0 0, .own 1 0, .sl (.int .i64), .i .i64, .sl (.int .i64), .sl (.int .i64), .i .i64, .i .i64, .i .i64], [.segs [.sl (.pair (.int .i64) (.pair (.int .i64) .bool)), .sl (.pair (.int .i64) (.pair (.int .i64) (.int .i64))), .i .i64], .segs [.sl (.int .u8), .i .i64, .i .u32]]⟩⟩
abbrev tbroken_l1_h (rec : (List Int) → Int → (List Int) → (List Int) → Int → Int → Int → (List (Int × (Int × Bool))) → (List (Int × (Int × Int))) → Int → (List Int) → Int → Int → Option ((Unit) ⊕ (List Int × Int × List Int × Int × (List (Int × (Int × Bool))) × (List (Int × (Int × Int))) × Int × List Int × Int × Int))) : Leaf ((Unit) ⊕ (List Int × Int × List Int × Int × (List (Int × (Int × Bool))) × (List (Int × (Int × Int))) × Int × List Int × Int × Int)) := ⟨tbroken_l1_at, tbroken_l1_st, fun p => rec p.1.2.2.1 p.1.2.2.2.1 p.1.2.2.2.2.1 p.1.2.2.2.2.2.1 p.1.2.2.2.2.2.2.1 p.1.2.2.2.2.2.2.2.1 p.1.2.2.2.2.2.2.2.2.1 p.2.1.1 p.2.1.2.1 p.2.1.2.2.1 p.2.2.1.1 p.2.2.1.2.1 p.2.2.1.2.2.1⟩
abbrev tbroken_l1_e0 : Leaf ((Unit) ⊕ (List Int × Int × List Int × Int × (List (Int × (Int × Bool))) × (List (Int × (Int × Int))) × Int × List Int × Int × Int)) := ⟨[.c [1, 1, 1, 1, 1, 1, 1, 0, 1, 0, 1, 1, 1, 0, 0, 1, 1, 0, 0, 1, 1, 0, 0, 1, 0, 0, 1, 0, 0], .c [1, 1, 1, 1, 1, 1, 1, 0, 1, 0, 1, 1, 1, 0, 0, 1, 1, 0, 0, 1, 1, 0, 0, 1, 0, 0, 1, 0, 1], .b 3, .c [1, 1, 1, 1, 1, 1, 1, 0, 1, 0, 1, 1, 1, 0, 0, 1, 1, 0, 0, 1, 1, 0, 0, 1, 1], .l [1, 1, 1, 1, 1, 1, 1, 0, 1, 0, 1, 1, 1, 0, 0, 1, 1, 0, 0, 1, 1, 0, 0], .b 2, .b 1, .c [1, 1, 1, 1, 1, 1, 1, 0, 1, 0, 1, 1, 1, 0, 0, 1, 1, 1], .l [1, 1, 1, 1, 1, 1, 1, 0, 1, 0, 1, 1, 1, 0, 0], .b 0, .c [1, 1, 1, 1, 1, 1, 1, 1]], ⟨[], ⟨[], []⟩⟩, fun p => some (.inl ())⟩
abbrev tbroken_l1_e1 : Leaf ((Unit) ⊕ (List Int × Int × List Int × Int × (List (Int × (Int × Bool))) × (List (Int × (Int × Int))) × Int × List Int × Int × Int)) := ⟨[.c [1, 1, 1, 1, 1, 1, 1, 1, 0, 0], .c [1, 1, 1, 1, 1, 1, 1, 1, 0, 1], .c [1, 1, 1, 1, 1, 1, 1, 1, 1]], ⟨[5, 6, 7, 8, 11, 12], ⟨[.own 0 0, .own 1 0, .sl (.int .i64), .i .i64, .sl (.int .i64), .i .i64], [.segs [.sl (.pair (.int .i64) (.pair (.int .i64) .bool)), .sl (.pair (.int .i64) (.pair (.int .i64) (.int .i64))), .i .i64], .segs [.sl (.int .u8), .i .i64, .i .u32]]⟩⟩, fun p => some (.inr (p.1.2.2.1, p.1.2.2.2.1, p.1.2.2.2.2.1, p.1.2.2.2.2.2.1, p.2.1.1, p.2.1.2.1, p.2.1.2.2.1, p.2.2.1.1, p.2.2.1.2.1, p.2.2.1.2.2.1))⟩
noncomputable def tbroken_l1_L (N : Nat) : LoopS := { at_ := tbroken_l1_at, sta := tbroken_l1_st, exits := [([.c [1, 1, 1, 1, 1, 1, 1, 0, 1, 0, 1, 1, 1, 0, 0, 1, 1, 0, 0, 1, 1, 0, 0, 1, 0, 0, 1, 0, 0], .c [1, 1, 1, 1, 1, 1, 1, 0, 1, 0, 1, 1, 1, 0, 0, 1, 1, 0, 0, 1, 1, 0, 0, 1, 0, 0, 1, 0, 1], .b 3, .c [1, 1, 1, 1, 1, 1, 1, 0, 1, 0, 1, 1, 1, 0, 0, 1, 1, 0, 0, 1, 1, 0, 0, 1, 1], .l [1, 1, 1, 1, 1, 1, 1, 0, 1, 0, 1, 1, 1, 0, 0, 1, 1, 0, 0, 1, 1, 0, 0], .b 2, .b 1, .c [1, 1, 1, 1, 1, 1, 1, 0, 1, 0, 1, 1, 1, 0, 0, 1, 1, 1], .l [1, 1, 1, 1, 1, 1, 1, 0, 1, 0, 1, 1, 1, 0, 0], .b 0, .c [1, 1, 1, 1, 1, 1, 1, 1]], ⟨[], ⟨[], []⟩⟩), ([.c [1, 1, 1, 1, 1, 1, 1, 1, 0, 0], .c [1, 1, 1, 1, 1, 1, 1, 1, 0, 1], .c [1, 1, 1, 1, 1, 1, 1, 1, 1]], ⟨[5, 6, 7, 8, 11, 12], ⟨[.own 0 0, .own 1 0, .sl (.int .i64), .i .i64, .sl (.int .i64), .i .i64], [.segs [.sl (.pair (.int .i64) (.pair (.int .i64) .bool)), .sl (.pair (.int .i64) (.pair (.int .i64) (.int .i64))), .i .i64], .segs [.sl (.int .u8), .i .i64, .i .u32]]⟩⟩)], run := fun p k => (tbroken_l1 N N p.1.2.2.1 p.1.2.2.2.1 p.1.2.2.2.2.1 p.1.2.2.2.2.2.1 p.1.2.2.2.2.2.2.1 p.1.2.2.2.2.2.2.2.1 p.1.2.2.2.2.2.2.2.2.1 p.2.1.1 p.2.1.2.1 p.2.1.2.2.1 p.2.2.1.1 p.2.2.1.2.1 p.2.2.1.2.2.1).bind fun e => match e with | .inl x => k (.inl ((), ())) | .inr x => k (.inr (.inl (((), (), x.1, x.2.1, x.2.2.1, x.2.2.2.1, ()), ((x.2.2.2.2.1, x.2.2.2.2.2.1, x.2.2.2.2.2.2.1, ()), (x.2.2.2.2.2.2.2.1, x.2.2.2.2.2.2.2.2.1, x.2.2.2.2.2.2.2.2.2, ()), ())))) }
theorem tbroken_l1_eq (N n_ : Nat) (l : List Int) (e : Int) (m : List Int) (s : List Int) (g : Int) (u : Int) (u2 : Int) (t : List (Int × (Int × Bool))) (t2 : List (Int × (Int × Int))) (t3 : Int) (q : List Int) (q2 : Int) (q3 : Int) : ev (Z := (Unit) ⊕ (List Int × Int × List Int × Int × (List (Int × (Int × Bool))) × (List (Int × (Int × Int))) × Int × List Int × Int × Int)) Try.prog (tbroken_sp N) tbroken_B [tbroken_l2_L N] [tbroken_l1_h (tbroken_l1 N n_), tbroken_l1_e0, tbroken_l1_e1] none 400 true tbroken_l1_at (stL tbroken_l1_st (((), (), l, e, m, s, g, u, u2, ()), ((t, t2, t3, ()), (q, q2, q3, ()), ()))) (stH tbroken_l1_st (((), (), l, e, m, s, g, u, u2, ()), ((t, t2, t3, ()), (q, q2, q3, ()), ()))) = tbroken_l1 N (n_ + 1) l e m s g u u2 t t2 t3 q q2 q3 := by kernel_rfl
theorem tbroken_l1_ok (N : Nat) {top : Bool} : LoopOK Try.prog tbroken_B.c tbroken_B.n tbroken_B.m0 top (tbroken_l1_L N) := loop_of_ev (Z := (Unit) ⊕ (List Int × Int × List Int × Int × (List (Int × (Int × Bool))) × (List (Int × (Int × Int))) × Int × List Int × Int × Int)) (N := N) (fun m p => tbroken_l1 N m p.1.2.2.1 p.1.2.2.2.1 p.1.2.2.2.2.1 p.1.2.2.2.2.2.1 p.1.2.2.2.2.2.2.1 p.1.2.2.2.2.2.2.2.1 p.1.2.2.2.2.2.2.2.2.1 p.2.1.1 p.2.1.2.1 p.2.1.2.2.1 p.2.2.1.1 p.2.2.1.2.1 p.2.2.1.2.2.1) (fun e => match e with | .inl x => .inl ((), ()) | .inr x => .inr (.inl (((), (), x.1, x.2.1, x.2.2.1, x.2.2.2.1, ()), ((x.2.2.2.2.1, x.2.2.2.2.2.1, x.2.2.2.2.2.2.1, ()), (x.2.2.2.2.2.2.2.1, x.2.2.2.2.2.2.2.2.1, x.2.2.2.2.2.2.2.2.2, ()), ())))) (fun _ p k => bind_congr_ (tbroken_l1 N N p.1.2.2.1 p.1.2.2.2.1 p.1.2.2.2.2.1 p.1.2.2.2.2.2.1 p.1.2.2.2.2.2.2.1 p.1.2.2.2.2.2.2.2.1 p.1.2.2.2.2.2.2.2.2.1 p.2.1.1 p.2.1.2.1 p.2.1.2.2.1 p.2.2.1.1 p.2.2.1.2.1 p.2.2.1.2.2.1) _ _ (fun e => by rcases e with x | x <;> rfl)) (fun _ => rfl) (fun m z E Xc hE hX hrec hx => leaf_of_ev (B := tbroken_B) (loops := [tbroken_l2_L N]) (leaves := [tbroken_l1_h (tbroken_l1 N m), tbroken_l1_e0, tbroken_l1_e1]) (tbroken_all N) mixed ⟨tbroken_l2_ok N, trivial⟩ hE hX ⟨hrec, (fun p hp => by obtain rfl := Option.some.inj hp; exact hx), (fun p hp => by obtain rfl := Option.some.inj hp; exact hx), trivial⟩ RetOK.no (fun p => tbroken_l1_eq N m p.1.2.2.1 p.1.2.2.2.1 p.1.2.2.2.2.1 p.1.2.2.2.2.2.1 p.1.2.2.2.2.2.2.1 p.1.2.2.2.2.2.2.2.1 p.1.2.2.2.2.2.2.2.2.1 p.2.1.1 p.2.1.2.1 p.2.1.2.2.1 p.2.2.1.1 p.2.2.1.2.1 p.2.2.1.2.2.1))
abbrev tbroken_l3_at : List PI := [.c [1, 1, 1, 1, 1, 1, 1, 1, 1, 0, 1, 0, 0, 0], .c [1, 1, 1, 1, 1, 1, 1, 1, 1, 0, 1, 0, 0, 1], .l [1, 1, 1, 1, 1, 1, 1, 1, 1, 0, 1, 0, 0], .b 4, .c [1, 1, 1, 1, 1, 1, 1, 1, 1, 1]]
abbrev tbroken_l3_st : Sta := ⟨[5, 6, 7, 8, 11, 12, 174], ⟨[.own 0 0, .own 1 0, .sl (.int .i64), .i .i64, .sl (.int .i64), .i .i64, .i .i64], [.segs [.sl (.pair (.int .i64) (.pair (.int .i64) .bool)), .sl (.pair (.int .i64) (.pair (.int .i64) (.int .i64))), .i .i64], .segs [.sl (.int .u8), .i .i64, .i .u32]]⟩⟩
abbrev tbroken_l3_h (rec : (List Int) → Int → (List Int) → Int → Int → (List (Int × (Int × Bool))) → (List (Int × (Int × Int))) → Int → (List Int) → Int → Int → Option ((Unit) ⊕ ((Unit) ⊕ (Unit)))) : Leaf ((Unit) ⊕ ((Unit) ⊕ (Unit))) := ⟨tbroken_l3_at, tbroken_l3_st, fun p => rec p.1.2.2.1 p.1.2.2.2.1 p.1.2.2.2.2.1 p.1.2.2.2.2.2.1 p.1.2.2.2.2.2.2.1 p.2.1.1 p.2.1.2.1 p.2.1.2.2.1 p.2.2.1.1 p.2.2.1.2.1 p.2.2.1.2.2.1⟩
abbrev tbroken_l3_e0 : Leaf ((Unit) ⊕ ((Unit) ⊕ (Unit))) := ⟨[.c [1, 1, 1, 1, 1, 1, 1, 1, 1, 0, 1, 0, 0, 1, 1, 0, 0, 1, 0, 1, 0, 0], .c [1, 1, 1, 1, 1, 1, 1, 1, 1, 0, 1, 0, 0, 1, 1, 0, 0, 1, 0, 1, 0, 1], .c [1, 1, 1, 1, 1, 1, 1, 1, 1, 0, 1, 0, 0, 1, 1, 0, 0, 1, 1], .b 5, .c [1, 1, 1, 1, 1, 1, 1, 1, 1, 0, 1, 0, 0, 1, 1, 1], .l [1, 1, 1, 1, 1, 1, 1, 1, 1, 0, 1, 0, 0], .b 4, .c [1, 1, 1, 1, 1, 1, 1, 1, 1, 1]], ⟨[], ⟨[], []⟩⟩, fun p => some (.inl ())⟩
abbrev tbroken_l3_e1 : Leaf ((Unit) ⊕ ((Unit) ⊕ (Unit))) := ⟨[.c [1, 1, 1, 1, 1, 1, 1, 1, 1, 0, 1, 0, 0, 1, 1, 0, 0, 1, 1, 1, 1, 0, 0], .c [1, 1, 1, 1, 1, 1, 1, 1, 1, 0, 1, 0, 0, 1, 1, 0, 0, 1, 1, 1, 1, 0, 1], .b 5, .c [1, 1, 1, 1, 1, 1, 1, 1, 1, 0, 1, 0, 0, 1, 1, 1], .l [1, 1, 1, 1, 1, 1, 1, 1, 1, 0, 1, 0, 0], .b 4, .c [1, 1, 1, 1, 1, 1, 1, 1, 1, 1]], ⟨[], ⟨[], []⟩⟩, fun p => some (.inr (.inl ()))⟩
abbrev tbroken_l3_e2 : Leaf ((Unit) ⊕ ((Unit) ⊕ (Unit))) := ⟨[.c [1, 1, 1, 1, 1, 1, 1, 1, 1, 1, 0], .c [1, 1, 1, 1, 1, 1, 1, 1, 1, 1, 1]], ⟨[], ⟨[], []⟩⟩, fun p => some (.inr (.inr ()))⟩
noncomputable def tbroken_l3_L (N : Nat) : LoopS := { at_ := tbroken_l3_at, sta := tbroken_l3_st, exits := [([.c [1, 1, 1, 1, 1, 1, 1, 1, 1, 0, 1, 0, 0, 1, 1, 0, 0, 1, 0, 1, 0, 0], .c [1, 1, 1, 1, 1, 1, 1, 1, 1, 0, 1, 0, 0, 1, 1, 0, 0, 1, 0, 1, 0, 1], .c [1, 1, 1, 1, 1, 1, 1, 1, 1, 0, 1, 0, 0, 1, 1, 0, 0, 1, 1], .b 5, .c [1, 1, 1, 1, 1, 1, 1, 1, 1, 0, 1, 0, 0, 1, 1, 1], .l [1, 1, 1, 1, 1, 1, 1, 1, 1, 0, 1, 0, 0], .b 4, .c [1, 1, 1, 1, 1, 1, 1, 1, 1, 1]], ⟨[], ⟨[], []⟩⟩), ([.c [1, 1, 1, 1, 1, 1, 1, 1, 1, 0, 1, 0, 0, 1, 1, 0, 0, 1, 1, 1, 1, 0, 0], .c [1, 1, 1, 1, 1, 1, 1, 1, 1, 0, 1, 0, 0, 1, 1, 0, 0, 1, 1, 1, 1, 0, 1], .b 5, .c [1, 1, 1, 1, 1, 1, 1, 1, 1, 0, 1, 0, 0, 1, 1, 1], .l [1, 1, 1, 1, 1, 1, 1, 1, 1, 0, 1, 0, 0], .b 4, .c [1, 1, 1, 1, 1, 1, 1, 1, 1, 1]], ⟨[], ⟨[], []⟩⟩), ([.c [1, 1, 1, 1, 1, 1, 1, 1, 1, 1, 0], .c [1, 1, 1, 1, 1, 1, 1, 1, 1, 1, 1]], ⟨[], ⟨[], []⟩⟩)], run := fun p k => (tbroken_l3 N N p.1.2.2.1 p.1.2.2.2.1 p.1.2.2.2.2.1 p.1.2.2.2.2.2.1 p.1.2.2.2.2.2.2.1 p.2.1.1 p.2.1.2.1 p.2.1.2.2.1 p.2.2.1.1 p.2.2.1.2.1 p.2.2.1.2.2.1).bind fun e => match e with | .inl x => k (.inl ((), ())) | .inr (.inl x) => k (.inr (.inl ((), ()))) | .inr (.inr x) => k (.inr (.inr (.inl ((), ())))) }
theorem tbroken_l3_eq (N n_ : Nat) (l : List Int) (e : Int) (s : List Int) (g : Int) (u : Int) (t : List (Int × (Int × Bool))) (t2 : List (Int × (Int × Int))) (t3 : Int) (q : List Int) (q2 : Int) (q3 : Int) : ev (Z := (Unit) ⊕ ((Unit) ⊕ (Unit))) Try.prog (tbroken_sp N) tbroken_B [tbroken_l2_L N, tbroken_l1_L N] [tbroken_l3_h (tbroken_l3 N n_), tbroken_l3_e0, tbroken_l3_e1, tbroken_l3_e2] none 400 true tbroken_l3_at (stL tbroken_l3_st (((), (), l, e, s, g, u, ()), ((t, t2, t3, ()), (q, q2, q3, ()), ()))) (stH tbroken_l3_st (((), (), l, e, s, g, u, ()), ((t, t2, t3, ()), (q, q2, q3, ()), ()))) = tbroken_l3 N (n_ + 1) l e s g u t t2 t3 q q2 q3 := by kernel_rfl
theorem tbroken_l3_ok (N : Nat) {top : Bool} : LoopOK Try.prog tbroken_B.c tbroken_B.n tbroken_B.m0 top (tbroken_l3_L N) := loop_of_ev (Z := (Unit) ⊕ ((Unit) ⊕ (Unit))) (N := N) (fun m p => tbroken_l3 N m p.1.2.2.1 p.1.2.2.2.1 p.1.2.2.2.2.1 p.1.2.2.2.2.2.1 p.1.2.2.2.2.2.2.1 p.2.1.1 p.2.1.2.1 p.2.1.2.2.1 p.2.2.1.1 p.2.2.1.2.1 p.2.2.1.2.2.1) (fun e => match e with | .inl x => .inl ((), ()) | .inr (.inl x) => .inr (.inl ((), ())) | .inr (.inr x) => .inr (.inr (.inl ((), ())))) (fun _ p k => bind_congr_ (tbroken_l3 N N p.1.2.2.1 p.1.2.2.2.1 p.1.2.2.2.2.1 p.1.2.2.2.2.2.1 p.1.2.2.2.2.2.2.1 p.2.1.1 p.2.1.2.1 p.2.1.2.2.1 p.2.2.1.1 p.2.2.1.2.1 p.2.2.1.2.2.1) _ _ (fun e => by rcases e with x | x | x <;> rfl)) (fun _ => rfl) (fun m z E Xc hE hX hrec hx => leaf_of_ev (B := tbroken_B) (loops := [tbroken_l2_L N, tbroken_l1_L N]) (leaves := [tbroken_l3_h (tbroken_l3 N m), tbroken_l3_e0, tbroken_l3_e1, tbroken_l3_e2]) (tbroken_all N) mixed ⟨tbroken_l2_ok N, tbroken_l1_ok N, trivial⟩ hE hX ⟨hrec, (fun p hp => by obtain rfl := Option.some.inj hp; exact hx), (fun p hp => by obtain rfl := Option.some.inj hp; exact hx), (fun p hp => by obtain rfl := Option.some.inj hp; exact hx), trivial⟩ RetOK.no (fun p => tbroken_l3_eq N m p.1.2.2.1 p.1.2.2.2.1 p.1.2.2.2.2.1 p.1.2.2.2.2.2.1 p.1.2.2.2.2.2.2.1 p.2.1.1 p.2.1.2.1 p.2.1.2.2.1 p.2.2.1.1 p.2.2.1.2.1 p.2.2.1.2.2.1))
abbrev tbroken_j1_at : List PI := [.c [1, 1, 1, 1, 1, 1, 1, 1, 0, 0], .c [1, 1, 1, 1, 1, 1, 1, 1, 0, 1], .c [1, 1, 1, 1, 1, 1, 1, 1, 1]]
abbrev tbroken_j1_st : Sta := ⟨[5, 6, 7, 8, 11, 12], ⟨[.own 0 0, .own 1 0, .sl (.int .i64), .i .i64, .sl (.int .i64), .i .i64], [.segs [.sl (.pair (.int .i64) (.pair (.int .i64) .bool)), .sl (.pair (.int .i64) (.pair (.int .i64) (.int .i64))), .i .i64], .segs [.sl (.int .u8), .i .i64, .i .u32]]⟩⟩
abbrev tbroken_j1_k (N : Nat) : Leaf Bool := ⟨tbroken_j1_at, tbroken_j1_st, fun p => tbroken_j1 N p.1.2.2.1 p.1.2.2.2.1 p.1.2.2.2.2.1 p.1.2.2.2.2.2.1 p.2.1.1 p.2.1.2.1 p.2.1.2.2.1 p.2.2.1.1 p.2.2.1.2.1 p.2.2.1.2.2.1⟩
theorem tbroken_j1_eq (N : Nat) (l : List Int) (e : Int) (s : List Int) (g : Int) (t : List (Int × (Int × Bool))) (t2 : List (Int × (Int × Int))) (t3 : Int) (q : List Int) (q2 : Int) (q3 : Int) : ev (Z := Bool) Try.prog (tbroken_sp N) tbroken_B [tbroken_l2_L N, tbroken_l1_L N, tbroken_l3_L N] [] (some tbroken_rt) 400 true tbroken_j1_at (stL tbroken_j1_st (((), (), l, e, s, g, ()), ((t, t2, t3, ()), (q, q2, q3, ()), ()))) (stH tbroken_j1_st (((), (), l, e, s, g, ()), ((t, t2, t3, ()), (q, q2, q3, ()), ()))) = tbroken_j1 N l e s g t t2 t3 q q2 q3 := by kernel_rfl
theorem tbroken_j1_lf (N : Nat) {z : Bool} {E : EE} {Xc : Ctx} (hE : EOK tbroken_B.m0 E) (hX : CxOK true Xc) (hret : RetOK Try.prog tbroken_B E Xc z (some tbroken_rt)) : LeafOK Try.prog tbroken_B.c tbroken_B.n tbroken_B.m0 E Xc z (tbroken_j1_k N) := leaf_of_ev (B := tbroken_B) (loops := [tbroken_l2_L N, tbroken_l1_L N, tbroken_l3_L N]) (leaves := []) (tbroken_all N) mixed ⟨tbroken_l2_ok N, tbroken_l1_ok N, tbroken_l3_ok N, trivial⟩ hE hX trivial hret (fun p => tbroken_j1_eq N p.1.2.2.1 p.1.2.2.2.1 p.1.2.2.2.2.1 p.1.2.2.2.2.2.1 p.2.1.1 p.2.1.2.1 p.2.1.2.2.1 p.2.2.1.1 p.2.2.1.2.1 p.2.2.1.2.2.1)
abbrev tbroken_st : Sta := ⟨[0, 1], ⟨[.sl (.int .u8), .sl (.int .u8)], []⟩⟩
theorem tbroken_eq (N : Nat) (numbers : List Int) (tries : List Int) : ev (Z := Bool) Try.prog (tbroken_sp N) tbroken_B [tbroken_l2_L N, tbroken_l1_L N, tbroken_l3_L N] [tbroken_j1_k N] (some tbroken_rt) 400 false [.c [0], .c [1]] (stL tbroken_st ((numbers, tries, ()), ())) (stH tbroken_st ((numbers, tries, ()), ())) = tbroken_S N numbers tries := by kernel_rfl
noncomputable def sp_tbroken (N : Nat) : Spec := { f := 13, ins := ⟨[.sl (.int .u8), .sl (.int .u8)], []⟩, outs := [⟨[.b], []⟩], run := fun p k => (tbroken_S N p.1.1 p.1.2.1).bind fun r => k ((r, ()), ()) }
theorem sp_tbroken_ok (N : Nat) : SpecOK Try.prog (sp_tbroken N) := fn_sound (B := tbroken_B) (loops := [tbroken_l2_L N, tbroken_l1_L N, tbroken_l3_L N]) (leaves := [tbroken_j1_k N]) (fun p => tbroken_S N p.1.1 p.1.2.1) (fun r => ((r, ()), ())) tbroken_rt (fun _ _ _ => rfl) (fun r z h => by cases h; rfl) Try.func13 (by kernel_rfl) (by kernel_rfl) (by kernel_rfl) rfl rfl (by kernel_rfl) (fun args w => Sem.pv_run _ _ _ (by kernel_rfl) w) (tbroken_all N) mixed ⟨tbroken_l2_ok N, tbroken_l1_ok N, tbroken_l3_ok N, trivial⟩ (fun z E Xc hE hX hret => ⟨tbroken_j1_lf N hE hX hret, trivial⟩) (fun p => tbroken_eq N p.1.1 p.1.2.1)

end Go.Proofs.Ytfamlpbdhhikdaa

namespace Go.Proofs.Ytfamlpbdhhikdaa
set_option linter.all false
open Go

end Go.Proofs.Ytfamlpbdhhikdaa

namespace Go.Proofs.Ytfamlpbdhhikdaa
set_option linter.all false
open Go

section
variable {R : Nat → Nat → Bool} {m : Nat}
end
/-! ### The program of the reference -/
section
variable {N : Nat} (hN : 110 ≤ N)
include hN
end
section
variable {ws : List Wd} {ts : List Tn} {br_ : Int}
theorem good_wrong : ∀ (l : List Int) (p : Nat) (i : Int), (∀ x ∈ l, 1 ≤ x ∧ x ≤ 12) → (p : Int) + l.sum = ws.length → (goodB (rightR ws ts br_) ws.length p l = true ↔ wrongF ws ts br_ l p i = none)
  | [], p, i, _, hs => by simp [goodB, wrongF]; simp at hs; omega
  | x :: l, p, i, h, hs => by
    have hx := h x (by simp)
    have hge := sum_ge (l := l) (fun y hy => h y (by simp [hy]))
    rw [List.sum_cons] at hs
    have ih := good_wrong l (p + x.toNat) (i + 1) (fun y hy => h y (by simp [hy])) (by omega)
    rw [good_cons, wrongF]
    unfold rightR
    cases (faultR ws ts br_ p (p + x.toNat)).2
    · rw [if_neg (by simp), ← ih]
      unfold rightR
      simp only [Bool.not_false, true_and]
      exact ⟨fun h => h.2, fun h => ⟨⟨by omega, by omega⟩, h⟩⟩
    · simp
theorem wrongR_iff (hF : checkT ws ts br_ = 0) {l : List Int} (h : ∀ x ∈ l, 1 ≤ x ∧ x ≤ 12) (hs : l.sum = ws.length) : (wrongR ws ts br_ l).2.2 = 6 ↔ goodB (rightR ws ts br_) ws.length 0 l = true := by
  rw [good_wrong l 0 0 h (by simpa using hs)]
  have hr : readE ws ts br_ l = 0 := by
    unfold readE
    rw [if_neg (by simpa using hF), if_neg (by simpa [in12] using h), if_neg (by simpa using hs)]
  unfold wrongR
  rw [if_neg (by simpa using hr)]
  cases wrongF ws ts br_ l 0 0 <;> simp
theorem good_read {l : List Int} (hm : ws.length ≤ 12) : ∀ {p : Nat}, goodB (rightR ws ts br_) ws.length p l = true → (∀ x ∈ l, 1 ≤ x ∧ x ≤ 12) ∧ (p : Int) + l.sum = ws.length := by
  induction l with
  | nil => intro p h; have := good_nil.1 h; simp; omega
  | cons x l ih =>
    intro p h
    obtain ⟨⟨b1, b2⟩, _, b4⟩ := good_cons.1 h
    obtain ⟨c1, c2⟩ := ih b4
    refine ⟨fun y hy => ?_, by rw [List.sum_cons]; omega⟩
    rcases List.mem_cons.1 hy with rfl | hy
    · omega
    · exact c1 y hy
variable {N : Nat} (hN : 1030 ≤ N)
include hN
end
/-! ### The fewest breaths -/
section
variable {N : Nat} {l : List (List Int)} (hl : l.length ≤ 100000) (h1 : ∀ x ∈ l, 1 ≤ x.length)
include hl h1
end
end Go.Proofs.Ytfamlpbdhhikdaa

namespace Go.Proofs.Ytfamlpbdhhikdaa
set_option linter.all false
open Go

section
variable {N : Nat} {l : List (List Int)} {ws : List Wd} {ts : List Tn} {br_ : Int} {O : List Int}
end
section
variable {R : Nat → Nat → Bool} {m : Nat}
end
section
variable {N : Nat} {ws : List Wd} {ts : List Tn} {br_ : Int} (hF : TFine ws ts br_) (hN : 1030 ≤ N) (hm : ws.length ≤ 10)
include hF hm hN
end
/-- The fewest breaths: what is told. -/
theorem fewest_v {N : Nat} (hN : 110 ≤ N) {ws : List Wd} {ts : List Tn} {br_ : Int} (hw : ws.length ≤ 1000000) (ht : ts.length ≤ 1000000) :
    (checkT ws ts br_ ≠ 0 ∧ fewest_S N ws ts br_ = some ([], checkT ws ts br_)) ∨ (checkT ws ts br_ = 0 ∧
      ((∃ l, fewest_S N ws ts br_ = some (l, 0) ∧ goodB (rightR ws ts br_) ws.length 0 l = true ∧ IsMin (rightR ws ts br_) ws.length 0 l.length) ∨
       (fewest_S N ws ts br_ = some ([], 6) ∧ ∀ l, goodB (rightR ws ts br_) ws.length 0 l = false))) := by
  unfold fewest_S
  rw [opened_v (by omega) hw ht]
  by_cases c : checkT ws ts br_ = 0
  · refine .inr ⟨c, ?_⟩
    have hF := tfine_of c
    have := hF.t
    rw [if_pos c]
    simp only [Option.bind_some]
    rw [br_nd trivial]
    rcases fewestr_v (N := N) hN (d := (ws, ts, br_)) (r := (ws, ts, br_)) (R := rightR ws ts br_) (m := ws.length) rfl ⟨hF.n0, hF.n⟩ (fun a b h1 h2 => right_v hN hF.okW (by omega) (by omega) h2) with ⟨l, e, h1, h2⟩ | ⟨e, h1⟩
    · rw [e]; exact .inl ⟨l, rfl, h1, h2⟩
    · rw [e]; exact .inr ⟨rfl, h1⟩
  · refine .inl ⟨c, ?_⟩
    rw [if_neg c]
    simp only [Option.bind_some]
    rw [br_nnd c]
end Go.Proofs.Ytfamlpbdhhikdaa

namespace Go.Proofs.Ytfamlpbdhhikdaa
set_option linter.all false
open Go

/-- Right breaths that end at no place that a turn parts. -/
def partP (s : Int) (x : Tn) : Bool := (decide (x.1 < s) && decide (s ≤ x.2.1)) || (decide (x.2.2 < s) && decide (s ≤ x.1))
def suR (ws : List Wd) (ts : List Tn) (br_ : Int) (a b : Nat) : Bool := rightR ws ts br_ a b && (decide (b = ws.length) || !(ts.any (partP b)))
section
variable {ws : List Wd} {ts : List Tn} {br_ : Int}
variable {N : Nat} (hN : 110 ≤ N) (hF : TFine ws ts br_)
include hN hF
end
/-! ### Sure readings -/
theorem ixfpa_gen (N : Nat) (s : Int) : ∀ (n : Nat) (l : List Tn) (u u2 : Int), ixfpa_l1 N n l s u u2 = ixL (fun x => parted1_S N x.1 x.2.1 x.2.2 s) n l u u2
  | 0, _, _, _ => rfl
  | n + 1, l, u, u2 => by unfold ixfpa_l1 ixL; simp only [ixfpa_gen N s n]
theorem parted_v {N : Nat} {ws : List Wd} {ts : List Tn} {br_ : Int} (ht : ts.length ≤ 1000) (hN : ts.length < N) (s : Int) : parted_S N (ws, ts, br_) s = some (ts.any (partP s)) := by
  have h := ixS_any (f := fun x : Tn => parted1_S N x.1 x.2.1 x.2.2 s) (p := partP s) (s := ts) (N := N) (fun x _ => by
    unfold parted1_S partP
    by_cases h1 : x.1 < s <;> by_cases h2 : s ≤ x.2.1 <;> by_cases h3 : x.2.2 < s <;> by_cases h4 : s ≤ x.1 <;> simp [br, h1, h2, h3, h4]) (by omega) hN
  unfold parted_S cofpa_S ixfpa_S
  unfold ixS at h
  simp only [ixfpa_gen]
  rw [show ∀ (o : Option Bool), (o.bind fun x => some x) = o from fun o => by cases o <;> rfl]
  exact h
section
variable {ws : List Wd} {ts : List Tn} {br_ : Int} {N : Nat} (hN : 110 ≤ N) (hF : TFine ws ts br_)
include hN hF
theorem surest1_v {a b : Nat} (hab : a < b) (hb : b ≤ ws.length) : surest1_S N a b (ws, ts, br_) = some (suR ws ts br_ a b) := by
  have := hF.t; have := hF.n
  unfold surest1_S suR
  rw [right_v hN hF.okW (by omega) (by omega) hb]
  simp only [Option.bind_some, end__S]
  cases rightR ws ts br_ a b
  · rfl
  · rw [br_true]
    by_cases c : b = ws.length
    · rw [br_dec (by omega)]; simp [c]
    · rw [br_ndec (by omega), parted_v (by omega) (by omega)]
      simp [c]
end
/-- The surest reading: what is told. -/
theorem surest_v {N : Nat} (hN : 110 ≤ N) {ws : List Wd} {ts : List Tn} {br_ : Int} (hw : ws.length ≤ 1000000) (ht : ts.length ≤ 1000000) :
    (checkT ws ts br_ ≠ 0 ∧ surest_S N ws ts br_ = some ([], checkT ws ts br_)) ∨ (checkT ws ts br_ = 0 ∧
      ((∃ l, surest_S N ws ts br_ = some (l, 0) ∧ goodB (suR ws ts br_) ws.length 0 l = true ∧ IsMin (suR ws ts br_) ws.length 0 l.length) ∨
       (surest_S N ws ts br_ = some ([], 6) ∧ ∀ l, goodB (suR ws ts br_) ws.length 0 l = false))) := by
  unfold surest_S
  rw [opened_v (by omega) hw ht]
  by_cases c : checkT ws ts br_ = 0
  · refine .inr ⟨c, ?_⟩
    have hF := tfine_of c
    rw [if_pos c]
    simp only [Option.bind_some]
    rw [br_nd trivial]
    rcases fewests_v (N := N) hN (d := (ws, ts, br_)) (r := (ws, ts, br_)) (R := suR ws ts br_) (m := ws.length) rfl ⟨hF.n0, hF.n⟩ (fun a b h1 h2 => surest1_v hN hF h1 h2) with ⟨l, e, h1, h2⟩ | ⟨e, h1⟩
    · rw [e]; exact .inl ⟨l, rfl, h1, h2⟩
    · rw [e]; exact .inr ⟨rfl, h1⟩
  · refine .inl ⟨c, ?_⟩
    rw [if_neg c]
    simp only [Option.bind_some]
    rw [br_nnd c]
/-! ### No run of a sure reading says a turn otherwise -/
def runsOK (p : Int → Int → Bool) : Int → List Int → Prop
  | _, [] => True
  | f, x :: r => (∀ s ∈ psums f (x :: r), p f s = false) ∧ runsOK p (f + x) r
theorem inF_none {q : Int → Bool} : ∀ (r : List Int) (to b : Int), inF q r to b = none ↔ ∀ s ∈ psums to r, q s = false
  | [], to, b => by simp [inF, psums]
  | x :: r, to, b => by
    have ih := inF_none (q := q) r (to + x) (b + 1)
    simp only [inF, psums, List.mem_cons, forall_eq_or_imp]
    cases q (to + x)
    · rw [if_neg (by simp), ih]; simp
    · simp
theorem outF_none {p : Int → Int → Bool} : ∀ (r : List Int) (f a : Int), outF p r f a = none ↔ runsOK p f r
  | [], f, a => by simp [outF, runsOK]
  | x :: r, f, a => by
    have ih := outF_none (p := p) r (f + x) (a + 1)
    rw [outF, runsOK, ← inF_none (x :: r) f a, ← ih]
    cases inF (p f) (x :: r) f a <;> simp
theorem trnF_none {l : List Int} : ∀ (ts : List Tn) (k : Int), trnF l ts k = none ↔ ∀ x ∈ ts, runsOK (fun a b => turnP a b x) 0 l
  | [], k => by simp [trnF]
  | x :: r, k => by
    have ih := trnF_none (l := l) r (k + 1)
    rw [trnF]
    simp only [List.mem_cons, forall_eq_or_imp]
    rw [← ih, ← outF_none l 0 0]
    cases outF (fun a b => turnP a b x) l 0 0 <;> simp
theorem psums_last {R : Nat → Nat → Bool} {m : Nat} : ∀ {l : List Int} {a : Nat}, goodB R m a l = true → l ≠ [] → (m : Int) ∈ psums a l
  | [], a, _, hn => absurd rfl hn
  | x :: l, a, h, _ => by
    obtain ⟨⟨b1, b2⟩, b3, b4⟩ := good_cons.1 h
    have e : (a : Int) + x = ((a + x.toNat : Nat) : Int) := by omega
    rw [psums, e, List.mem_cons]
    by_cases c : l = []
    · subst c; have := good_nil.1 b4; exact .inl (by omega)
    · exact .inr (psums_last b4 c)
theorem psums_le {R : Nat → Nat → Bool} {m : Nat} : ∀ {l : List Int} {a : Nat}, goodB R m a l = true → ∀ s ∈ psums a l, (a : Int) < s ∧ s ≤ m
  | [], a, _, s, hs => by simp [psums] at hs
  | x :: l, a, h, s, hs => by
    obtain ⟨⟨b1, b2⟩, b3, b4⟩ := good_cons.1 h
    have e : (a : Int) + x = ((a + x.toNat : Nat) : Int) := by omega
    rw [psums, e, List.mem_cons] at hs
    rcases hs with rfl | hs
    · omega
    · have := psums_le b4 s hs; omega
theorem runs_end {R : Nat → Nat → Bool} {m : Nat} {p : Int → Int → Bool} : ∀ {l : List Int} {a : Nat}, goodB R m a l = true → runsOK p a l → ∀ s ∈ psums a l, s < m → p s m = false
  | [], a, _, _, s, hs, _ => by simp [psums] at hs
  | x :: l, a, h, hr, s, hs, hm => by
    obtain ⟨⟨b1, b2⟩, b3, b4⟩ := good_cons.1 h
    have e : (a : Int) + x = ((a + x.toNat : Nat) : Int) := by omega
    rw [runsOK, e] at hr
    rw [psums, e, List.mem_cons] at hs
    rcases hs with rfl | hs
    · cases l with
      | nil => have := good_nil.1 b4; omega
      | cons y l =>
        rw [runsOK] at hr
        exact hr.2.1 _ (psums_last b4 (by simp))
    · exact runs_end b4 hr.2 s hs hm
section
variable {ws : List Wd} {ts : List Tn} {br_ : Int}
theorem runs_ok {R : Nat → Nat → Bool} {x : Tn} (hx : (0 ≤ x.1 ∧ x.1 < ws.length) ∧ (0 ≤ x.2.1 ∧ x.2.1 < ws.length) ∧ (0 ≤ x.2.2 ∧ x.2.2 < ws.length) ∧ x.2.1 ≤ x.2.2 ∧ ¬ (x.2.1 ≤ x.1 ∧ x.1 ≤ x.2.2)) : ∀ {l : List Int} {a : Nat}, goodB R ws.length a l = true → (a = 0 ∨ partP a x = false) → (∀ s ∈ psums a l, s < ws.length → partP s x = false) → runsOK (fun a b => turnP a b x) a l
  | [], a, _, _, _ => trivial
  | y :: l, a, h, ha, hs => by
    obtain ⟨⟨b1, b2⟩, b3, b4⟩ := good_cons.1 h
    have e : (a : Int) + y = ((a + y.toNat : Nat) : Int) := by omega
    refine ⟨fun s h1 => ?_, ?_⟩
    · have hb := psums_le h s h1
      have h2 := hs s h1
      show turnP a s x = false
      cases ht : turnP a s x
      · rfl
      · exfalso
        simp only [turnP, Bool.and_eq_true, decide_eq_true_eq, Bool.not_eq_true', decide_eq_false_iff_not] at ht
        obtain ⟨⟨t1, t2⟩, t3⟩ := ht
        by_cases c : x.1 < a
        · rcases ha with rfl | ha
          · omega
          · simp [partP] at ha; omega
        · have h3 := h2 (by omega)
          simp [partP] at h3; omega
    · rw [e]
      by_cases c : a + y.toNat = ws.length
      · cases l with
        | nil => trivial
        | cons z l => have := (good_cons.1 b4).1; omega
      · refine runs_ok hx b4 (.inr ?_) (fun s h1 => hs s ?_)
        · rw [← e]
          exact hs _ (by rw [psums]; simp) (by omega)
        · rw [psums, e, List.mem_cons]; exact .inr h1
theorem good_sure : ∀ {l : List Int} {a : Nat}, goodB (suR ws ts br_) ws.length a l = true ↔ goodB (rightR ws ts br_) ws.length a l = true ∧ ∀ s ∈ psums a l, s < ws.length → ts.any (partP s) = false
  | [], a => by simp [goodB, psums]
  | x :: l, a => by
    rw [good_cons, good_cons, good_sure]
    constructor
    · rintro ⟨h1, h2, h3, h4⟩
      have e : (a : Int) + x = ((a + x.toNat : Nat) : Int) := by omega
      simp only [suR, Bool.and_eq_true, Bool.or_eq_true, decide_eq_true_eq, Bool.not_eq_true'] at h2
      refine ⟨⟨h1, h2.1, h3⟩, fun s hs hl => ?_⟩
      rw [psums, e, List.mem_cons] at hs
      rcases hs with rfl | hs
      · rcases h2.2 with h5 | h5
        · omega
        · exact h5
      · exact h4 s hs hl
    · rintro ⟨⟨h1, h2, h3⟩, h4⟩
      have e : (a : Int) + x = ((a + x.toNat : Nat) : Int) := by omega
      rw [psums, e] at h4
      refine ⟨h1, ?_, h3, fun s hs hl => h4 s (List.mem_cons_of_mem _ hs) hl⟩
      simp only [suR, Bool.and_eq_true, Bool.or_eq_true, decide_eq_true_eq, Bool.not_eq_true']
      refine ⟨h2, ?_⟩
      by_cases c : a + x.toNat = ws.length
      · exact .inl c
      · exact .inr (h4 _ (by simp) (by have := h1.2; omega))
/-- A right reading is sure just if it breaks at no place that a turn parts. -/
theorem sure_iff (hF : TFine ws ts br_) {R : Nat → Nat → Bool} {l : List Int} (h : goodB R ws.length 0 l = true) : trnF l ts 0 = none ↔ ∀ s ∈ psums 0 l, s < ws.length → ts.any (partP s) = false := by
  rw [trnF_none]
  constructor
  · intro hr s hs hl
    rw [List.any_eq_false]
    intro x hx
    have h1 := hF.x x hx
    have h2 := hr x hx
    rw [Bool.not_eq_true]
    have hb := psums_le h s hs
    have e1 := runs_end h h2 s hs hl
    cases l with
    | nil => simp [psums] at hs
    | cons y l =>
      have e2 := h2.1 s hs
      cases hp : partP s x
      · rfl
      · exfalso
        simp only [partP, Bool.or_eq_true, Bool.and_eq_true, decide_eq_true_eq] at hp
        simp only [turnP] at e1 e2
        simp at e1 e2
        omega
  · intro hs x hx
    refine runs_ok (hF.x x hx) h (.inl rfl) (fun s h1 h2 => ?_)
    have := List.any_eq_false.1 (hs s h1 h2) x hx
    simpa using this
theorem sure_good (hF : TFine ws ts br_) {l : List Int} : goodB (suR ws ts br_) ws.length 0 l = true ↔ goodB (rightR ws ts br_) ws.length 0 l = true ∧ trnF l ts 0 = none := by
  rw [good_sure]
  constructor
  · rintro ⟨h1, h2⟩; exact ⟨h1, (sure_iff hF h1).2 h2⟩
  · rintro ⟨h1, h2⟩; exact ⟨h1, (sure_iff hF h1).1 h2⟩
end
end Go.Proofs.Ytfamlpbdhhikdaa

namespace Go.Proofs.Ytfamlpbdhhikdaa
set_option linter.all false
open Go

section
variable {N : Nat} {ws : List Wd} {ts : List Tn} {br_ : Int} (hN : 110 ≤ N) (hF : TFine ws ts br_)
include hN hF
end
section
variable {N : Nat} {ws : List Wd} {ts : List Tn} {br_ : Int} (hF : TFine ws ts br_) (hN : 1030 ≤ N) (hm : ws.length ≤ 10)
include hF hm hN
end
end Go.Proofs.Ytfamlpbdhhikdaa

namespace Go.Proofs.Ytfamlpbdhhikdaa
set_option linter.all false
open Go

/-! ### Bells -/
theorem wrap32 (x : Int) : 0 ≤ IntKind.u32.wrap x ∧ IntKind.u32.wrap x < 4294967296 := by
  have := wrap_inR .u32 x
  have h1 : IntKind.u32.min = 0 := by decide
  have h2 : IntKind.u32.max = 4294967295 := by decide
  unfold inR at this
  rw [h1, h2] at this
  omega
def Bell (b : List Int) (b2 : Int) : Prop := b.length ≤ 9223372036854775807 ∧ 0 ≤ b2 ∧ b2 ≤ b.length
abbrev BellR (b : List Int) (r : List Int × Int × Int) : Prop := r.1 = b ∧ Bell b r.2.1
theorem and_small (n : Nat) : 0 ≤ IntKind.i64.wrap ((n &&& 65535 : Nat) : Int) ∧ IntKind.i64.wrap ((n &&& 65535 : Nat) : Int) ≤ 65535 := by
  have : n &&& 65535 ≤ 65535 := Nat.and_le_right
  rw [wrap64 (by omega)]
  omega
theorem fdiv_nonneg {x : Int} (h : 0 ≤ x) : 0 ≤ Int.fdiv x (2 ^ 7) := by
  rw [Int.fdiv_eq_ediv_of_nonneg _ (by decide)]
  exact Int.ediv_nonneg h (by decide)
theorem ring_j1_ok (N : Nat) {b : List Int} {b2 b3 : Int} (hb : b.length ≤ 9223372036854775807) (h0 : 0 ≤ b2) (h1 : b2 < b.length ∨ b.length = 0 ∧ b2 = 0) : Ok (ring_j1 N b b2 b3) fun r => (0 ≤ r.1 ∧ r.1 ≤ 65535) ∧ BellR b r.2 := by
  unfold ring_j1
  refine Ok.brd (fun h => ?_) (fun h => ?_)
  · refine Ok.idx h0 (by omega) (fun a _ _ => Ok.chk (by omega) (Ok.grd ?_ (Ok.grd ?_ (Ok.some ?_))))
    · simp only [decide_eq_true_eq]; exact ⟨(wrap32 _).1, fdiv_nonneg (wrap32 _).1⟩
    · simp only [decide_eq_true_eq]; exact ⟨Int.natCast_nonneg _, by decide⟩
    · exact ⟨and_small _, rfl, hb, by dsimp only; omega, by dsimp only; omega⟩
  · refine Ok.grd ?_ (Ok.grd ?_ (Ok.some ?_))
    · simp only [decide_eq_true_eq]; exact ⟨(wrap32 _).1, fdiv_nonneg (wrap32 _).1⟩
    · simp only [decide_eq_true_eq]; exact ⟨Int.natCast_nonneg _, by decide⟩
    · exact ⟨and_small _, rfl, hb, by dsimp only; omega, by dsimp only; omega⟩
theorem ring_ok (N : Nat) {b : List Int} {b2 b3 : Int} (hb : Bell b b2) : Ok (ring_S N b b2 b3) fun r => (0 ≤ r.1 ∧ r.1 ≤ 65535) ∧ BellR b r.2 := by
  obtain ⟨h1, h2, h3⟩ := hb
  unfold ring_S
  refine Ok.brd (fun h => ring_j1_ok N h1 (by omega) (by omega)) (fun h => ring_j1_ok N h1 h2 (by omega))
theorem stroke_ok (N : Nat) {n : Int} {b : List Int} {b2 b3 : Int} (hb : Bell b b2) (hn : -1000000 ≤ n ∧ n ≤ 1000000) : Ok (stroke_S N n b b2 b3) fun r => (0 ≤ r.1 ∧ r.1 ≤ max 0 n) ∧ BellR b r.2 := by
  unfold stroke_S
  refine Ok.bind (ring_ok N hb) (fun r hr => ?_)
  obtain ⟨x, c, c2, c3⟩ := r
  refine Ok.chk (by omega) (Ok.grd (by simp only [Bool.not_eq_true', decide_eq_false_iff_not]; omega) (Ok.some ⟨?_, hr.2⟩))
  obtain ⟨⟨h1, h2⟩, _⟩ := hr
  dsimp only at *
  have hm : 0 < max 1 (n + 1) := by omega
  have := Int.tmod_lt_of_pos x hm
  have := Int.tmod_nonneg (max 1 (n + 1)) h1
  omega
theorem strike_ok (N : Nat) {lo hi : Int} {b : List Int} {b2 b3 : Int} (hb : Bell b b2) (hn : (-1000 ≤ lo ∧ lo ≤ 1000) ∧ -1000 ≤ hi ∧ hi ≤ 1000) : Ok (strike_S N lo hi b b2 b3) fun r => (lo ≤ r.1 ∧ r.1 ≤ max lo hi) ∧ BellR b r.2 := by
  unfold strike_S
  refine Ok.chk (by omega) (Ok.bind (stroke_ok N hb (by omega)) (fun r hr => ?_))
  obtain ⟨x, c, c2, c3⟩ := r
  obtain ⟨h, h2⟩ := hr
  dsimp only at *
  refine Ok.chk (by omega) (Ok.some ⟨by dsimp only; omega, h2⟩)
theorem seldom_ok (N : Nat) {n : Int} {b : List Int} {b2 b3 : Int} (hb : Bell b b2) (hn : -1000 ≤ n ∧ n ≤ 1000) : Ok (seldom_S N n b b2 b3) fun r => BellR b r.2 := by
  unfold seldom_S
  refine Ok.chk (by omega) (Ok.bind (stroke_ok N hb (by omega)) (fun r hr => ?_))
  obtain ⟨x, c, c2, c3⟩ := r
  exact Ok.some hr.2

/-! ### Texts that are made -/
theorem checkT_of {ws : List Wd} {ts : List Tn} {br_ : Int} (h : TFine ws ts br_) : checkT ws ts br_ = 0 := by
  have h1 := h.n0; have h2 := h.n; have h3 := h.t; have h4 := h.b0; have h5 := h.b1
  have e1 : ws.all okw = true := by
    rw [List.all_eq_true]
    intro w hw
    have := h.w w hw
    simp [okw]; omega
  have e2 : ts.all (ok2 ws.length) = true := by
    rw [List.all_eq_true]
    intro x hx
    have := h.x x hx
    simp only [ok2, inT, Bool.and_eq_true, decide_eq_true_eq]; omega
  have e3 : ts.all ok3 = true := by
    rw [List.all_eq_true]
    intro x hx
    have := h.x x hx
    simp only [ok3, decide_eq_true_eq]; omega
  have e4 : ts.all ok4 = true := by
    rw [List.all_eq_true]
    intro x hx
    have := h.x x hx
    simp only [ok4, Bool.not_eq_true', decide_eq_false_iff_not]; omega
  unfold checkT
  rw [if_neg (by omega), if_neg (by omega), if_neg (by omega), if_neg (by simp [e1]), if_neg (by simp [e2]), if_neg (by simp [e3]), if_neg (by simp [e4])]
abbrev BelR (b : List Int) (c : List Int) (c2 : Int) : Prop := c = b ∧ Bell b c2
def okWd (w : Wd) : Prop := (1 ≤ w.1 ∧ w.1 ≤ 9) ∧ 0 ≤ w.2.1 ∧ w.2.1 ≤ 20
def okTn (m : Nat) (x : Tn) : Prop := (0 ≤ x.1 ∧ x.1 < m) ∧ (0 ≤ x.2.1 ∧ x.2.1 < m) ∧ (0 ≤ x.2.2 ∧ x.2.2 < m) ∧ x.2.1 ≤ x.2.2 ∧ ¬ (x.2.1 ≤ x.1 ∧ x.1 ≤ x.2.2)
section
variable {N : Nat} {b : List Int}
theorem made_l1_p {turns u g t : Int} (hu : 0 ≤ u ∧ u ≤ 100) : ∀ (n k : Nat) (b2 b3 : Int) (W : List Wd), u < n + k → (k : Int) ≤ u → Bell b b2 → W.length = k → (∀ w ∈ W, okWd w) →
    Ok (made_l1 N n turns u k b b2 b3 g t W) fun z => z.1 = turns ∧ BelR b z.2.1 z.2.2.1 ∧ z.2.2.2.2.1 = g ∧ z.2.2.2.2.2.1 = t ∧ (z.2.2.2.2.2.2.length : Int) = u ∧ ∀ w ∈ z.2.2.2.2.2.2, okWd w
  | 0, k, b2, b3, W, h, _, _, _, _ => by omega
  | n + 1, k, b2, b3, W, h, hk, hb, hW, hw => by
    unfold made_l1
    refine Ok.brd (fun c => ?_) (fun c => Ok.some ⟨rfl, ⟨rfl, hb⟩, rfl, rfl, by dsimp only; omega, hw⟩)
    refine Ok.bind (strike_ok N hb (by omega)) ?_
    rintro ⟨x, c1, c2, c3⟩ ⟨hx, hc, hb1⟩
    dsimp only at hx hc hb1 ⊢
    obtain rfl := hc.symm
    refine Ok.bind (stroke_ok N hb1 (by omega)) ?_
    rintro ⟨y, d1, d2, d3⟩ ⟨hy, hc, hb2⟩
    dsimp only at hy hc hb2 ⊢
    obtain rfl := hc.symm
    refine Ok.bind (seldom_ok N hb2 (by omega)) ?_
    rintro ⟨z, e1, e2, e3⟩ ⟨hc, hb3⟩
    dsimp only at hc hb3 ⊢
    obtain rfl := hc.symm
    refine Ok.lim (by simp; omega) (Ok.chk (by omega) ?_)
    have := made_l1_p (turns := turns) (g := g) (t := t) hu n (k + 1) e2 e3 (W ++ [(x, y, !z)]) (by omega) (by omega) hb3 (by simp [hW]) (fun w hm => by
      rcases List.mem_append.1 hm with hm | hm
      · exact hw w hm
      · simp at hm; subst hm; exact ⟨by dsimp only; omega, by dsimp only; omega, by dsimp only; omega⟩)
    rw [show ((k + 1 : Nat) : Int) = (k : Int) + 1 by omega] at this
    exact this
theorem made_l2_p {u g t : Int} {W : List Wd} (hu : u ≤ 100) (hW : W.length ≤ 100) : ∀ (n k : Nat) (b2 b3 : Int) (X : List Tn), u < n + k → 0 < n → Bell b b2 → X.length ≤ k → k ≤ 1000 → (∀ x ∈ X, okTn W.length x) → ((X.length : Int) ≤ max u 0) →
    Ok (made_l2 N n u k b b2 b3 g t W X) fun z => BelR b z.1 z.2.1 ∧ z.2.2.2.1 = g ∧ z.2.2.2.2.1 = t ∧ z.2.2.2.2.2.1 = W ∧ ((z.2.2.2.2.2.2.length : Int) ≤ max u 0) ∧ ∀ x ∈ z.2.2.2.2.2.2, okTn W.length x
  | 0, k, b2, b3, X, h, h0, _, _, _, _, _ => by omega
  | n + 1, k, b2, b3, X, h, h0, hb, hX, hk, hx, hl => by
    unfold made_l2
    refine Ok.brd (fun c => ?_) (fun c => Ok.some ⟨⟨rfl, hb⟩, rfl, rfl, rfl, hl, hx⟩)
    refine Ok.brd (fun c => Ok.some ⟨⟨rfl, hb⟩, rfl, rfl, rfl, hl, hx⟩) (fun c2 => ?_)
    refine Ok.chk (by omega) (Ok.bind (stroke_ok N hb (by omega)) ?_)
    rintro ⟨lo, c1, c2', c3⟩ ⟨hlo, hc, hb1⟩
    dsimp only at hlo hc hb1 ⊢
    obtain rfl := hc.symm
    refine Ok.chk (by omega) (Ok.bind (stroke_ok N hb1 (by omega)) ?_)
    rintro ⟨y, d1, d2, d3⟩ ⟨hy, hc, hb2⟩
    dsimp only at hy hc hb2 ⊢
    obtain rfl := hc.symm
    refine Ok.chk (by omega) (Ok.chk (by omega) (Ok.bind (stroke_ok N hb2 (by omega)) ?_))
    rintro ⟨w, e1, e2, e3⟩ ⟨hw, hc, hb3⟩
    dsimp only at hw hc hb3 ⊢
    obtain rfl := hc.symm
    have hj : ∀ X', made_j1 N (made_l2 N n) u k b e2 e3 g t W X' = made_l2 N n u ((k + 1 : Nat) : Int) b e2 e3 g t W X' := fun X' => by
      unfold made_j1
      rw [chk_eq (by omega)]; rfl
    simp only [hj]
    have put : (w < lo ∨ min ((W.length : Int) - 1) (lo + y) < w) → Ok (lim (X.length + [(w, lo, min ((W.length : Int) - 1) (lo + y))].length) <| made_l2 N n u ((k + 1 : Nat) : Int) b e2 e3 g t W (X ++ [(w, lo, min ((W.length : Int) - 1) (lo + y))])) fun z => BelR b z.1 z.2.1 ∧ z.2.2.2.1 = g ∧ z.2.2.2.2.1 = t ∧ z.2.2.2.2.2.1 = W ∧ ((z.2.2.2.2.2.2.length : Int) ≤ max u 0) ∧ ∀ x ∈ z.2.2.2.2.2.2, okTn W.length x := fun hc => by
      refine Ok.lim (by simp; omega) ?_
      exact made_l2_p hu hW n (k + 1) e2 e3 _ (by omega) (by omega) hb3 (by simp; omega) (by omega) (fun x hm => by
        rcases List.mem_append.1 hm with hm | hm
        · exact hx x hm
        · simp at hm; subst hm
          unfold okTn; dsimp only; omega) (by simp; omega)
    refine Ok.brd (fun q => put (.inl q)) (fun q => Ok.brd (fun q2 => put (.inr q2)) (fun q2 => ?_))
    exact made_l2_p hu hW n (k + 1) e2 e3 X (by omega) (by omega) hb3 (by omega) (by omega) hx hl
theorem made_v (hN : 110 ≤ N) {words turns b2 b3 : Int} (hw : 1 ≤ words ∧ words ≤ 12) (ht : 0 ≤ turns ∧ turns ≤ 6) (hb : Bell b b2) :
    Ok (made_S N words turns b b2 b3) fun z => TFine z.1 z.2.1 z.2.2.1 ∧ (z.1.length : Int) ≤ words ∧ BelR b z.2.2.2.1 z.2.2.2.2.1 := by
  unfold made_S
  refine Ok.bind (strike_ok N hb (by omega)) ?_
  rintro ⟨x, c1, c2, c3⟩ ⟨hx, hc, hb1⟩
  dsimp only at hx hc hb1 ⊢
  obtain rfl := hc.symm
  refine Ok.bind (strike_ok N hb1 (by omega)) ?_
  rintro ⟨m, d1, d2, d3⟩ ⟨hm, hc, hb2⟩
  dsimp only at hm hc hb2 ⊢
  obtain rfl := hc.symm
  have e1 := made_l1_p (N := N) (turns := turns) (g := 0) (t := x) (u := m) (by omega) N 0 d2 d3 [] (by omega) (by omega) hb2 rfl (fun w h => by cases h)
  simp only [Int.natCast_zero] at e1
  refine Ok.bind e1 ?_
  rintro ⟨t', f1, f2, f3, g', x', W⟩ ⟨q1, ⟨q2, hb3⟩, q3, q4, hl, hW⟩
  dsimp only at q1 q2 q3 q4 hb3 hl hW ⊢
  obtain rfl := q1.symm
  obtain rfl := q2.symm
  obtain rfl := q3.symm
  obtain rfl := q4.symm
  refine Ok.bind (stroke_ok N hb3 (by omega)) ?_
  rintro ⟨k, h1, h2, h3⟩ ⟨hk, hc, hb4⟩
  dsimp only at hk hc hb4 ⊢
  obtain rfl := hc.symm
  have e2 := made_l2_p (N := N) (u := k) (g := 0) (t := x) (W := W) (by omega) (by omega) N 0 h2 h3 [] (by omega) (by omega) hb4 (by simp) (by omega) (fun x h => by cases h) (by simp; omega)
  simp only [Int.natCast_zero] at e2
  refine Ok.bind e2 ?_
  rintro ⟨i1, i2, i3, g'', x'', W', X⟩ ⟨⟨q2, hb5⟩, q3, q4, q5, hl2, hX⟩
  dsimp only at q2 q3 q4 q5 hb5 hl2 hX ⊢
  obtain rfl := q2.symm
  obtain rfl := q3.symm
  obtain rfl := q4.symm
  obtain rfl := q5.symm
  refine Ok.some ⟨⟨by dsimp only; omega, by dsimp only; omega, by dsimp only; omega, by dsimp only; omega, by dsimp only; omega, hW, hX⟩, by dsimp only; omega, rfl, hb5⟩
/-! ### Readings that are tried -/
theorem tried_l1_p {often : Int} (ho : 1 ≤ often ∧ often ≤ 3) {ws : List Wd} {ts : List Tn} {br_ : Int} (hw : 1 ≤ ws.length ∧ ws.length ≤ 12) : ∀ (n k : Nat) (x : Int) (b2 b3 : Int) (O : List Int), ws.length < n + k → k ≤ ws.length → Bell b b2 → O.length ≤ k → (∀ y ∈ O, 1 ≤ y ∧ y ≤ 12) → O.sum + x = k → 0 ≤ x ∧ x ≤ k → (k = ws.length → x = 0) →
    Ok (tried_l1 N n x often ws ws.length k b b2 b3 ws ts br_ O) fun z => BelR b z.1 z.2.1 ∧ (∀ y ∈ z.2.2.2, 1 ≤ y ∧ y ≤ 12) ∧ z.2.2.2.sum = ws.length
  | 0, k, x, b2, b3, O, h, _, _, _, _, _, _, _ => by omega
  | n + 1, k, x, b2, b3, O, h, hk, hb, hO, h12, hs, hx, hend => by
    unfold tried_l1
    refine Ok.brd (fun c => ?_) (fun c => Ok.some ⟨⟨rfl, hb⟩, h12, by have := hend (by omega); dsimp only; omega⟩)
    have c' : k < ws.length := by omega
    have hj : ∀ x' b b2 b3 O', tried_j1 N (tried_l1 N n) x' often ws ws.length k b b2 b3 ws ts br_ O' = tried_l1 N n x' often ws ws.length ((k + 1 : Nat) : Int) b b2 b3 ws ts br_ O' := fun x' b b2 b3 O' => by
      unfold tried_j1
      rw [chk_eq (by omega)]; rfl
    simp only [hj]
    refine Ok.idx (by omega) (by omega) (fun w _ _ => Ok.chk (by omega) (Ok.chk (by omega) ?_))
    have put : ∀ c2 c3, Bell b c2 → Ok (lim (O.length + [x + 1].length) <| tried_l1 N n 0 often ws ws.length ((k + 1 : Nat) : Int) b c2 c3 ws ts br_ (O ++ [x + 1])) fun z => BelR b z.1 z.2.1 ∧ (∀ y ∈ z.2.2.2, 1 ≤ y ∧ y ≤ 12) ∧ z.2.2.2.sum = ws.length := fun c2 c3 hc => by
      refine Ok.lim (by simp; omega) ?_
      exact tried_l1_p ho hw n (k + 1) 0 c2 c3 _ (by omega) (by omega) hc (by simp; omega) (fun y hy => by
        rcases List.mem_append.1 hy with hy | hy
        · exact h12 y hy
        · simp at hy; subst hy; omega) (by simp; omega) (by omega) (fun _ => rfl)
    have go : ∀ c2 c3, Bell b c2 → ¬ (k : Int) = (ws.length : Int) - 1 → Ok (tried_l1 N n (x + 1) often ws ws.length ((k + 1 : Nat) : Int) b c2 c3 ws ts br_ O) fun z => BelR b z.1 z.2.1 ∧ (∀ y ∈ z.2.2.2, 1 ≤ y ∧ y ≤ 12) ∧ z.2.2.2.sum = ws.length := fun c2 c3 hc hne =>
      tried_l1_p ho hw n (k + 1) (x + 1) c2 c3 O (by omega) (by omega) hc (by omega) h12 (by omega) (by omega) (fun e => by omega)
    have last : ∀ c2 c3, Bell b c2 → ¬ (k : Int) = (ws.length : Int) - 1 → Ok ((seldom_S N 12 b c2 c3).bind fun (x_14, y_15, y_16, y_17) => br x_14 (lim (O.length + [x + 1].length) <| tried_l1 N n 0 often ws ws.length ((k + 1 : Nat) : Int) y_15 y_16 y_17 ws ts br_ (O ++ [x + 1])) (tried_l1 N n (x + 1) often ws ws.length ((k + 1 : Nat) : Int) y_15 y_16 y_17 ws ts br_ O)) fun z => BelR b z.1 z.2.1 ∧ (∀ y ∈ z.2.2.2, 1 ≤ y ∧ y ≤ 12) ∧ z.2.2.2.sum = ws.length := fun c2 c3 hc hne => by
      refine Ok.bind (seldom_ok N hc (by omega)) ?_
      rintro ⟨z, e1, e2, e3⟩ ⟨hc, hb3⟩
      dsimp only at hc hb3 ⊢
      obtain rfl := hc.symm
      exact Ok.br (fun _ => put e2 e3 hb3) (fun _ => go e2 e3 hb3 hne)
    refine Ok.brd (fun _ => put b2 b3 hb) (fun hne => Ok.br (fun _ => ?_) (fun _ => last b2 b3 hb hne))
    refine Ok.bind (seldom_ok N hb (by omega)) ?_
    rintro ⟨z, e1, e2, e3⟩ ⟨hc, hb3⟩
    dsimp only at hc hb3 ⊢
    obtain rfl := hc.symm
    exact Ok.br (fun _ => put e2 e3 hb3) (fun _ => last e2 e3 hb3 hne)
theorem tried_v (hN : 110 ≤ N) {ws : List Wd} {ts : List Tn} {br_ b2 b3 : Int} (hw : 1 ≤ ws.length ∧ ws.length ≤ 12) (hb : Bell b b2) :
    Ok (tried_S N ws ts br_ b b2 b3) fun z => ((∀ y ∈ z.1, 1 ≤ y ∧ y ≤ 12) ∧ z.1.sum = ws.length) ∧ BelR b z.2.1 z.2.2.1 := by
  unfold tried_S
  refine Ok.bind (strike_ok N hb (by omega)) ?_
  rintro ⟨x, c1, c2, c3⟩ ⟨hx, hc, hb1⟩
  dsimp only at hx hc hb1 ⊢
  obtain rfl := hc.symm
  have e := tried_l1_p (N := N) (often := x) (by omega) (ws := ws) (ts := ts) (br_ := br_) hw N 0 0 c2 c3 [] (by omega) (by omega) hb1 (by simp) (fun y h => by cases h) (by simp) (by omega) (fun _ => rfl)
  simp only [Int.natCast_zero] at e
  refine Ok.bind e ?_
  rintro ⟨d1, d2, d3, O⟩ ⟨⟨q2, hb2⟩, h1, h2⟩
  dsimp only at q2 hb2 h1 h2 ⊢
  obtain rfl := q2.symm
  exact Ok.some ⟨⟨h1, h2⟩, rfl, hb2⟩
end
end Go.Proofs.Ytfamlpbdhhikdaa

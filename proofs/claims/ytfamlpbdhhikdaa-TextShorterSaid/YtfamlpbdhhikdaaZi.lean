/-
  Parts of a proof, put together: TL7, TL8.
  Conditions: none.
-/
import Derived.Test.YtfamlpbdhhikdaaZh
namespace Go.Proofs.Ytfamlpbdhhikdaa
set_option linter.all false
open Go

/-- Words keep the sense of a turn. -/
def keepP (l : List Int) (x : Tn) : Bool := !sayP l x
section
variable {N : Nat} {ws : List Wd} {ts : List Tn} {br_ : Int}
theorem keeps1_l1_p {l : List Int} (hl : l.length ≤ 1000) (hN : l.length < N) {x : Tn} (hx : -1000 ≤ x.2.1 ∧ x.2.2 ≤ 1000) : ∀ (n : Nat) (w : Int), (x.2.2 + 1 - w).toNat < n → x.2.1 ≤ w →
    keeps1_l1 N n l w x.1 x.2.1 x.2.2 = some (if (wordsL w (x.2.2 + 1)).all (fun w => l.contains w) then .inr (l, x.1, x.2.1, x.2.2) else .inl ())
  | 0, w, h, _ => by omega
  | n + 1, w, h, h1 => by
    unfold keeps1_l1
    by_cases c : w ≤ x.2.2
    · have ih := keeps1_l1_p hl hN hx n (w + 1) (by omega) (by omega)
      have e : wordsL w (x.2.2 + 1) = w :: wordsL (w + 1) (x.2.2 + 1) := by
        unfold wordsL
        rw [show (x.2.2 + 1 - w).toNat = (x.2.2 + 1 - (w + 1)).toNat + 1 by omega, List.range_succ_eq_map, List.map_cons, List.map_map]
        congr 1
        · simp
        · refine List.map_congr_left fun i _ => ?_
          simp only [Function.comp]; omega
      rw [e, List.all_cons, br_dec c, containsi_v hl hN]
      simp only [Option.bind_some]
      cases l.contains w
      · rfl
      · rw [Bool.not_true, br_false, chk_eq (by omega), ih, Bool.true_and]
    · rw [br_ndec c]
      have : wordsL w (x.2.2 + 1) = [] := by unfold wordsL; rw [show (x.2.2 + 1 - w).toNat = 0 by omega]; rfl
      rw [this]; rfl
theorem keeps1_v {l : List Int} (hl : l.length ≤ 1000) (hN : l.length < N) {x : Tn} (hx : -1000 ≤ x.2.1 ∧ x.2.2 ≤ 1000) (hN2 : (x.2.2 + 1 - x.2.1).toNat < N) : keeps1_S N x.1 x.2.1 x.2.2 l = some (keepP l x) := by
  unfold keeps1_S keepP sayP coreB
  rw [keeps1_l1_p hl hN hx N x.2.1 hN2 (by omega)]
  cases (wordsL x.2.1 (x.2.2 + 1)).all (fun w => l.contains w)
  · rfl
  · simp only [if_true, Option.bind_some]
    rw [containsi_v hl hN]
    simp
theorem ixft5_gen {l : List Int} {p : Tn → Bool} : ∀ (n : Nat) (s : List Tn) (u u2 : Int), (∀ x ∈ s, keeps1_S N x.1 x.2.1 x.2.2 l = some (p x)) → ixft5_l1 N n s u u2 l = (ixL (fun x => some (!p x)) n s u u2).map fun r => match r with | .inl i => .inl (i, l) | .inr _ => .inr l
  | 0, _, _, _, _ => rfl
  | n + 1, s, u, u2, h => by
    unfold ixft5_l1 ixL every1t5_S
    unfold br
    split
    · unfold idx
      split
      · cases hg : s[u2.toNat]? with
        | none => rfl
        | some a =>
          dsimp only
          rw [h a (List.mem_of_getElem? hg)]
          simp only [Option.bind_some, ixft5_gen n s u (u2 + 1) h]
          cases p a
          · rfl
          · simp only [Bool.not_true, Bool.false_eq_true, if_false]
            unfold chk
            split <;> rfl
      · rfl
    · rfl
theorem everyt5_v {l : List Int} {p : Tn → Bool} (h : ∀ x ∈ ts, keeps1_S N x.1 x.2.1 x.2.2 l = some (p x)) (ht : ts.length ≤ 1000000) (hN : ts.length < N) : everyt5_S N ts l = some (ts.all p) := by
  unfold everyt5_S coft5_S ixft5_S
  rw [← every_gen (f := fun x : Tn => some (p x)) (p := p) (s := ts) (N := N) (fun x _ => rfl) ht hN]
  unfold ixS
  rw [ixft5_gen _ _ _ _ h]
  simp only [Option.bind_some]
  cases ixL (fun x => some (!p x)) N ts ts.length 0 with
  | none => rfl
  | some r => cases r <;> rfl
variable (hN : 110 ≤ N) (hF : TFine ws ts br_)
include hN hF
theorem keeps_v {l : List Int} (hl : l.length ≤ 100) : keeps_S N (ws, ts, br_) l = some (ts.all (keepP l)) := by
  have hn := hF.n; have ht := hF.t
  unfold keeps_S
  dsimp only
  rw [everyt5_v (p := keepP l) (fun x hx => by
    have := hF.x x hx
    exact keeps1_v (by omega) (by omega) (by omega) (by omega)) (by omega) (by omega)]
  rfl
theorem said_keep {l : List Int} (hl : l.length ≤ 100) : ∃ s, said_S N ws ts br_ l = some s ∧ s.length ≤ 100 ∧ decide ((s.length : Int) = 0) = ts.all (keepP l) := by
  have ht := hF.t
  refine ⟨_, hF.said (by omega) (by omega) (by omega), ?_, ?_⟩
  · have := selK_len (sayP l) ts ts.length; omega
  · rw [Bool.eq_iff_iff, decide_eq_true_eq, List.all_eq_true]
    constructor
    · intro h x hx
      obtain ⟨i, hi, rfl⟩ := List.getElem_of_mem hx
      unfold keepP
      cases hs : sayP l ts[i]
      · rfl
      · exfalso
        have : (i : Int) ∈ selK (sayP l) ts ts.length := by
          simp only [selK, List.mem_map, List.mem_filter, List.mem_range]
          exact ⟨i, ⟨hi, by simpa [List.getD, hi] using hs⟩, rfl⟩
        have := List.length_pos_of_mem this
        omega
    · intro h
      have : selK (sayP l) ts ts.length = [] := by
        cases hq : selK (sayP l) ts ts.length with
        | nil => rfl
        | cons a r =>
          exfalso
          have hm : a ∈ selK (sayP l) ts ts.length := by rw [hq]; simp
          simp only [selK, List.mem_map, List.mem_filter, List.mem_range] at hm
          obtain ⟨i, ⟨hi, hp⟩, _⟩ := hm
          have := h _ (getD_mem (d := (0, 0, 0)) hi)
          unfold keepP at this
          rw [hp] at this; cases this
      rw [this]; rfl
omit hN hF
/-- The weight of words. -/
def wtR (ws : List Wd) (l : List Int) : Int := (l.map fun w => (ws.getD w.toNat (0, 0, false)).2.1).sum
def inW (ws : List Wd) (l : List Int) : Prop := ∀ w ∈ l, 0 ≤ w ∧ w < ws.length
include hF
theorem weight_l1_p {l : List Int} (hl : l.length ≤ 1000) (hw : inW ws l) : ∀ (n k : Nat) (O : List Int), l.length < n + k → k ≤ l.length → O.length = k →
    weight_l1 N n (ws, ts, br_) l l.length k O = some (O ++ (l.drop k).map fun w => (ws.getD w.toNat (0, 0, false)).2.1)
  | 0, k, O, h, _, _ => by omega
  | n + 1, k, O, h, hk, hO => by
    by_cases c : k < l.length
    · have g := gets c 0
      have hx := hw _ (getD_mem (d := 0) c)
      rw [drop_cons c 0]
      generalize l.getD k 0 = x at *
      have g2 : ws[x.toNat]? = some (ws.getD x.toNat (0, 0, false)) := by
        simp [List.getD, show x.toNat < ws.length by omega]
      have ih := weight_l1_p hl hw n (k + 1) (O ++ [(ws.getD x.toNat (0, 0, false)).2.1]) (by omega) (by omega) (by simp [hO])
      rw [show ((k + 1 : Nat) : Int) = (k : Int) + 1 by omega] at ih
      rw [weight_l1, br_dec (by omega), idx_eq (by omega) g, idx_eq (l := ws) hx.1 g2, lim_eq (by simp; omega), chk_eq (by omega), ih]
      simp
    · rw [weight_l1, br_ndec (by omega), List.drop_of_length_le (by omega)]; simp
theorem wt_mem {l : List Int} (hw : inW ws l) : ∀ x ∈ l.map fun w => (ws.getD w.toNat (0, 0, false)).2.1, 0 ≤ x ∧ x ≤ 20 := by
  intro x hx
  obtain ⟨w, hm, rfl⟩ := List.mem_map.1 hx
  have := hw w hm
  exact (hF.w _ (getD_mem (show w.toNat < ws.length by omega))).2
theorem weight_v {l : List Int} (hl : l.length ≤ 100) (hNl : 110 ≤ N) (hw : inW ws l) : weight_S N (ws, ts, br_) l = some (wtR ws l) := by
  have e := weight_l1_p (N := N) hF (l := l) (by omega) hw N 0 [] (by omega) (by omega) rfl
  simp only [Int.natCast_zero, List.drop_zero, List.nil_append] at e
  unfold weight_S
  rw [e]
  simp only [Option.bind_some]
  have hm := wt_mem hF hw
  rw [sum_v (m := 20) (by simp; omega) (by simp; omega) (by omega) (fun x hx => by have := hm x hx; omega)]
  rfl
theorem rweight_l1_p {l : List Int} (hl : l.length ≤ 1000) (hw : inW ws l) : ∀ (n k : Nat) (s : Int), l.length < n + k → k ≤ l.length → 0 ≤ s ∧ s ≤ 20 * k →
    rweight_l1 N n l s k ws ts br_ = some (s + ((l.drop k).map fun w => (ws.getD w.toNat (0, 0, false)).2.1).sum)
  | 0, k, s, h, _, _ => by omega
  | n + 1, k, s, h, hk, hs => by
    by_cases c : k < l.length
    · have g := gets c 0
      have hx := hw _ (getD_mem (d := 0) c)
      rw [drop_cons c 0]
      generalize l.getD k 0 = x at *
      have hm := (hF.w _ (getD_mem (d := (0, 0, false)) (show x.toNat < ws.length by omega))).2
      have g2 : ws[x.toNat]? = some (ws.getD x.toNat (0, 0, false)) := by
        simp [List.getD, show x.toNat < ws.length by omega]
      have ih := rweight_l1_p hl hw n (k + 1) (s + (ws.getD x.toNat (0, 0, false)).2.1) (by omega) (by omega) (by omega)
      rw [show ((k + 1 : Nat) : Int) = (k : Int) + 1 by omega] at ih
      rw [rweight_l1, br_dec (by omega), idx_eq (by omega) g, idx_eq hx.1 g2, chk_eq (by omega), chk_eq (by omega), ih, List.map_cons, List.sum_cons, Int.add_assoc]
    · rw [rweight_l1, br_ndec (by omega), List.drop_of_length_le (by omega)]; simp
theorem rweight_v {l : List Int} (hl : l.length ≤ 100) (hNl : 110 ≤ N) (hw : inW ws l) : rweight_S N ws ts br_ l = some (wtR ws l) := by
  have e := rweight_l1_p (N := N) hF (l := l) (by omega) hw N 0 0 (by omega) (by omega) (by omega)
  simp only [Int.natCast_zero, List.drop_zero, Int.zero_add] at e
  unfold rweight_S
  rw [e]; rfl
end
/-! ### Errors of kept words -/
def ascB : List Int → Bool
  | a :: b :: r => decide (a < b) && ascB (b :: r)
  | _ => true
def keptE (ws : List Wd) (ts : List Tn) (br_ : Int) (l : List Int) : Int :=
  if checkT ws ts br_ ≠ 0 then checkT ws ts br_ else if (l.length : Int) = 0 then 2 else if l.all (inT ws.length) = false then 1 else if ascB l = false then 4 else 0
section
variable {N : Nat} {ws : List Wd} {ts : List Tn} {br_ : Int}
theorem ixfi2_gen (h : ws.length ≤ 1000000) : ∀ (n : Nat) (s : List Int) (u u2 : Int), ixfi2_l1 N n s u u2 ws ts br_ = (ixL (fun x => some (!inT ws.length x)) n s u u2).map fun r => match r with | .inl i => .inl (i, ws, ts, br_) | .inr _ => .inr (ws, ts, br_)
  | 0, _, _, _ => rfl
  | n + 1, s, u, u2 => by
    unfold ixfi2_l1 ixL every1i2_S
    simp only [word_v h, Option.bind_some, ixfi2_gen h n]
    unfold br
    split
    · unfold idx
      split
      · cases s[u2.toNat]? with
        | none => rfl
        | some a =>
          dsimp only
          cases inT ws.length a
          · rfl
          · simp only [Bool.not_true, Bool.false_eq_true, if_false]
            unfold chk
            split <;> rfl
      · rfl
    · rfl
theorem everyi2_v (hw : ws.length ≤ 1000000) {l : List Int} (h : l.length ≤ 1000000) (hN : l.length < N) : everyi2_S N l ws ts br_ = some (l.all (inT ws.length)) := by
  unfold everyi2_S cofi2_S ixfi2_S
  rw [← every_gen (f := fun x : Int => some (inT ws.length x)) (p := inT ws.length) (s := l) (N := N) (fun x _ => rfl) h hN]
  unfold ixS
  rw [ixfi2_gen hw]
  simp only [Option.bind_some]
  cases ixL (fun x => some (!inT ws.length x)) N l l.length 0 with
  | none => rfl
  | some r => cases r <;> rfl
theorem kept_l1_p {l : List Int} (hl : l.length ≤ 1000) {d : Tx} {u : Int} (hu : u = (l.length : Int) - 1) : ∀ (n k : Nat), l.length < n + k → k < l.length → kept_l1 N n l d u k = some (if ascB (l.drop k) = true then .inr (l, d) else .inl ())
  | 0, k, h, _ => by omega
  | n + 1, k, h, hk => by
    rw [drop_cons hk 0]
    by_cases c : k + 1 < l.length
    · have ih := kept_l1_p hl (d := d) hu n (k + 1) (by omega) c
      rw [show ((k + 1 : Nat) : Int) = (k : Int) + 1 by omega] at ih
      rw [drop_cons c 0] at ih ⊢
      have g := gets hk 0
      have g1 : l[((k : Int) + 1).toNat]? = some (l.getD (k + 1) 0) := by
        have := gets c 0
        rwa [show ((k + 1 : Nat) : Int) = (k : Int) + 1 by omega] at this
      rw [kept_l1, br_dec (by omega), idx_eq (by omega) g, chk_eq (by omega), idx_eq (by omega) g1, ascB]
      by_cases e : l.getD (k + 1) 0 ≤ l.getD k 0
      · rw [br_dec e, decide_eq_false (by omega)]; rfl
      · rw [br_ndec e, chk_eq (by omega), ih, decide_eq_true (by omega), Bool.true_and]
    · rw [kept_l1, br_ndec (by omega), List.drop_of_length_le (by omega)]; rfl
theorem kept_v (hN : 110 ≤ N) (hw : ws.length ≤ 1000000) (ht : ts.length ≤ 1000000) {l : List Int} (hl : l.length ≤ 100) : kept_S N ws ts br_ l = some (if keptE ws ts br_ l = 0 then .inl ((ws, ts, br_), l, 0) else .inr (keptE ws ts br_ l)) := by
  unfold kept_S keptE
  rw [opened_v (by omega) hw ht]
  by_cases c : checkT ws ts br_ = 0
  rotate_left
  · simp only [if_neg c, if_pos c, Option.bind_some]
    rw [br_nnd c]
  simp only [c, if_true, Option.bind_some, ne_eq, not_true_eq_false, if_false]
  rw [br_nd trivial]
  by_cases c2 : (l.length : Int) = 0
  · rw [br_dec c2]; simp [c2]
  rw [br_ndec c2, if_neg c2, everyi2_v hw (by omega) (by omega)]
  simp only [Option.bind_some]
  cases c3 : l.all (inT ws.length)
  · rfl
  rw [Bool.not_true, br_false, grd_eq (by simp; omega)]
  have e := kept_l1_p (N := N) (l := l) (by omega) (d := (ws, ts, br_)) (u := ((l.drop 1).length : Int)) (by simp; omega) N 0 (by omega) (by omega)
  simp only [Int.natCast_zero, List.drop_zero] at e
  rw [e]
  cases c4 : ascB l
  · rfl
  · simp only [if_true, Option.bind_some]
    rw [grd_eq (lmI_iff.2 (by omega))]
    simp
theorem rkept_l1_p (hw : ws.length ≤ 1000000) {l : List Int} (hl : l.length ≤ 1000) : ∀ (n k : Nat), l.length < n + k → k ≤ l.length → rkept_l1 N n l k ws ts br_ = alls (inT ws.length) l k l
  | 0, k, h, _ => by omega
  | n + 1, k, h, hk => by
    unfold rkept_l1
    by_cases c : k < l.length
    · have ih := rkept_l1_p hw hl n (k + 1) (by omega) (by omega)
      rw [show ((k + 1 : Nat) : Int) = (k : Int) + 1 by omega] at ih
      have g := gets c 0
      have y := alls_yes (p := inT ws.length) (b := l) 0 c
      have no := alls_no (p := inT ws.length) (b := l) 0 c
      generalize l.getD k 0 = x at *
      rw [br_dec (by omega), idx_eq (by omega) g, chk_eq (by omega), off_v]
      simp only [Option.bind_some]
      by_cases c1 : 0 ≤ x ∧ x ≤ (ws.length : Int) - 1
      · rw [br_nd c1, chk_eq (by omega), ih, y (by simp only [inT, c1, and_self, decide_true])]
      · rw [br_nnd c1, no (by simp only [inT, c1, decide_false])]
    · rw [br_ndec (by omega), alls_end (by omega)]
theorem rkept_l2_p {l : List Int} (hl : l.length ≤ 1000) : ∀ (n k : Nat), l.length < n + k → 1 ≤ k → k ≤ l.length → rkept_l2 N n l k = some (if ascB (l.drop (k - 1)) = true then .inr () else .inl ())
  | 0, k, h, _, _ => by omega
  | n + 1, k, h, h1, hk => by
    rw [drop_cons (show k - 1 < l.length by omega) 0, show k - 1 + 1 = k by omega]
    by_cases c : k < l.length
    · have ih := rkept_l2_p hl n (k + 1) (by omega) (by omega) (by omega)
      rw [show ((k + 1 : Nat) : Int) = (k : Int) + 1 by omega, show k + 1 - 1 = k by omega] at ih
      rw [drop_cons c 0] at ih ⊢
      have g := gets c 0
      have g1 : l[((k : Int) - 1).toNat]? = some (l.getD (k - 1) 0) := by
        have := gets (l := l) (k := k - 1) (by omega) 0
        rwa [show ((k - 1 : Nat) : Int) = (k : Int) - 1 by omega] at this
      rw [rkept_l2, br_dec (by omega), chk_eq (by omega), idx_eq (by omega) g1, idx_eq (by omega) g, ascB]
      by_cases e : l.getD k 0 ≤ l.getD (k - 1) 0
      · rw [br_dec e, decide_eq_false (by omega)]; rfl
      · rw [br_ndec e, chk_eq (by omega), ih, decide_eq_true (by omega), Bool.true_and]
    · rw [rkept_l2, br_ndec (by omega), List.drop_of_length_le (by omega)]; rfl
theorem rkept_v (hN : 110 ≤ N) (hw : ws.length ≤ 1000000) (ht : ts.length ≤ 1000000) {l : List Int} (hl : l.length ≤ 100) : rkept_S N ws ts br_ l = some (keptE ws ts br_ l) := by
  unfold rkept_S keptE
  rw [rcheck_v (by omega) hw ht]
  simp only [Option.bind_some]
  by_cases c : checkT ws ts br_ = 0
  rotate_left
  · rw [br_nnd c, if_pos c]
  rw [br_nd c, if_neg (by simpa using c)]
  by_cases c2 : (l.length : Int) = 0
  · rw [br_dec c2, if_pos c2]
  have e1 := rkept_l1_p (N := N) (ts := ts) (br_ := br_) hw (l := l) (by omega) N 0 (by omega) (by omega)
  have e2 := rkept_l2_p (N := N) (l := l) (by omega) N 1 (by omega) (by omega) (by omega)
  simp only [Int.natCast_zero, Int.natCast_one, show 1 - 1 = 0 from rfl, List.drop_zero] at e1 e2
  rw [br_ndec c2, if_neg c2, e1]
  unfold alls
  rw [List.drop_zero]
  cases c3 : l.all (inT ws.length)
  · rfl
  simp only [if_true, Option.bind_some]
  rw [e2]
  cases c4 : ascB l <;> rfl
theorem kept_ok {l : List Int} (h : keptE ws ts br_ l = 0) : TFine ws ts br_ ∧ l ≠ [] ∧ inW ws l ∧ ascB l = true := by
  unfold keptE at h
  split at h
  · omega
  rename_i c
  split at h
  · omega
  rename_i c2
  split at h
  · omega
  rename_i c3
  split at h
  · omega
  rename_i c4
  refine ⟨tfine_of (by simpa using c), fun e => by subst e; simp at c2, fun w hw => ?_, by simpa using c4⟩
  rw [Bool.not_eq_false, List.all_eq_true] at c3
  have := c3 w hw
  simp only [inT, decide_eq_true_eq] at this
  omega
/-- What kept words do. -/
def keepsR (ws : List Wd) (ts : List Tn) (br_ : Int) (l : List Int) : Bool × Int × Int :=
  if keptE ws ts br_ l ≠ 0 then (false, 0, keptE ws ts br_ l) else (ts.all (keepP l), wtR ws l, 0)
theorem lkeeps_v (hN : 110 ≤ N) (hw : ws.length ≤ 1000000) (ht : ts.length ≤ 1000000) {l : List Int} (hl : l.length ≤ 100) : lkeeps_S N ws ts br_ l = some (keepsR ws ts br_ l) := by
  unfold lkeeps_S keepsR
  rw [kept_v hN hw ht hl]
  by_cases c : keptE ws ts br_ l = 0
  · obtain ⟨hF, _, h2, _⟩ := kept_ok c
    simp only [c, if_true, Option.bind_some, ne_eq, not_true_eq_false, if_false]
    rw [br_nd trivial, keeps_v hN hF hl]
    simp only [Option.bind_some]
    rw [weight_v hF hl hN h2]; rfl
  · rw [if_neg c, if_pos c]
    simp only [Option.bind_some]
    rw [br_nnd c]
theorem rkeeps_v (hN : 110 ≤ N) (hw : ws.length ≤ 1000000) (ht : ts.length ≤ 1000000) {l : List Int} (hl : l.length ≤ 100) : rkeeps_S N ws ts br_ l = some (keepsR ws ts br_ l) := by
  unfold rkeeps_S keepsR
  rw [rkept_v hN hw ht hl]
  simp only [Option.bind_some]
  by_cases c : keptE ws ts br_ l = 0
  · obtain ⟨hF, _, h2, _⟩ := kept_ok c
    obtain ⟨s, e1, _, e2⟩ := said_keep hN hF hl
    rw [br_nd c, if_neg (by simpa using c), e1]
    simp only [Option.bind_some]
    rw [rweight_v hF hl hN h2]
    simp only [Option.bind_some]
    rw [e2]
  · rw [br_nnd c, if_pos c]
end
/-! ### Prices -/
def priceN (ws : List Wd) : Int := (ws.map fun w => if 3 < w.1 then (2 : Int) else 1).sum
theorem priceN_bound (ws : List Wd) : (ws.length : Int) ≤ priceN ws ∧ priceN ws ≤ 2 * ws.length := by
  induction ws with
  | nil => simp [priceN]
  | cons a l ih =>
    unfold priceN at ih ⊢
    rw [List.map_cons, List.sum_cons, List.length_cons]
    split <;> omega
def priceR (ws : List Wd) (ts : List Tn) (br_ : Int) (p : Int) : Int × Int :=
  if checkT ws ts br_ ≠ 0 then (0, checkT ws ts br_) else if ¬ (1 ≤ p ∧ p ≤ 100) then (0, 3) else (priceN ws * p, 0)
section
variable {N : Nat} {ws : List Wd} {ts : List Tn} {br_ : Int}
theorem price_l1_p {p : Int} (hp : 1 ≤ p ∧ p ≤ 100) (hw : ws.length ≤ 1000) : ∀ (n k : Nat) (s : Int), ws.length < n + k → k ≤ ws.length → 0 ≤ s ∧ s ≤ 200 * k → price_l1 N n p s ws ws.length k = some (s + priceN (ws.drop k) * p)
  | 0, k, s, h, _, _ => by omega
  | n + 1, k, s, h, hk, hs => by
    by_cases c : k < ws.length
    · have g := gets c (0, 0, false)
      rw [drop_cons c (0, 0, false)]
      generalize ws.getD k (0, 0, false) = x at *
      have hj : ∀ s, price_j1 N (price_l1 N n) p s ws ws.length k = price_l1 N n p s ws ws.length ((k + 1 : Nat) : Int) := fun s => by
        unfold price_j1
        rw [chk_eq (by omega)]; rfl
      rw [price_l1, br_dec (by omega), idx_eq (by omega) g, chk_eq (by omega)]
      simp only [hj]
      unfold priceN
      rw [List.map_cons, List.sum_cons, Int.add_mul]
      by_cases d : 3 < x.1
      · have ih := price_l1_p hp hw n (k + 1) (s + p + p) (by omega) (by omega) (by omega)
        rw [br_dec d, chk_eq (by omega), ih, if_pos d]
        unfold priceN
        congr 1; omega
      · have ih := price_l1_p hp hw n (k + 1) (s + p) (by omega) (by omega) (by omega)
        rw [br_ndec d, ih, if_neg d]
        unfold priceN
        congr 1; omega
    · rw [price_l1, br_ndec (by omega), List.drop_of_length_le (by omega)]; simp [priceN]
theorem price_v (hN : 110 ≤ N) (hw : ws.length ≤ 1000000) (ht : ts.length ≤ 1000000) (p : Int) : price_S N ws ts br_ p = some (priceR ws ts br_ p) := by
  unfold price_S priceR
  rw [opened_v (by omega) hw ht]
  by_cases c : checkT ws ts br_ = 0
  · have hF := tfine_of c
    have hn := hF.n
    rw [if_pos c, if_neg (by simpa using c)]
    simp only [Option.bind_some]
    rw [br_nd trivial, in_v]
    simp only [Option.bind_some]
    by_cases d : 1 ≤ p ∧ p ≤ 100
    · have e := price_l1_p (N := N) (ws := ws) d (by omega) N 0 0 (by omega) (by omega) (by omega)
      simp only [Int.natCast_zero, List.drop_zero, Int.zero_add] at e
      rw [br_nd d, if_neg (by simpa using d), e]; rfl
    · rw [br_nnd d, if_pos d]
  · rw [if_neg c, if_pos c]
    simp only [Option.bind_some]
    rw [br_nnd c]
theorem rprice_l1_p {p : Int} (hw : ws.length ≤ 1000) : ∀ (n k : Nat) (s : Int), ws.length < n + k → k ≤ ws.length → 0 ≤ s ∧ s ≤ 2 * k → rprice_l1 N n p s k ws ts br_ = some (p, s + priceN (ws.drop k))
  | 0, k, s, h, _, _ => by omega
  | n + 1, k, s, h, hk, hs => by
    by_cases c : k < ws.length
    · have g := gets c (0, 0, false)
      rw [drop_cons c (0, 0, false)]
      generalize ws.getD k (0, 0, false) = x at *
      have hj : ∀ s, 0 ≤ s ∧ s ≤ 10000 → rprice_j1 N (rprice_l1 N n) p s k ws ts br_ = rprice_l1 N n p (s + 1) ((k + 1 : Nat) : Int) ws ts br_ := fun s hs => by
        unfold rprice_j1
        rw [chk_eq (by omega), chk_eq (by omega)]; rfl
      rw [rprice_l1, br_dec (by omega), idx_eq (by omega) g]
      unfold priceN
      rw [List.map_cons, List.sum_cons]
      by_cases d : 3 < x.1
      · have ih := rprice_l1_p (p := p) hw n (k + 1) (s + 1 + 1) (by omega) (by omega) (by omega)
        rw [br_dec d, chk_eq (by omega), hj _ (by omega), ih, if_pos d]
        unfold priceN
        congr 2; omega
      · have ih := rprice_l1_p (p := p) hw n (k + 1) (s + 1) (by omega) (by omega) (by omega)
        rw [br_ndec d, hj _ (by omega), ih, if_neg d]
        unfold priceN
        congr 2; omega
    · rw [rprice_l1, br_ndec (by omega), List.drop_of_length_le (by omega)]; simp [priceN]
theorem rprice_v (hN : 110 ≤ N) (hw : ws.length ≤ 1000000) (ht : ts.length ≤ 1000000) (p : Int) : rprice_S N ws ts br_ p = some (priceR ws ts br_ p) := by
  unfold rprice_S priceR
  rw [rcheck_v (by omega) hw ht]
  simp only [Option.bind_some]
  by_cases c : checkT ws ts br_ = 0
  · have hF := tfine_of c
    have hn := hF.n
    rw [br_nd c, if_neg (by simpa using c), off_v]
    simp only [Option.bind_some]
    by_cases d : 1 ≤ p ∧ p ≤ 100
    · have e := rprice_l1_p (N := N) (ws := ws) (ts := ts) (br_ := br_) (p := p) (by omega) N 0 0 (by omega) (by omega) (by omega)
      simp only [Int.natCast_zero, List.drop_zero, Int.zero_add] at e
      have hb := priceN_bound ws
      have hm : priceN ws * p ≤ 24 * 100 := Int.mul_le_mul (by omega) d.2 (by omega) (by omega)
      have h0 : 0 ≤ priceN ws * p := Int.mul_nonneg (by omega) (by omega)
      rw [br_nd d, if_neg (by simpa using d), e]
      simp only [Option.bind_some]
      rw [chk_eq (by omega)]
    · rw [br_nnd d, if_pos d]
  · rw [br_nnd c, if_pos c]
end
end Go.Proofs.Ytfamlpbdhhikdaa

namespace Go.Proofs.Ytfamlpbdhhikdaa
set_option linter.all false
open Go

theorem getN {α : Type} {l : List α} {k : Nat} (h : k < l.length) (d : α) : l[k]? = some (l.getD k d) := by simp [List.getD, h]
/-! ### Ascending lists -/
theorem asc_step : ∀ {l : List Int} (_ : ascB l = true) (i : Nat), i + 1 < l.length → l.getD i 0 < l.getD (i + 1) 0
  | [], _, i, h => by simp at h
  | [a], _, i, h => by simp at h
  | a :: b :: r, hl, i, h => by
    simp only [ascB, Bool.and_eq_true, decide_eq_true_eq] at hl
    cases i with
    | zero => simpa using hl.1
    | succ i => simpa using asc_step hl.2 i (by simpa using h)
theorem asc_get {l : List Int} (h : ascB l = true) (i : Nat) : ∀ (d : Nat), i + d < l.length → l.getD i 0 + d ≤ l.getD (i + d) 0
  | 0, _ => by simp
  | d + 1, hd => by
    have h1 := asc_get h i d (by omega)
    have h2 := asc_step h (i + d) (by omega)
    rw [show i + (d + 1) = i + d + 1 by omega]
    omega
theorem asc_lt {l : List Int} (h : ascB l = true) {i j : Nat} (hij : i < j) (hj : j < l.length) : l.getD i 0 + ((j : Int) - i) ≤ l.getD j 0 := by
  have := asc_get h i (j - i) (by omega)
  rw [show i + (j - i) = j by omega] at this
  omega
/-- Where a number would lie. -/
def posI : List Int → Int → Nat
  | [], _ => 0
  | a :: l, v => if a < v then posI l v + 1 else 0
theorem posI_lt {v : Int} : ∀ {l : List Int} {i : Nat}, i < posI l v → i < l.length ∧ l.getD i 0 < v
  | [], i, h => by simp [posI] at h
  | a :: l, i, h => by
    unfold posI at h
    split at h
    · rename_i c
      cases i with
      | zero => exact ⟨by simp, by simpa using c⟩
      | succ i =>
        have := posI_lt (v := v) (l := l) (i := i) (by omega)
        exact ⟨by simpa using this.1, by simpa using this.2⟩
    · omega
theorem posI_le {v : Int} : ∀ (l : List Int), posI l v ≤ l.length
  | [] => by simp [posI]
  | a :: l => by
    have := posI_le (v := v) l
    unfold posI
    split <;> simp <;> omega
theorem posI_at {v : Int} : ∀ {l : List Int}, posI l v < l.length → v ≤ l.getD (posI l v) 0
  | [], h => by simp at h
  | a :: l, h => by
    unfold posI at h ⊢
    split at h
    · rename_i c
      have := posI_at (v := v) (l := l) (by simpa using h)
      rw [if_pos c]
      simpa using this
    · rename_i c
      rw [if_neg c]
      simp; omega
theorem posI_uniq {v : Int} {l : List Int} {k : Nat} (hk : k ≤ l.length) (h1 : ∀ i, i < k → l.getD i 0 < v) (h2 : k < l.length → v ≤ l.getD k 0) : posI l v = k := by
  rcases Nat.lt_trichotomy (posI l v) k with h | h | h
  · have := posI_at (v := v) (l := l) (by omega)
    have := h1 _ h
    omega
  · exact h
  · have := posI_lt h
    have := h2 this.1
    omega
theorem posI_of {l : List Int} (h : ascB l = true) {i : Nat} (hi : i < l.length) : posI l (l.getD i 0) = i :=
  posI_uniq (by omega) (fun j hj => by have := asc_lt h hj hi; omega) (fun _ => by omega)
theorem contains_iff {l : List Int} (h : ascB l = true) {v : Int} : l.contains v = true ↔ posI l v < l.length ∧ l.getD (posI l v) 0 = v := by
  rw [List.contains_iff_mem]
  constructor
  · intro hm
    obtain ⟨i, hi, rfl⟩ := List.getElem_of_mem hm
    have : l[i] = l.getD i 0 := by simp [List.getD, hi]
    rw [this, posI_of h hi]
    exact ⟨hi, rfl⟩
  · rintro ⟨h1, h2⟩
    rw [← h2]; exact getD_mem h1
theorem posI_succ {l : List Int} (h : ascB l = true) (v : Int) : posI l (v + 1) = if l.contains v = true then posI l v + 1 else posI l v := by
  split
  · rename_i c
    obtain ⟨c1, c2⟩ := (contains_iff h).1 c
    refine posI_uniq (by omega) (fun i hi => ?_) (fun hl => ?_)
    · rcases Nat.lt_or_ge i (posI l v) with c3 | c3
      · have := (posI_lt c3).2; omega
      · obtain rfl : i = posI l v := by omega
        omega
    · have := asc_step h (posI l v) hl
      omega
  · rename_i c
    refine posI_uniq (posI_le l) (fun i hi => by have := (posI_lt hi).2; omega) (fun hl => ?_)
    have := posI_at hl
    rcases Int.lt_or_le v (l.getD (posI l v) 0) with c3 | c3
    · omega
    · exact absurd ((contains_iff h).2 ⟨hl, by omega⟩) c
/-- A stretch of words is kept whole just if its ends lie as far apart among the kept ones. -/
theorem stretch {l : List Int} (h : ascB l = true) {lo hi : Int} (hle : lo ≤ hi) : (wordsL lo (hi + 1)).all (fun w => l.contains w) = (l.contains lo && (l.contains hi && decide ((posI l hi : Int) - posI l lo = hi - lo))) := by
  rw [Bool.eq_iff_iff]
  simp only [Bool.and_eq_true, decide_eq_true_eq, List.all_eq_true, mem_wordsL]
  constructor
  · intro ha
    have key : ∀ (d : Nat), lo + d ≤ hi → posI l (lo + d) = posI l lo + d := by
      intro d
      induction d with
      | zero => intro _; simp
      | succ d ih =>
        intro hd
        have e := posI_succ h (lo + d)
        rw [if_pos (ha _ (by omega)), ih (by omega), show lo + (d : Int) + 1 = lo + ((d + 1 : Nat) : Int) by omega] at e
        rw [e]; omega
    refine ⟨ha _ (by omega), ha _ (by omega), ?_⟩
    have := key (hi - lo).toNat (by omega)
    rw [show lo + ((hi - lo).toNat : Int) = hi by omega] at this
    omega
  · rintro ⟨h1, h2, h3⟩ w ⟨hw1, hw2⟩
    obtain ⟨a1, a2⟩ := (contains_iff h).1 h1
    obtain ⟨b1, b2⟩ := (contains_iff h).1 h2
    rw [List.contains_iff_mem]
    have hi' : posI l lo + (w - lo).toNat < l.length := by omega
    have := asc_get h (posI l lo) (w - lo).toNat hi'
    have hj := asc_get h (posI l lo + (w - lo).toNat) (hi - w).toNat (by omega)
    rw [show posI l lo + (w - lo).toNat + (hi - w).toNat = posI l hi by omega, b2] at hj
    rw [a2] at this
    rw [show w = l.getD (posI l lo + (w - lo).toNat) 0 by omega]
    exact getD_mem hi'
/-! ### The binary search -/
theorem mid_v {i j : Nat} (h : i + j ≤ 100000) : IntKind.i64.wrap (Int.fdiv (IntKind.u64.wrap ((i : Int) + j)) (2 ^ 1)) = (((i + j) / 2 : Nat) : Int) := by
  rw [IntWalk.u64_in _ (by omega)]
  have : Int.fdiv ((i : Int) + j) (2 ^ 1) = (((i + j) / 2 : Nat) : Int) := by
    rw [Int.fdiv_eq_ediv_of_nonneg _ (by decide)]
    omega
  rw [this, IntWalk.i64_in _ (by omega)]
theorem less_v (N : Nat) (x y : Int) : less_S N x y = some (decide (x < y)) := by
  unfold less_S isnan1_S
  simp only [Option.bind_some]
  rw [br_nd trivial]
theorem bins_l1_p {N : Nat} {l : List Int} (h : ascB l = true) (hl : l.length ≤ 1000) {v c : Int} : ∀ (n i j : Nat), j - i < n → i ≤ posI l v → posI l v ≤ j → j ≤ l.length → bins_l1 N n l v c i j = some (l, v, c, (posI l v : Int))
  | 0, i, j, hn, _, _, _ => by omega
  | n + 1, i, j, hn, h1, h2, h3 => by
    unfold bins_l1
    by_cases d : i < j
    · have hm := mid_v (i := i) (j := j) (by omega)
      have hk : (i + j) / 2 < l.length := by omega
      have hk2 : (i + j) / 2 < j := by omega
      have hk3 : i ≤ (i + j) / 2 := by omega
      rw [br_dec (by omega), chk_eq (by omega), hm]
      generalize (i + j) / 2 = m at *
      rw [idx_eq (by omega) (gets hk 0), less_v]
      simp only [Option.bind_some]
      by_cases e : l.getD m 0 < v
      · have : m < posI l v := by
          rcases Nat.lt_or_ge m (posI l v) with c | c
          · exact c
          · have p := posI_at (v := v) (l := l) (by omega)
            rcases Nat.lt_or_ge (posI l v) m with c2 | c2
            · have := asc_lt h c2 hk; omega
            · obtain rfl : m = posI l v := by omega
              omega
        have ih := bins_l1_p (N := N) h hl (v := v) (c := c) n (m + 1) j (by omega) (by omega) h2 h3
        rw [show ((m + 1 : Nat) : Int) = (m : Int) + 1 by omega] at ih
        rw [br_dec e, chk_eq (by omega), ih]
      · have : posI l v ≤ m := by
          rcases Nat.lt_or_ge m (posI l v) with c | c
          · have := (posI_lt c).2; omega
          · exact c
        rw [br_ndec e, bins_l1_p h hl n i m (by omega) h1 this (by omega)]
    · rw [br_ndec (by omega), show i = posI l v by omega]
theorem bins_v {N : Nat} {l : List Int} (h : ascB l = true) (hl : l.length ≤ 1000) (hN : l.length < N) (v : Int) : bins_S N l v = some ((posI l v : Int), l.contains v) := by
  have e := bins_l1_p (N := N) h hl (v := v) (c := l.length) N 0 l.length (by omega) (by omega) (posI_le l) (Nat.le_refl _)
  unfold bins_S
  simp only [Int.natCast_zero] at e
  rw [e]
  simp only [Option.bind_some]
  by_cases c : posI l v < l.length
  · rw [br_dec (by omega), idx_eq (by omega) (gets c 0)]
    by_cases d : l.getD (posI l v) 0 = v
    · rw [br_dec d, (contains_iff h).2 ⟨c, d⟩]
    · rw [br_ndec d, idx_eq (by omega) (gets c 0)]
      unfold isnan2_S
      simp only [Option.bind_some]
      rw [br_nd trivial]
      have : l.contains v = false := by
        rw [← Bool.not_eq_true]
        exact fun hc => d ((contains_iff h).1 hc).2
      rw [this]
  · rw [br_ndec (by omega)]
    have : l.contains v = false := by
      rw [← Bool.not_eq_true]
      exact fun hc => c ((contains_iff h).1 hc).1
    rw [this]
/-! ### Kept words -/
def shS (ws : List Wd) (a e : Nat) : Bool := ((ws.take e).drop a).any (·.2.2)
def shW (ws : List Wd) : List Int → Int → List Wd
  | [], _ => []
  | a :: r, e => ((ws.getD a.toNat (0, 0, false)).1, (ws.getD a.toNat (0, 0, false)).2.1, shS ws a.toNat (r.headD e).toNat) :: shW ws r e
theorem shW_len (ws : List Wd) (e : Int) : ∀ l : List Int, (shW ws l e).length = l.length
  | [] => rfl
  | a :: r => by simp [shW, shW_len ws e r]
theorem shW_append (ws : List Wd) (a e : Int) : ∀ l : List Int, shW ws (l ++ [a]) e = shW ws l a ++ [((ws.getD a.toNat (0, 0, false)).1, (ws.getD a.toNat (0, 0, false)).2.1, shS ws a.toNat e.toNat)]
  | [] => by simp [shW]
  | b :: r => by
    rw [List.cons_append, shW, shW_append ws a e r, shW, List.cons_append]
    cases r <;> rfl
theorem shS_succ {ws : List Wd} {a w : Nat} (h : a ≤ w) (hw : w < ws.length) : shS ws a (w + 1) = (shS ws a w || (ws.getD w (0, 0, false)).2.2) := by
  unfold shS
  rw [take_succ' hw (0, 0, false), List.drop_append_of_le_length (by rw [List.length_take]; omega), List.any_append]
  simp
theorem shS_self (ws : List Wd) (a : Nat) : shS ws a a = false := by
  unfold shS
  rw [List.drop_of_length_le (by rw [List.length_take]; omega)]; rfl
theorem ixfsw_gen (N : Nat) : ∀ (n : Nat) (l : List Wd) (u u2 : Int), ixfsw_l1 N n l u u2 = ixL (fun x => shorter1_S N x.1 x.2.1 x.2.2) n l u u2
  | 0, _, _, _ => rfl
  | n + 1, l, u, u2 => by unfold ixfsw_l1 ixL; simp only [ixfsw_gen N n]
theorem cofsw_v {N : Nat} {u : List Wd} (hu : u.length ≤ 1000) (hN : u.length < N) : cofsw_S N u = some (u.any (·.2.2)) := by
  have h := ixS_any (f := fun x : Wd => shorter1_S N x.1 x.2.1 x.2.2) (p := fun x => x.2.2) (s := u) (N := N) (fun x _ => rfl) (by omega) hN
  unfold cofsw_S ixfsw_S
  unfold ixS at h
  rw [ixfsw_gen]
  exact h
section
variable {N : Nat} {ws : List Wd} {ts : List Tn} {br_ : Int}
variable (hN : 110 ≤ N) (hF : TFine ws ts br_)
include hN hF
theorem shorter_l1_p {l : List Int} (h : ascB l = true) (hl : l.length ≤ 100) (hw : inW ws l) {g o : Int} : ∀ (n k : Nat) (acc : List Wd), l.length < n + k → k ≤ l.length → acc.length = k →
    shorter_l1 N n (ws, ts, br_) l l l.length k ws ts br_ g o acc = some (l, ws, ts, br_, g, o, acc ++ shW ws (l.drop k) ws.length)
  | 0, k, acc, hn, hk, ha => by omega
  | n + 1, k, acc, hn, hk, ha => by
    have hn' := hF.n
    unfold shorter_l1
    by_cases c : k < l.length
    · have g1 := gets c 0
      have hx := hw _ (getD_mem (d := 0) c)
      have hj : ∀ (e : Nat), (l.getD k 0).toNat ≤ e → e ≤ ws.length → e = ((l.drop (k + 1)).headD (ws.length : Int)).toNat → shorter_j1 N (shorter_l1 N n) (ws, ts, br_) l (l.getD k 0) (e : Int) l l.length k ws ts br_ g o (ws.getD (l.getD k 0).toNat (0, 0, false)).1 (ws.getD (l.getD k 0).toNat (0, 0, false)).2.1 (ws.getD (l.getD k 0).toNat (0, 0, false)).2.2 acc = some (l, ws, ts, br_, g, o, acc ++ shW ws (l.drop k) ws.length) := by
        intro e he1 he2 he3
        have ih := shorter_l1_p h hl hw (g := g) (o := o) n (k + 1) (acc ++ [((ws.getD (l.getD k 0).toNat (0, 0, false)).1, (ws.getD (l.getD k 0).toNat (0, 0, false)).2.1, shS ws (l.getD k 0).toNat e)]) (by omega) (by omega) (by simp [ha])
        rw [show ((k + 1 : Nat) : Int) = (k : Int) + 1 by omega] at ih
        unfold shorter_j1
        rw [grd_eq (by simp only [decide_eq_true_eq]; omega), cofsw_v (by simp; omega) (by simp; omega)]
        simp only [Option.bind_some]
        rw [lim_eq (by simp; omega), chk_eq (by omega)]
        unfold shS at ih
        simp only [Int.toNat_natCast]
        rw [ih, drop_cons c 0, shW, ← he3]
        simp [shS]
      have g2 : ws[(l.getD k 0).toNat]? = some (ws.getD (l.getD k 0).toNat (0, 0, false)) := getN (by omega) _
      rw [br_dec (by omega), idx_eq (by omega) g1, idx_eq (l := ws) hx.1 g2]
      unfold end__S
      simp only [Option.bind_some]
      rw [chk_eq (by omega)]
      by_cases d : k + 1 < l.length
      · have g3 : l[((k : Int) + 1).toNat]? = some (l.getD (k + 1) 0) := by
          have := gets d 0
          rwa [show ((k + 1 : Nat) : Int) = (k : Int) + 1 by omega] at this
        have hy := hw _ (getD_mem (d := 0) d)
        have hs := asc_step h k d
        have := hj (l.getD (k + 1) 0).toNat (by omega) (by omega) (by rw [drop_cons d 0]; rfl)
        rw [show (((l.getD (k + 1) 0).toNat : Nat) : Int) = l.getD (k + 1) 0 by omega] at this
        rw [br_dec (by omega), chk_eq (by omega), idx_eq (by omega) g3, this]
      · have := hj ws.length (by omega) (by omega) (by rw [List.drop_of_length_le (by omega)]; simp)
        rw [br_ndec (by omega), this]
    · rw [br_ndec (by omega), List.drop_of_length_le (by omega)]; simp [shW]
omit hN hF
/-- A turn that is kept. -/
def trV (l : List Int) (x : Tn) : Option Tn := if (l.contains x.1 && (wordsL x.2.1 (x.2.2 + 1)).all fun w => l.contains w) = true then some ((posI l x.1 : Int), (posI l x.2.1 : Int), (posI l x.2.2 : Int)) else none
theorem filterMap_len {f : Tn → Option Tn} : ∀ l : List Tn, (l.filterMap f).length ≤ l.length
  | [] => by simp
  | a :: l => by
    have := filterMap_len (f := f) l
    rw [List.filterMap_cons]
    split <;> simp <;> omega
include hN hF
theorem shorter_l2_p {l : List Int} (h : ascB l = true) (hl : l.length ≤ 100) {g o : Int} {O : List Wd} : ∀ (n k : Nat) (acc : List Tn), ts.length < n + k → k ≤ ts.length → acc.length ≤ k →
    shorter_l2 N n l ts ts.length k g o O acc = some (g, o, O, acc ++ (ts.drop k).filterMap (trV l))
  | 0, k, acc, hn, hk, ha => by omega
  | n + 1, k, acc, hn, hk, ha => by
    have ht := hF.t; have hnn := hF.n
    unfold shorter_l2
    by_cases c : k < ts.length
    · have g1 := gets c (0, 0, 0)
      have hx := hF.x _ (getD_mem (d := (0, 0, 0)) c)
      rw [drop_cons c (0, 0, 0)]
      generalize ts.getD k (0, 0, 0) = x at *
      have p1 := posI_le (v := x.1) l
      have p2 := posI_le (v := x.2.1) l
      have p3 := posI_le (v := x.2.2) l
      have hj : ∀ acc : List Tn, acc.length ≤ k + 1 → shorter_j2 N (shorter_l2 N n) l ts ts.length k g o O acc = some (g, o, O, acc ++ (ts.drop (k + 1)).filterMap (trV l)) := by
        intro acc ha
        have ih := shorter_l2_p h hl (g := g) (o := o) (O := O) n (k + 1) acc (by omega) (by omega) ha
        rw [show ((k + 1 : Nat) : Int) = (k : Int) + 1 by omega] at ih
        unfold shorter_j2
        rw [chk_eq (by omega), ih]
      rw [br_dec (by omega), idx_eq (by omega) g1, bins_v h (by omega) (by omega), bins_v h (by omega) (by omega), bins_v h (by omega) (by omega)]
      simp only [Option.bind_some]
      have et : trV l x = if (l.contains x.1 && (l.contains x.2.1 && (l.contains x.2.2 && decide ((posI l x.2.2 : Int) - posI l x.2.1 = x.2.2 - x.2.1)))) = true then some ((posI l x.1 : Int), (posI l x.2.1 : Int), (posI l x.2.2 : Int)) else none := by
        unfold trV
        rw [stretch h (by omega)]
      rw [List.filterMap_cons, et]
      cases l.contains x.1
      · rw [br_false, hj acc (by omega)]; rfl
      cases l.contains x.2.1
      · rw [br_true, br_false, hj acc (by omega)]; rfl
      cases l.contains x.2.2
      · rw [br_true, br_true, br_false, hj acc (by omega)]; rfl
      rw [br_true, br_true, br_true, chk_eq (by omega), chk_eq (by omega)]
      by_cases d : (posI l x.2.2 : Int) - posI l x.2.1 = x.2.2 - x.2.1
      · rw [br_dec d, lim_eq (by simp; omega), hj _ (by simp; omega), decide_eq_true d]
        simp
      · rw [br_ndec d, hj acc (by omega), decide_eq_false d]; rfl
    · rw [br_ndec (by omega), List.drop_of_length_le (by omega)]; simp
omit hN hF
def shR (ws : List Wd) (ts : List Tn) (br_ : Int) (l : List Int) : Int × Int × List Wd × List Tn :=
  if keptE ws ts br_ l ≠ 0 then (0, keptE ws ts br_ l, [], []) else if ts.all (keepP l) = true then (br_, 0, shW ws l ws.length, ts.filterMap (trV l)) else (0, 8, [], [])
theorem shorter_v (hN : 110 ≤ N) (hw : ws.length ≤ 1000000) (ht : ts.length ≤ 1000000) {l : List Int} (hl : l.length ≤ 100) : shorter_S N ws ts br_ l = some (shR ws ts br_ l) := by
  unfold shorter_S shR
  rw [kept_v hN hw ht hl]
  by_cases c : keptE ws ts br_ l = 0
  · obtain ⟨hF, _, h2, h3⟩ := kept_ok c
    have ht := hF.t
    simp only [c, if_true, Option.bind_some, ne_eq, not_true_eq_false, if_false]
    rw [br_nd (by first | trivial | rfl), keeps_v hN hF hl]
    simp only [Option.bind_some]
    cases ts.all (keepP l)
    · rfl
    have e1 := shorter_l1_p hN hF h3 hl h2 (g := 0) (o := br_) N 0 [] (by omega) (by omega) rfl
    have e2 := shorter_l2_p hN hF h3 hl (g := 0) (o := br_) (O := shW ws l ws.length) N 0 [] (by omega) (by omega) (by simp)
    simp only [Int.natCast_zero, List.drop_zero, List.nil_append] at e1 e2
    rw [Bool.not_true, br_false, e1]
    simp only [Option.bind_some]
    rw [e2]; rfl
  · rw [if_neg c, if_pos c]
    simp only [Option.bind_some]
    rw [br_nnd c]
/-! ### The reference -/
def nowV (l : List Int) (v : Int) : Int := if l.contains v = true then (posI l v : Int) else -1
def nowL (l : List Int) (m w : Nat) : List Int := (List.range m).map fun v => if v < w then nowV l v else 0
theorem nowL_len (l : List Int) (m w : Nat) : (nowL l m w).length = m := by simp [nowL]
theorem nowL_set (l : List Int) {m w : Nat} (h : w < m) : (nowL l m w).set w (nowV l w) = nowL l m (w + 1) := by
  refine List.ext_getElem (by simp [nowL]) fun i h1 h2 => ?_
  rw [List.getElem_set]
  simp only [nowL, List.getElem_map, List.getElem_range]
  by_cases c : w = i
  · subst c; simp
  · rw [if_neg c]
    by_cases d : i < w
    · rw [if_pos d, if_pos (by omega)]
    · rw [if_neg d, if_neg (by omega)]
theorem nowL_get (l : List Int) {m i : Nat} (h : i < m) : (nowL l m m).getD i 0 = nowV l i := by
  simp [List.getD, nowL, h]
theorem nowV_pos (l : List Int) (v : Int) : decide (0 ≤ nowV l v) = l.contains v := by
  unfold nowV
  cases l.contains v
  · rfl
  · simp
theorem set_last {α : Type} (l : List α) (a b : α) : ∀ k, l.length = k → (l ++ [a]).set k b = l ++ [b] := by
  rintro k rfl
  simp
include hN hF
theorem rshorter_l1_p {l : List Int} (h : ascB l = true) (hl : l.length ≤ 100) (hw : inW ws l) {g o : Int} : ∀ (n w : Nat), ws.length < n + w → w ≤ ws.length →
    rshorter_l1 N n l ((posI l w : Int) - 1) w ws ts br_ g o (nowL l ws.length w) (shW ws (l.take (posI l w)) w) = some (ws, ts, br_, g, o, nowL l ws.length ws.length, shW ws (l.take (posI l ws.length)) ws.length)
  | 0, w, hn, hk => by omega
  | n + 1, w, hn, hk => by
    have hn' := hF.n
    have hp := posI_le (v := w) l
    unfold rshorter_l1
    by_cases c : w < ws.length
    · have ih := rshorter_l1_p h hl hw (g := g) (o := o) n (w + 1) (by omega) (by omega)
      have hs := posI_succ h w
      have hset := nowL_set l c
      have g1 := gets c (0, 0, false)
      rw [show ((w + 1 : Nat) : Int) = (w : Int) + 1 by omega] at ih
      rw [br_dec (by omega), rng_eq (by rw [nowL_len]; omega), get_get 0 (by rw [nowL_len]; omega), has_v (by omega) (by omega)]
      simp only [Option.bind_some, Int.toNat_natCast]
      unfold nowV at hset
      cases hc : l.contains (w : Int)
      · rw [hc, if_neg (by simp)] at hs hset
        rw [br_false, hset]
        rw [hs] at ih
        have hj : ∀ O, O = shW ws (l.take (posI l w)) ((w : Int) + 1) → rshorter_j1 N (rshorter_l1 N n) l ((posI l w : Int) - 1) w ws ts br_ g o (nowL l ws.length (w + 1)) O = some (ws, ts, br_, g, o, nowL l ws.length ws.length, shW ws (l.take (posI l ws.length)) ws.length) := by
          rintro O rfl
          unfold rshorter_j1
          rw [chk_eq (by omega), ih]
        by_cases d : posI l w = 0
        · rw [br_ndec (by omega), hj]
          rw [d]; rfl
        · have hk : posI l w - 1 < l.length := by omega
          have ha := (posI_lt (l := l) (v := w) (i := posI l w - 1) (by omega)).2
          have ha0 := hw _ (getD_mem (d := 0) hk)
          have et : l.take (posI l w) = l.take (posI l w - 1) ++ [l.getD (posI l w - 1) 0] := by
            rw [← take_succ' hk 0, show posI l w - 1 + 1 = posI l w by omega]
          have es := shS_succ (ws := ws) (a := (l.getD (posI l w - 1) 0).toNat) (w := w) (by omega) c
          rw [br_dec (by omega), idx_eq (by omega) g1]
          rw [et, shW_append, show ((w : Int) + 1).toNat = w + 1 by omega] at hj
          rw [et, shW_append]
          simp only [Int.toNat_natCast]
          cases hst : (ws.getD w (0, 0, false)).2.2
          · rw [hst, Bool.or_false] at es
            rw [es] at hj
            rw [br_false, hj _ rfl]
          · rw [hst, Bool.or_true] at es
            rw [es] at hj
            have e2 : ((posI l w : Int) - 1).toNat = (shW ws (l.take (posI l w - 1)) (l.getD (posI l w - 1) 0)).length := by
              rw [shW_len, List.length_take]; omega
            rw [br_true, rng_eq (by rw [List.length_append, shW_len, List.length_take, List.length_singleton]; omega), get_get (0, 0, false) (by rw [e2]; simp), e2, set_last _ _ _ _ rfl, hj]
            simp [List.getD]
      · rw [hc, if_pos rfl] at hs hset
        rw [hs] at ih
        obtain ⟨b1, b2⟩ := (contains_iff h).1 hc
        have eo : shW ws (l.take (posI l w + 1)) ((w : Int) + 1) = shW ws (l.take (posI l w)) w ++ [((ws.getD w (0, 0, false)).1, (ws.getD w (0, 0, false)).2.1, (ws.getD w (0, 0, false)).2.2)] := by
          rw [take_succ' b1 0, b2, shW_append, show ((w : Int) + 1).toNat = w + 1 by omega, Int.toNat_natCast, shS_succ (Nat.le_refl _) c, shS_self, Bool.false_or]
        rw [br_true, chk_eq (by omega), rng_eq (by rw [List.length_set, nowL_len]; omega), get_get 0 (by rw [List.length_set, nowL_len]; omega), idx_eq (by omega) g1,
          lim_eq (by rw [shW_len, List.length_take]; simp; omega), List.set_set, show (posI l w : Int) - 1 + 1 = posI l w by omega, hset]
        unfold rshorter_j1
        rw [chk_eq (by omega), ← eo]
        rw [show ((posI l w + 1 : Nat) : Int) - 1 = posI l w by omega] at ih
        exact ih
    · obtain rfl : w = ws.length := by omega
      rw [br_ndec (by omega)]
theorem rshorter_l3_p {l : List Int} {i g o : Int} {x : Tn} (hx : 0 ≤ x.2.1 ∧ x.2.2 < ws.length) {O : List Wd} {O2 : List Tn} : ∀ (n : Nat) (w : Int) (all : Bool), (x.2.2 + 1 - w).toNat < n → x.2.1 ≤ w →
    rshorter_l3 N n i all w ws ts br_ g o (nowL l ws.length ws.length) x.1 x.2.1 x.2.2 O O2 = some (i, (all && (wordsL w (x.2.2 + 1)).all fun w => l.contains w), ws, ts, br_, g, o, nowL l ws.length ws.length, x.1, x.2.1, x.2.2, O, O2)
  | 0, w, _, h, _ => by omega
  | n + 1, w, all, h, h1 => by
    have hn' := hF.n
    unfold rshorter_l3
    by_cases c : w ≤ x.2.2
    · have e : wordsL w (x.2.2 + 1) = w :: wordsL (w + 1) (x.2.2 + 1) := by
        unfold wordsL
        rw [show (x.2.2 + 1 - w).toNat = (x.2.2 + 1 - (w + 1)).toNat + 1 by omega, List.range_succ_eq_map, List.map_cons, List.map_map]
        congr 1
        · simp
        · refine List.map_congr_left fun i _ => ?_
          simp only [Function.comp]; omega
      have ih := fun all => rshorter_l3_p (l := l) (i := i) (g := g) (o := o) hx (O := O) (O2 := O2) n (w + 1) all (by omega) (by omega)
      rw [e, List.all_cons, br_dec c]
      cases all
      · rw [br_false, chk_eq (by omega), ih]; rfl
      · rw [br_true, rng_eq (by rw [nowL_len]; omega), get_get 0 (by rw [nowL_len]; omega), chk_eq (by omega), ih, nowL_get l (by omega), nowV_pos, show ((w.toNat : Nat) : Int) = w by omega]; rfl
    · rw [br_ndec c]
      have : wordsL w (x.2.2 + 1) = [] := by unfold wordsL; rw [show (x.2.2 + 1 - w).toNat = 0 by omega]; rfl
      rw [this]; simp
theorem rshorter_l2_p {l : List Int} (hl : l.length ≤ 100) {g o : Int} {O : List Wd} : ∀ (n k : Nat) (acc : List Tn), ts.length < n + k → k ≤ ts.length → acc.length ≤ k →
    rshorter_l2 N n k ws ts br_ g o (nowL l ws.length ws.length) O acc = some (g, o, O, acc ++ (ts.drop k).filterMap (trV l))
  | 0, k, acc, hn, hk, ha => by omega
  | n + 1, k, acc, hn, hk, ha => by
    have ht := hF.t; have hn' := hF.n
    unfold rshorter_l2
    by_cases c : k < ts.length
    · have g1 := gets c (0, 0, 0)
      have hx := hF.x _ (getD_mem (d := (0, 0, 0)) c)
      rw [drop_cons c (0, 0, 0)]
      generalize ts.getD k (0, 0, 0) = x at *
      have hj : ∀ acc : List Tn, acc.length ≤ k + 1 → rshorter_j2 N (rshorter_l2 N n) k ws ts br_ g o (nowL l ws.length ws.length) O acc = some (g, o, O, acc ++ (ts.drop (k + 1)).filterMap (trV l)) := by
        intro acc ha
        have ih := rshorter_l2_p hl (g := g) (o := o) (O := O) n (k + 1) acc (by omega) (by omega) ha
        rw [show ((k + 1 : Nat) : Int) = (k : Int) + 1 by omega] at ih
        unfold rshorter_j2
        rw [chk_eq (by omega), ih]
      rw [br_dec (by omega), idx_eq (by omega) g1, rng_eq (by rw [nowL_len]; omega), get_get 0 (by rw [nowL_len]; omega), rshorter_l3_p hN hF (by omega) N _ _ (by omega) (by omega)]
      simp only [Option.bind_some]
      have hv : ∀ v : Int, 0 ≤ v → v < ws.length → (nowL l ws.length ws.length).getD v.toNat 0 = nowV l v := fun v h1 h2 => by
        rw [nowL_get l (by omega), show ((v.toNat : Nat) : Int) = v by omega]
      rw [hv x.1 (by omega) (by omega), nowV_pos, List.filterMap_cons]
      cases hc : (l.contains x.1 && (wordsL x.2.1 (x.2.2 + 1)).all fun w => l.contains w)
      · rw [br_false, hj acc (by omega)]
        unfold trV
        rw [hc]; rfl
      · have hc' := hc
        rw [Bool.and_eq_true, List.all_eq_true] at hc'
        have c1 := hc'.1
        have c2 := hc'.2 x.2.1 (mem_wordsL.2 (by omega))
        have c3 := hc'.2 x.2.2 (mem_wordsL.2 (by omega))
        rw [br_true, rng_eq (by rw [nowL_len]; omega), get_get 0 (by rw [nowL_len]; omega), rng_eq (by rw [nowL_len]; omega), get_get 0 (by rw [nowL_len]; omega), rng_eq (by rw [nowL_len]; omega), get_get 0 (by rw [nowL_len]; omega),
          lim_eq (by simp; omega), hv x.1 (by omega) (by omega), hv x.2.1 (by omega) (by omega), hv x.2.2 (by omega) (by omega), hj _ (by simp; omega)]
        unfold nowV
        rw [if_pos c1, if_pos c2, if_pos c3]
        have : trV l x = some ((posI l x.1 : Int), (posI l x.2.1 : Int), (posI l x.2.2 : Int)) := by unfold trV; rw [hc]; rfl
        rw [this]; simp
    · rw [br_ndec (by omega), List.drop_of_length_le (by omega)]; simp
omit hN hF
theorem rshorter_v (hN : 110 ≤ N) (hw : ws.length ≤ 1000000) (ht : ts.length ≤ 1000000) {l : List Int} (hl : l.length ≤ 100) : rshorter_S N ws ts br_ l = some ((shR ws ts br_ l).2.2.1, (shR ws ts br_ l).2.2.2, (shR ws ts br_ l).1, (shR ws ts br_ l).2.1) := by
  unfold rshorter_S shR
  rw [rkeeps_v hN hw ht hl]
  unfold keepsR
  by_cases c : keptE ws ts br_ l = 0
  · obtain ⟨hF, _, h2, h3⟩ := kept_ok c
    have ht := hF.t; have hn := hF.n
    simp only [c, Option.bind_some, ne_eq, not_true_eq_false, if_false]
    rw [br_nd (by first | trivial | rfl)]
    cases ts.all (keepP l)
    · rfl
    have p0 : posI l 0 = 0 := posI_uniq (by omega) (fun i hi => by omega) (fun hl => (h2 _ (getD_mem hl)).1)
    have p1 : posI l (ws.length : Int) = l.length := posI_uniq (by omega) (fun i hi => (h2 _ (getD_mem hi)).2) (fun h => by omega)
    have e1 := rshorter_l1_p hN hF h3 hl h2 (g := 0) (o := br_) N 0 (by omega) (by omega)
    have e2 := rshorter_l2_p hN hF (l := l) hl (g := 0) (o := br_) (O := shW ws l ws.length) N 0 [] (by omega) (by omega) (by simp)
    have r0 : nowL l ws.length 0 = List.replicate ws.length 0 := by
      refine List.ext_getElem (by simp [nowL]) fun i h1 h2 => ?_
      simp [nowL]
    simp only [Int.natCast_zero, List.drop_zero, List.nil_append, p0, p1, List.take_zero, List.take_length, r0, shW] at e1 e2
    rw [Bool.not_true, br_false, grd_eq (lmI_iff.2 (by omega)), Int.toNat_natCast]
    rw [show (0 : Int) - 1 = -1 from rfl] at e1
    rw [e1]
    simp only [Option.bind_some]
    rw [e2]; rfl
  · rw [if_pos c, if_pos c]
    simp only [Option.bind_some]
    rw [br_nnd c]
theorem shR_len (l : List Int) (ht : ts.length ≤ 1000) : (shR ws ts br_ l).2.2.1.length ≤ l.length ∧ (shR ws ts br_ l).2.2.2.length ≤ 1000 := by
  unfold shR
  have := filterMap_len (f := trV l) ts
  split
  · simp
  split
  · exact ⟨by simp only [shW_len]; omega, by simp only; omega⟩
  · simp
end
/-! ### The statement -/
section
variable {N : Nat}
theorem tshorter_l1_p {kept l : List Int} {pence : Int} {t : List Wd} {t2 : List Tn} {t3 : Int} {own : List Wd} {own2 : List Tn} {own3 : Int} {x : List Wd} {x2 : List Tn} {x3 o : Int} {want2 : List Tn} {want3 : Int} {out2 : List Tn} {G : List Wd} (hG : G.length ≤ 1000) : ∀ (n k : Nat), G.length < n + k → k ≤ G.length →
    tshorter_l1 N n kept pence l G.length k t t2 t3 own own2 own3 x x2 x3 o G want2 want3 G out2 = some (.inr (kept, pence, l, t, t2, t3, own, own2, own3, x, x2, x3, o, G, want2, want3, G, out2))
  | 0, k, h, hk => by omega
  | n + 1, k, h, hk => by
    unfold tshorter_l1
    by_cases c : k < G.length
    · have ih := tshorter_l1_p (kept := kept) (l := l) (pence := pence) (t := t) (t2 := t2) (t3 := t3) (own := own) (own2 := own2) (own3 := own3) (x := x) (x2 := x2) (x3 := x3) (o := o) (want2 := want2) (want3 := want3) (out2 := out2) hG n (k + 1) (by omega) (by omega)
      rw [show ((k + 1 : Nat) : Int) = (k : Int) + 1 by omega] at ih
      rw [br_dec (by omega), rng_eq (by omega), get_get (0, 0, false) (by omega), idx_eq (by omega) (gets c (0, 0, false)), Int.toNat_natCast]
      simp only [decide_true, beq_self_eq_true, Bool.and_true, Bool.not_true]
      rw [br_false, chk_eq (by omega), ih]
    · rw [br_ndec (by omega)]
theorem tshorter_l2_p {kept l : List Int} {pence : Int} {t : List Wd} {t2 : List Tn} {t3 : Int} {own : List Wd} {own2 : List Tn} {own3 : Int} {x : List Wd} {x2 : List Tn} {x3 o : Int} {want : List Wd} {want3 : Int} {out2 : List Wd} {G : List Tn} (hG : G.length ≤ 1000) : ∀ (n k : Nat), G.length < n + k → k ≤ G.length →
    tshorter_l2 N n kept pence l G.length k t t2 t3 own own2 own3 x x2 x3 o want G want3 G out2 = some (.inr (kept, pence, l, t, t2, t3, own, own2, own3, x, x2, x3, o, out2, G))
  | 0, k, h, hk => by omega
  | n + 1, k, h, hk => by
    unfold tshorter_l2
    by_cases c : k < G.length
    · have ih := tshorter_l2_p (kept := kept) (l := l) (pence := pence) (t := t) (t2 := t2) (t3 := t3) (own := own) (own2 := own2) (own3 := own3) (x := x) (x2 := x2) (x3 := x3) (o := o) (want := want) (want3 := want3) (out2 := out2) hG n (k + 1) (by omega) (by omega)
      rw [show ((k + 1 : Nat) : Int) = (k : Int) + 1 by omega] at ih
      rw [br_dec (by omega), rng_eq (by omega), get_get (0, 0, 0) (by omega), idx_eq (by omega) (gets c (0, 0, 0)), Int.toNat_natCast]
      simp only [decide_true, Bool.and_true, Bool.not_true]
      rw [br_false, chk_eq (by omega), ih]
    · rw [br_ndec (by omega)]
end
theorem tshorter_true {ws : List Wd} {ts : List Tn} {br_ p : Int} {l : List Int} (h0 : Ty.inB TextT (ws, ts, br_)) (h1 : Ty.inB (.sl (.int .i64)) l) (h2 : Ty.inB (.int .i64) p) : tshorter_S 1100 ws ts br_ l p = some true := by
  unfold tshorter_S
  have aw : ((awake_S 1100).bind fun x => some x) = some true := by rw [awake_v]; rfl
  rcases great_v (N := 1100) (ws := ws) (ts := ts) (br_ := br_) 20 with e | ⟨e, hw, ht, _⟩ <;> rw [e] <;> simp only [Option.bind_some]
  · rw [br_true]; exact aw
  rw [br_false]
  by_cases c : 20 < (l.length : Int)
  · rw [br_dec c]; exact aw
  rw [br_ndec c, copyx_v (by omega) (by omega)]
  simp only [Option.bind_some]
  rw [theirs_v (by omega) (by omega) (by omega) (by omega), copyi_v (by omega)]
  simp only [Option.bind_some]
  rw [lkeeps_v (by omega) (by omega) (by omega) (by omega), rkeeps_v (by omega) (by omega) (by omega) (by omega)]
  simp only [Option.bind_some]
  rw [beq_self_eq_true, Bool.not_true, br_false, br_nd (by first | trivial | rfl), br_nd (by first | trivial | rfl), shorter_v (by omega) (by omega) (by omega) (by omega), rshorter_v (by omega) (by omega) (by omega) (by omega)]
  simp only [Option.bind_some]
  have hlen := shR_len (ws := ws) (br_ := br_) (ts := ts) l (by omega)
  generalize shR ws ts br_ l = r at *
  have e1 := fun t t2 t3 own own2 own3 x x2 x3 => tshorter_l1_p (N := 1100) (kept := l) (l := l) (pence := p) (t := t) (t2 := t2) (t3 := t3) (own := own) (own2 := own2) (own3 := own3) (x := x) (x2 := x2) (x3 := x3) (o := r.1) (want2 := r.2.2.2) (want3 := r.1) (out2 := r.2.2.2) (G := r.2.2.1) (by omega) 1100 0 (by omega) (by omega)
  have e2 := fun t t2 t3 own own2 own3 x x2 x3 => tshorter_l2_p (N := 1100) (kept := l) (l := l) (pence := p) (t := t) (t2 := t2) (t3 := t3) (own := own) (own2 := own2) (own3 := own3) (x := x) (x2 := x2) (x3 := x3) (o := r.1) (want := r.2.2.1) (want3 := r.1) (out2 := r.2.2.1) (G := r.2.2.2) (by omega) 1100 0 (by omega) (by omega)
  simp only [Int.natCast_zero] at e1 e2
  rw [br_nd (by first | trivial | rfl), br_nd (by first | trivial | rfl), br_nd (by first | trivial | rfl), br_nd (by first | trivial | rfl), e1]
  simp only [Option.bind_some]
  rw [e2]
  simp only [Option.bind_some]
  rw [price_v (by omega) (by omega) (by omega), rprice_v (by omega) (by omega) (by omega)]
  simp only [Option.bind_some]
  rw [br_dec (by first | trivial | rfl), br_dec (by first | trivial | rfl), same_v (by omega) (by omega) (by omega) (by omega)]
  simp only [Option.bind_some]
  rw [br_true, likei_v (by omega) (by omega)]
  simp only [Option.bind_some]
  rw [br_true]; exact aw
end Go.Proofs.Ytfamlpbdhhikdaa

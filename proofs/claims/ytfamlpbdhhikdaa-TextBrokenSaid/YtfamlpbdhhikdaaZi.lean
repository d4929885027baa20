/-
  Parts of a proof, put together: TL1, TL2, TL3, TL4, TL5, TL6.
  Conditions: none.
-/
import Derived.Test.YtfamlpbdhhikdaaZh
namespace Go.Proofs.Ytfamlpbdhhikdaa
set_option linter.all false
open Go

theorem ixfls_gen (N : Nat) (a b : Int) : ∀ (n : Nat) (l : List Tn) (u u2 : Int), ixfls_l1 N n l a b u u2 = ixL (fun x => lsays1_S N x.1 x.2.1 x.2.2 a b) n l u u2
  | 0, _, _, _ => rfl
  | n + 1, l, u, u2 => by unfold ixfls_l1 ixL; simp only [ixfls_gen N a b n]
section
variable {N : Nat} {ws : List Wd} {ts : List Tn} {br_ : Int}
theorem lsays_v (ht : ts.length ≤ 1000) (hN : ts.length < N) (a b : Int) : lsays_S N ws ts br_ a b = some (ts.any (turnP a b)) := by
  have h := ixS_any (f := fun x : Tn => lsays1_S N x.1 x.2.1 x.2.2 a b) (p := turnP a b) (s := ts) (N := N) (fun x _ => by
    unfold lsays1_S turnP
    by_cases h1 : a ≤ x.2.1 <;> by_cases h2 : x.2.2 < b <;> by_cases h3 : x.1 < a <;> by_cases h4 : b ≤ x.1 <;> simp [br, h1, h2, h3, h4] <;> omega) (by omega) hN
  unfold lsays_S cofls_S ixfls_S
  unfold ixS at h
  rw [ixfls_gen]
  rw [show ∀ (o : Option Bool), (o.bind fun x => some x) = o from fun o => by cases o <;> rfl]
  exact h
theorem turnL_any (a b : Int) : decide (0 < ((turnL ts a b).length : Int)) = ts.any (turnP a b) := by
  rw [Bool.eq_iff_iff, decide_eq_true_eq, List.any_eq_true]
  constructor
  · intro h
    obtain ⟨x, hx⟩ := List.exists_mem_of_length_pos (l := turnL ts a b) (by omega)
    unfold turnL turnK at hx
    simp only [List.mem_map, List.mem_filter, List.mem_range] at hx
    obtain ⟨i, ⟨hi, hp⟩, _⟩ := hx
    exact ⟨_, getD_mem hi, hp⟩
  · rintro ⟨x, hx, hp⟩
    obtain ⟨i, hi, rfl⟩ := List.getElem_of_mem hx
    have : (i : Int) ∈ turnL ts a b := mem_turnK.2 ⟨hi, by simpa [List.getD, hi] using hp⟩
    have := List.length_pos_of_mem this
    omega
theorem rightR_eq (a b : Nat) : rightR ws ts br_ a b = (decide (sylR ws a b ≤ br_) && (stopR ws a && (stopR ws b && !(ts.any (turnP a b))))) := by
  unfold rightR faultR
  rw [turnL_any]
  by_cases c : br_ < sylR ws a b
  · rw [if_pos c, decide_eq_false (by omega)]; rfl
  · rw [if_neg c, decide_eq_true (by omega)]
    cases stopR ws a <;> cases stopR ws b <;> simp
theorem fits_l1_p {f t : Int} {u : List Wd} (hu : u.length ≤ 100) (hw : ∀ w ∈ u, 0 ≤ w.1 ∧ w.1 ≤ 1000) : ∀ (n k : Nat) (s : Int), u.length < n + k → k ≤ u.length → 0 ≤ s ∧ s ≤ 1000 * k → fits_l1 N n f t s u u.length k ws ts br_ = some (f, t, s + ((u.drop k).map (·.1)).sum, ws, ts, br_)
  | 0, k, s, h, hk, _ => by omega
  | n + 1, k, s, h, hk, hs => by
    unfold fits_l1
    by_cases hlt : k < u.length
    · rw [br_dec (by omega), idx_eq (by omega) (gets hlt (0, 0, false))]
      have hm := hw _ (getD_mem (d := (0, 0, false)) hlt)
      rw [drop_cons hlt (0, 0, false)]
      generalize u.getD k (0, 0, false) = x at *
      rw [chk_eq (by omega), chk_eq (by omega)]
      have := fits_l1_p (f := f) (t := t) hu hw n (k + 1) (s + x.1) (by omega) (by omega) (by omega)
      rw [show ((k + 1 : Nat) : Int) = (k : Int) + 1 by omega] at this
      rw [this]
      simp only [List.map_cons, List.sum_cons, Int.add_assoc]
    · rw [br_ndec (by omega), List.drop_of_length_le (by omega)]
      simp
variable (hN : 110 ≤ N) (hF : TFine ws ts br_)
include hN hF
theorem fits_v {a b : Nat} (hab : a < b) (hb : b ≤ ws.length) : fits_S N ws ts br_ a b = some (rightR ws ts br_ a b) := by
  have hn := hF.n; have ht := hF.t
  obtain ⟨h1, h2⟩ := okW_iff.1 hF.okW
  have hl : ((ws.take b).drop a).length ≤ 100 := by simp only [List.length_drop, List.length_take]; omega
  have e := fits_l1_p (N := N) (ws := ws) (ts := ts) (br_ := br_) (f := (a : Int)) (t := (b : Int)) (u := (ws.take b).drop a) hl (take_drop_mem h2 _ _) N 0 0 (by omega) (by omega) (by omega)
  simp only [Int.natCast_zero, List.drop_zero, Int.zero_add] at e
  have hst : ∀ p : Nat, 1 ≤ p → p ≤ ws.length → ws[((p : Int) - 1).toNat]? = some (ws.getD (p - 1) (0, 0, false)) := fun p h3 h4 => by
    rw [show (p : Int) - 1 = ((p - 1 : Nat) : Int) by omega]
    exact gets (l := ws) (by omega) _
  unfold fits_S
  rw [grd_eq (by simp; omega)]
  simp only [Int.toNat_natCast]
  rw [e]
  simp only [Option.bind_some]
  rw [rightR_eq, lsays_v (by omega) (by omega)]
  simp only [Option.bind_some]
  change br (decide (sylR ws a b ≤ br_)) _ _ = _
  by_cases c : sylR ws a b ≤ br_
  rotate_left
  · rw [br_ndec c, decide_eq_false c]; rfl
  rw [br_dec c, decide_eq_true c]
  by_cases c1 : a = 0
  · subst c1
    rw [br_dec (by omega)]
    by_cases c2 : b = ws.length
    · rw [br_dec (by omega)]; simp [stopR, c2]
    · rw [br_ndec (by omega), chk_eq (by omega), idx_eq (by omega) (hst b (by omega) hb)]
      have : stopR ws b = (ws.getD (b - 1) (0, 0, false)).2.2 := by
        unfold stopR; simp [c2, show ¬ b = 0 by omega]
      rw [← this]
      cases stopR ws b <;> simp [br, stopR]
  · rw [br_ndec (by omega), chk_eq (by omega), idx_eq (by omega) (hst a (by omega) (by omega))]
    have ea : stopR ws a = (ws.getD (a - 1) (0, 0, false)).2.2 := by
      unfold stopR; simp [show ¬ a = ws.length by omega, c1]
    rw [← ea]
    cases stopR ws a
    · rfl
    rw [br_true]
    by_cases c2 : b = ws.length
    · rw [br_dec (by omega)]; simp [stopR, c2]
    · rw [br_ndec (by omega), chk_eq (by omega), idx_eq (by omega) (hst b (by omega) hb)]
      have : stopR ws b = (ws.getD (b - 1) (0, 0, false)).2.2 := by
        unfold stopR; simp [c2, show ¬ b = 0 by omega]
      rw [← this]
      cases stopR ws b <;> simp [br]
omit hN hF
/-! ### Places -/
/-- A reading of a text. -/
def readB (m : Nat) (l : List Int) : Bool := l.all (fun x => decide (1 ≤ x)) && decide (l.sum = m)
theorem sum_nonneg {l : List Int} (h : l.all (fun x => decide (1 ≤ x)) = true) : (l.length : Int) ≤ l.sum := by
  induction l with
  | nil => simp
  | cons a l ih =>
    simp only [List.all_cons, Bool.and_eq_true, decide_eq_true_eq] at h
    have := ih h.2
    rw [List.sum_cons, List.length_cons]; omega
theorem psums_len : ∀ (l : List Int) (a : Int), (psums a l).length = l.length
  | [], _ => rfl
  | x :: l, a => by rw [psums, List.length_cons, psums_len l, List.length_cons]
theorem places_l1_p (hn : ws.length ≤ 1000) {l : List Int} (hl : l.length ≤ 100000) : ∀ (n k a : Nat) (O : List Int), l.length < n + k → k ≤ l.length → O.length = k + 1 → O.getD k 0 = a → k ≤ a → a ≤ ws.length →
    places_l1 N n l l.length k ws ts br_ O = some (if ((l.drop k).all (fun x => decide (1 ≤ x)) && decide ((a : Int) + (l.drop k).sum ≤ ws.length)) = true then .inr (ws, ts, br_, O ++ psums a (l.drop k)) else .inl ())
  | 0, k, a, O, h, _, _, _, _, _ => by omega
  | n + 1, k, a, O, h, hk, hO, ha, hka, han => by
    by_cases c : k < l.length
    · have g := gets c 0
      have hd := drop_cons c 0
      rw [hd]
      generalize l.getD k 0 = x at *
      have gO : ((O.length : Int) - 1).toNat = k := by omega
      rw [places_l1, br_dec (by omega), idx_eq (by omega) g, chk_eq (by omega), rng_eq (by omega), gO, get_get 0 (by omega), ha]
      by_cases d : x < 1
      · rw [br_dec d, List.all_cons, decide_eq_false (by omega)]; rfl
      · rw [br_ndec d, chk_eq (by omega)]
        by_cases e : (ws.length : Int) - a < x
        · rw [br_dec e, if_neg]
          intro hc
          simp only [Bool.and_eq_true, decide_eq_true_eq, List.all_cons, List.sum_cons] at hc
          obtain ⟨⟨_, h5⟩, h6⟩ := hc
          have h7 := sum_nonneg h5
          have h8 := of_decide_eq_true h6
          omega
        · obtain ⟨y, rfl⟩ : ∃ y : Nat, x = y := ⟨x.toNat, (Int.toNat_of_nonneg (by omega)).symm⟩
          have ih := places_l1_p hn hl n (k + 1) (a + y) (O ++ [((a + y : Nat) : Int)]) (by omega) (by omega) (by simp [hO]) (by
            have : (O ++ [((a + y : Nat) : Int)])[k + 1]? = some ((a + y : Nat) : Int) := by rw [← hO]; simp
            rw [List.getD_eq_getElem?_getD, this]; rfl) (by omega) (by omega)
          rw [show ((k + 1 : Nat) : Int) = (k : Int) + 1 by omega, show ((a + y : Nat) : Int) = (a : Int) + y by omega] at ih
          rw [br_ndec e, chk_eq (by omega), rng_eq (by omega), get_get 0 (by omega), ha, chk_eq (by omega), lim_eq (by simp; omega), chk_eq (by omega), ih, List.all_cons, decide_eq_true (show 1 ≤ (y : Int) by omega), Bool.true_and, List.sum_cons, psums, Int.add_assoc, List.append_assoc]
          rfl
    · rw [places_l1, br_ndec (by omega), List.drop_of_length_le (by omega)]
      simp [psums]; omega
theorem last_psums : ∀ (l : List Int) (a : Int), (a :: psums a l).getD l.length 0 = a + l.sum
  | [], a => by simp [psums, List.getD]
  | x :: l, a => by
    have := last_psums l (a + x)
    rw [psums, List.length_cons, List.getD_cons_succ, this, List.sum_cons]; omega
theorem places_v (hn : ws.length ≤ 1000) {l : List Int} (hl : l.length ≤ 1000) (hN : l.length < N) : places_S N ws ts br_ l = some (if readB ws.length l = true then 0 :: psums 0 l else []) := by
  have e := places_l1_p (N := N) (ts := ts) (br_ := br_) hn (l := l) (by omega) N 0 0 [0] (by omega) (by omega) rfl rfl (by omega) (by omega)
  simp only [Int.natCast_zero, List.drop_zero, Int.zero_add] at e
  unfold places_S readB
  rw [e]
  cases c : l.all (fun x => decide (1 ≤ x))
  · rfl
  simp only [Bool.true_and, decide_eq_true_eq]
  by_cases d : l.sum ≤ ws.length
  · rw [if_pos d]
    simp only [Option.bind_some]
    have hlen : ([(0 : Int)] ++ psums 0 l).length = l.length + 1 := by simp [psums_len]
    have hlast := last_psums l 0
    have gi : (((([(0 : Int)] ++ psums 0 l).length : Nat) : Int) - 1).toNat = l.length := by omega
    rw [chk_eq (by omega), rng_eq (by omega), gi, get_get 0 (by omega), show ([(0 : Int)] ++ psums 0 l) = 0 :: psums 0 l from rfl, hlast, Int.zero_add]
    by_cases f : l.sum = ws.length
    · rw [br_nd f, if_pos f]
    · rw [br_nnd f, if_neg f]
  · rw [if_neg d, if_neg (by omega)]; rfl
/-! ### Right readings -/
theorem good_readB (hm : ws.length ≤ 12) {R : Nat → Nat → Bool} : ∀ {l : List Int} {p : Nat}, goodB R ws.length p l = true → l.all (fun x => decide (1 ≤ x)) = true ∧ (p : Int) + l.sum = ws.length
  | [], p, h => by have := good_nil.1 h; simp; omega
  | x :: l, p, h => by
    obtain ⟨⟨b1, b2⟩, _, b4⟩ := good_cons.1 h
    obtain ⟨c1, c2⟩ := good_readB hm b4
    refine ⟨?_, by rw [List.sum_cons]; omega⟩
    rw [List.all_cons, c1, decide_eq_true b1]; rfl
include hN hF
theorem sound_l1_p {l P : List Int} {u : Int} (hl : l.length ≤ 1000) (hu : u = l.length) : ∀ (n k a : Nat), l.length < n + k → k ≤ l.length → P.drop k = (a : Int) :: psums a (l.drop k) → (l.drop k).all (fun x => decide (1 ≤ x)) = true → (a : Int) + (l.drop k).sum = ws.length →
    sound_l1 N n P u k ws ts br_ = some (if goodB (rightR ws ts br_) ws.length a (l.drop k) = true then .inr P else .inl ())
  | 0, k, a, h, _, _, _, _ => by omega
  | n + 1, k, a, h, hk, hP, h1, hs => by
    have hn := hF.n
    by_cases c : k < l.length
    · have hd := drop_cons c 0
      rw [hd] at hP h1 hs ⊢
      have hge : ((l.drop (k + 1)).length : Int) ≤ (l.drop (k + 1)).sum := by
        rw [List.all_cons, Bool.and_eq_true] at h1
        exact sum_nonneg h1.2
      generalize l.getD k 0 = x at *
      simp only [List.all_cons, Bool.and_eq_true, decide_eq_true_eq] at h1
      rw [List.sum_cons] at hs
      rw [psums] at hP
      obtain ⟨y, rfl⟩ : ∃ y : Nat, x = y := ⟨x.toNat, (Int.toNat_of_nonneg (by omega)).symm⟩
      have g0 : P[((k : Nat) : Int).toNat]? = some (a : Int) := by
        have := congrArg (fun L => L[0]?) hP
        simpa using this
      have g1 : P[(((k : Nat) : Int) + 1).toNat]? = some ((a : Int) + y) := by
        have := congrArg (fun L => L[1]?) hP
        rw [show (((k : Nat) : Int) + 1).toNat = k + 1 by omega]
        simpa using this
      have hP2 : P.drop (k + 1) = ((a + y : Nat) : Int) :: psums ((a + y : Nat) : Int) (l.drop (k + 1)) := by
        have := congrArg (fun L => L.drop 1) hP
        simpa [List.drop_drop] using this
      have ih := sound_l1_p hl hu n (k + 1) (a + y) (by omega) (by omega) hP2 h1.2 (by omega)
      rw [show ((k + 1 : Nat) : Int) = (k : Int) + 1 by omega] at ih
      rw [sound_l1, br_dec (by omega), idx_eq (by omega) g0, chk_eq (by omega), idx_eq (by omega) g1, show (a : Int) + y = ((a + y : Nat) : Int) by omega, fits_v hN hF (by omega) (by omega)]
      simp only [Option.bind_some]
      have eg : goodB (rightR ws ts br_) ws.length a ((y : Int) :: l.drop (k + 1)) = (rightR ws ts br_ a (a + y) && goodB (rightR ws ts br_) ws.length (a + y) (l.drop (k + 1))) := by
        rw [goodB, Int.toNat_natCast, decide_eq_true h1.1, decide_eq_true (show a + y ≤ ws.length by omega)]; rfl
      rw [eg]
      cases hr : rightR ws ts br_ a (a + y)
      · rfl
      · rw [Bool.not_true, br_false, chk_eq (by omega), ih]; rfl
    · have hd : l.drop k = [] := List.drop_of_length_le (by omega)
      rw [hd] at hs ⊢
      rw [sound_l1, br_ndec (by omega), if_pos]
      rw [good_nil]; simp at hs; omega
theorem sound_v {l : List Int} (hl : l.length ≤ 100) : sound_S N ws ts br_ l = some (goodB (rightR ws ts br_) ws.length 0 l) := by
  have hn := hF.n; have hn0 := hF.n0
  unfold sound_S
  rw [places_v (by omega) (by omega) (by omega)]
  simp only [Option.bind_some]
  by_cases c : readB ws.length l = true
  · rw [if_pos c]
    unfold readB at c
    simp only [Bool.and_eq_true, decide_eq_true_eq] at c
    have hpl := psums_len l 0
    have hlen : (0 :: psums 0 l).length = l.length + 1 := by simp [psums_len]
    have e : ((((0 : Int) :: psums 0 l).length : Nat) : Int) - 1 = l.length := by omega
    rw [chk_eq (by omega), e, grd_eq (by simp; omega)]
    have e2 : (max 0 (l.length : Int)).toNat = l.length := by omega
    rw [e2]
    have e1 := sound_l1_p hN hF (l := l) (P := 0 :: psums 0 l) (u := (((((0 : Int) :: psums 0 l).take l.length).length : Nat) : Int)) (by omega) (by rw [List.length_take]; omega) N 0 0 (by omega) (by omega) (by simp) (by simpa using c.1) (by simpa using c.2)
    simp only [Int.natCast_zero, List.drop_zero] at e1
    rw [e1]
    cases hg : goodB (rightR ws ts br_) ws.length 0 l
    · rfl
    · simp only [if_true, Option.bind_some]
      have : l ≠ [] := fun e => by subst e; have := good_nil.1 hg; omega
      have := List.length_pos_iff.2 this
      rw [decide_eq_true (by omega)]
  · rw [if_neg c]
    have e1 : sound_l1 N N [] 0 0 ws ts br_ = some (.inr []) := by
      obtain ⟨M, rfl⟩ : ∃ M, N = M + 1 := ⟨N - 1, by omega⟩
      rw [sound_l1, br_ndec (by omega)]
    simp only [List.length_nil, Int.natCast_zero]
    rw [chk_eq (by omega), grd_eq (by decide)]
    simp only [List.take_nil, List.length_nil, Int.natCast_zero]
    rw [e1]
    cases hg : goodB (rightR ws ts br_) ws.length 0 l
    · rfl
    · exfalso
      refine c ?_
      obtain ⟨h1, h2⟩ := good_readB (by omega) hg
      unfold readB
      rw [h1, decide_eq_true (by simpa using h2)]; rfl
end
end Go.Proofs.Ytfamlpbdhhikdaa

namespace Go.Proofs.Ytfamlpbdhhikdaa
set_option linter.all false
open Go

section
variable {N : Nat} {ws : List Wd} {ts : List Tn} {br_ : Int} (hN : 110 ≤ N) (hF : TFine ws ts br_)
include hN hF
end
end Go.Proofs.Ytfamlpbdhhikdaa

namespace Go.Proofs.Ytfamlpbdhhikdaa
set_option linter.all false
open Go

/-! ### Runs that no turn is said otherwise by -/
def runsAll (ts : List Tn) : Int → List Int → Bool
  | _, [] => true
  | f, x :: r => !((psums f (x :: r)).any fun s => ts.any (turnP f s)) && runsAll ts (f + x) r
theorem runsAll_iff {ts : List Tn} : ∀ (l : List Int) (f : Int), runsAll ts f l = true ↔ ∀ x ∈ ts, runsOK (fun a b => turnP a b x) f l
  | [], f => by simp [runsAll, runsOK]
  | y :: r, f => by
    have ih := runsAll_iff (ts := ts) r (f + y)
    rw [runsAll, Bool.and_eq_true, ih]
    simp only [Bool.not_eq_true', List.any_eq_false]
    constructor
    · rintro ⟨h1, h2⟩ x hx
      refine ⟨fun s hs => ?_, h2 x hx⟩
      have h3 := h1 s hs
      rw [Bool.not_eq_true, List.any_eq_false] at h3
      simpa using h3 x hx
    · intro h
      refine ⟨fun s hs => ?_, fun x hx => (h x hx).2⟩
      rw [Bool.not_eq_true, List.any_eq_false]
      intro x hx
      have := (h x hx).1 s hs
      simpa using this
theorem runsAll_trn {ts : List Tn} {l : List Int} : runsAll ts 0 l = (trnF l ts 0).isNone := by
  rw [Bool.eq_iff_iff, runsAll_iff, Option.isNone_iff_eq_none, trnF_none]
section
variable {N : Nat} {ws : List Wd} {ts : List Tn} {br_ : Int} (hN : 110 ≤ N) (ht : ts.length ≤ 100)
include hN ht
theorem lsure_l2_p {P u : List Int} {f u2 u3 : Int} {Q : List Int} (hQ : Q.length ≤ 1000) : ∀ (n k : Nat), Q.length < n + k → k ≤ Q.length →
    lsure_l2 N n P f u u2 u3 Q Q.length k ws ts br_ = some (if ((Q.drop k).any fun s => ts.any (turnP f s)) = true then .inl () else .inr (P, u, u2, u3, ws, ts, br_))
  | 0, k, h, _ => by omega
  | n + 1, k, h, hk => by
    by_cases c : k < Q.length
    · have g := gets c 0
      rw [drop_cons c 0, List.any_cons]
      generalize Q.getD k 0 = x at *
      have ih := lsure_l2_p (P := P) (u := u) (f := f) (u2 := u2) (u3 := u3) hQ n (k + 1) (by omega) (by omega)
      rw [show ((k + 1 : Nat) : Int) = (k : Int) + 1 by omega] at ih
      rw [lsure_l2, br_dec (by omega), idx_eq (by omega) g, lsays_v (by omega) (by omega)]
      simp only [Option.bind_some]
      cases ts.any (turnP f x)
      · rw [br_false, chk_eq (by omega), ih, Bool.false_or]
      · rfl
    · rw [lsure_l2, br_ndec (by omega), List.drop_of_length_le (by omega)]; rfl
theorem lsure_l1_p {l P : List Int} (hl : l.length ≤ 900) (hNl : l.length + 2 < N) (hPl : P.length = l.length + 1) : ∀ (n k : Nat) (a : Int), l.length + 1 < n + k → k ≤ l.length → P.drop k = a :: psums a (l.drop k) →
    lsure_l1 N n P P P.length k ws ts br_ = some (if runsAll ts a (l.drop k) = true then .inr P else .inl ())
  | 0, k, a, h, _, _ => by omega
  | n + 1, k, a, h, hk, hP => by
    have g0 : P[((k : Nat) : Int).toNat]? = some a := by
      have := congrArg (fun L => L[0]?) hP
      simpa using this
    have hP1 : P.drop (k + 1) = psums a (l.drop k) := by
      have := congrArg (fun L => L.drop 1) hP
      simpa [List.drop_drop] using this
    have e2 := lsure_l2_p (ws := ws) (br_ := br_) hN ht (P := P) (u := P) (f := a) (u2 := (P.length : Int)) (u3 := (k : Int)) (Q := P.drop (k + 1)) (by simp; omega) N 0 (by simp; omega) (by omega)
    simp only [Int.natCast_zero, List.drop_zero] at e2
    rw [lsure_l1, br_dec (by omega), idx_eq (by omega) g0, chk_eq (by omega), grd_eq (by simp; omega), show ((k : Int) + 1).toNat = k + 1 by omega, e2, hP1]
    by_cases c : k < l.length
    · have hd := drop_cons c 0
      rw [hd] at hP hP1 ⊢
      generalize l.getD k 0 = x at *
      rw [psums] at hP
      have hP2 : P.drop (k + 1) = (a + x) :: psums (a + x) (l.drop (k + 1)) := by rw [hP1, psums]
      have ih := lsure_l1_p hl hNl hPl n (k + 1) (a + x) (by omega) (by omega) hP2
      rw [show ((k + 1 : Nat) : Int) = (k : Int) + 1 by omega] at ih
      rw [runsAll]
      cases (psums a (x :: l.drop (k + 1))).any fun s => ts.any (turnP a s)
      · simp only [Bool.false_eq_true, if_false, Option.bind_some, Bool.not_false, Bool.true_and]
        rw [chk_eq (by omega), ih]
      · rfl
    · have hd : l.drop k = [] := List.drop_of_length_le (by omega)
      rw [hd]
      simp only [psums, List.any_nil, Bool.false_eq_true, if_false, Option.bind_some, runsAll, if_true]
      obtain ⟨M, rfl⟩ : ∃ M, n = M + 1 := ⟨n - 1, by omega⟩
      rw [chk_eq (by omega), lsure_l1, br_ndec (by omega)]
theorem lsure_v {l : List Int} (hl : l.length ≤ 100) (hn : ws.length ≤ 12) (h1 : 1 ≤ ws.length) {R : Nat → Nat → Bool} (hg : goodB R ws.length 0 l = true) : lsure_S N ws ts br_ l = some (trnF l ts 0).isNone := by
  obtain ⟨g1, g2⟩ := good_readB (by omega) hg
  have c : readB ws.length l = true := by
    unfold readB
    rw [g1, decide_eq_true (by simpa using g2)]; rfl
  have hpl := psums_len l 0
  have e1 := lsure_l1_p (ws := ws) (br_ := br_) hN ht (l := l) (P := 0 :: psums 0 l) (by omega) (by omega) (by simp [hpl]) N 0 0 (by omega) (by omega) (by simp)
  simp only [Int.natCast_zero, List.drop_zero] at e1
  have : l ≠ [] := fun e => by subst e; have := good_nil.1 hg; omega
  have := List.length_pos_iff.2 this
  unfold lsure_S
  rw [places_v (by omega) (by omega) (by omega), if_pos c]
  simp only [Option.bind_some]
  rw [e1, runsAll_trn]
  cases (trnF l ts 0).isNone
  · rfl
  · simp only [if_true, Option.bind_some]
    rw [decide_eq_true (by simp [hpl]; omega)]
end
/-! ### Turns that are parted -/
section
variable {ws : List Wd} {ts : List Tn} {br_ : Int}
end
section
variable {N : Nat} {ws : List Wd} {ts : List Tn} {br_ : Int} (hN : 110 ≤ N) (hF : TFine ws ts br_)
include hN hF
end
end Go.Proofs.Ytfamlpbdhhikdaa

namespace Go.Proofs.Ytfamlpbdhhikdaa
set_option linter.all false
open Go

section
variable {N : Nat} {ws : List Wd} {ts : List Tn} {br_ : Int} (hN : 110 ≤ N) (hF : TFine ws ts br_)
include hN hF
end
end Go.Proofs.Ytfamlpbdhhikdaa

namespace Go.Proofs.Ytfamlpbdhhikdaa
set_option linter.all false
open Go

/-- Marks from others, lowered at the places of right breaths from places ahead of one. -/
structure Low (R : Nat → Nat → Bool) (m f : Nat) (A M : List Int) : Prop where
  len : M.length = 13
  le : ∀ q, M.getD q 0 ≤ A.getD q 0
  hold : ∀ p q, p < f → p < q → q ≤ m → R p q = true → M.getD q 0 ≤ M.getD p 0 + 1
  why : ∀ q, M.getD q 0 = A.getD q 0 ∨ ∃ p, p < f ∧ p < q ∧ q ≤ m ∧ R p q = true ∧ M.getD q 0 = M.getD p 0 + 1
structure Mk (A : List Int) : Prop where
  len : A.length = 13
  bd : ∀ q, 0 ≤ A.getD q 0 ∧ A.getD q 0 ≤ 99
section
variable {R : Nat → Nat → Bool} {m : Nat} {A M : List Int}
theorem Low.start (h : Mk A) : Low R m 0 A A := ⟨h.len, fun q => Int.le_refl _, fun p q h => by omega, fun q => .inl rfl⟩
theorem Low.bd (hA : Mk A) {f : Nat} (h : Low R m f A M) : ∀ q, 0 ≤ M.getD q 0 ∧ M.getD q 0 ≤ 99 := by
  intro q
  induction q using Nat.strongRecOn with
  | ind q ih =>
    have h1 := h.le q
    have h2 := hA.bd q
    rcases h.why q with e | ⟨p, _, hp, _, _, e⟩
    · omega
    · have := ih p hp; omega
theorem Low.next {f : Nat} {M' : List Int} (h : Low R m f A M) (hl : M'.length = 13) (hM : ∀ q, M'.getD q 0 = if (f < q ∧ q ≤ m ∧ R f q = true) then min (M.getD q 0) (M.getD f 0 + 1) else M.getD q 0) : Low R m (f + 1) A M' := by
  have hle : ∀ q, M'.getD q 0 ≤ M.getD q 0 := fun q => by
    rw [hM q]; split <;> omega
  have hsm : ∀ p, p ≤ f → M'.getD p 0 = M.getD p 0 := fun p hp => by rw [hM p, if_neg (by omega)]
  refine ⟨hl, fun q => Int.le_trans (hle q) (h.le q), fun p q h1 h2 h3 h4 => ?_, fun q => ?_⟩
  · rw [hsm p (by omega)]
    by_cases e : p = f
    · subst e
      rw [hM q, if_pos ⟨h2, h3, h4⟩]; omega
    · have := h.hold p q (by omega) h2 h3 h4
      have := hle q; omega
  · by_cases e : M'.getD q 0 = M.getD q 0
    · rw [e]
      rcases h.why q with h1 | ⟨p, h1, h2, h3, h4, h5⟩
      · exact .inl h1
      · exact .inr ⟨p, by omega, h2, h3, h4, by rw [hsm p (by omega)]; exact h5⟩
    · by_cases c : f < q ∧ q ≤ m ∧ R f q = true
      · have h1 := hM q
        rw [if_pos c] at h1
        exact .inr ⟨f, by omega, c.1, c.2.1, c.2.2, by rw [hsm f (Nat.le_refl _)]; omega⟩
      · exact absurd (by rw [hM q, if_neg c]) e
/-- Marks that hold stay. -/
theorem Low.fix (h : Low R m m A M) (hA : Mk A) (hh : ∀ p q, p < q → q ≤ m → R p q = true → A.getD q 0 ≤ A.getD p 0 + 1) : M = A := by
  have key : ∀ q, M.getD q 0 = A.getD q 0 := by
    intro q
    induction q using Nat.strongRecOn with
    | ind q ih =>
      rcases h.why q with e | ⟨p, h1, h2, h3, h4, h5⟩
      · exact e
      · have := hh p q h2 h3 h4
        have := ih p h2
        have := h.le q; omega
  refine List.ext_getElem (by rw [h.len, hA.len]) fun i h1 h2 => ?_
  have := key i
  simpa [List.getD, h1, h2] using this
theorem Low.holds (h : Low R m m A A) : ∀ p q, p < q → q ≤ m → R p q = true → A.getD q 0 ≤ A.getD p 0 + 1 := fun p q h1 h2 h3 => h.hold p q (by omega) h1 h2 h3
theorem good_snoc {k : Nat} : ∀ {l : List Int} {a : Nat}, goodB R k a l = true → l ≠ [] → ∃ p l1, p < k ∧ goodB R p a l1 = true ∧ R p k = true ∧ l.length = l1.length + 1
  | [], a, h, hn => absurd rfl hn
  | x :: l, a, h, _ => by
    obtain ⟨⟨b1, b2⟩, b3, b4⟩ := good_cons.1 h
    by_cases e : l = []
    · subst e
      have := good_nil.1 b4
      exact ⟨a, [], by omega, by simp [goodB], by rw [← this]; exact b3, rfl⟩
    · obtain ⟨p, l1, c1, c2, c3, c4⟩ := good_snoc b4 e
      exact ⟨p, x :: l1, c1, good_cons.2 ⟨⟨b1, good_le c2⟩, b3, c2⟩, c3, by simp [c4]⟩
theorem good_len {k : Nat} : ∀ {l : List Int} {a : Nat}, goodB R k a l = true → l.length + a ≤ k
  | [], a, h => by have := good_nil.1 h; simp; omega
  | x :: l, a, h => by
    obtain ⟨⟨b1, b2⟩, _, b4⟩ := good_cons.1 h
    have := good_len b4
    rw [List.length_cons]; omega
/-- The marks that are told: the fewest breaths to each place. -/
theorem Low.dist (h : Low R m m A M) (hm : m ≤ 12) (h0 : A.getD 0 0 = 0) (h1 : ∀ q, 1 ≤ q → q ≤ m → A.getD q 0 = 99) : ∀ q, q ≤ m → (M.getD q 0 = 99 ∧ ∀ l, goodB R q 0 l = false) ∨ IsMin R q 0 (M.getD q 0) := by
  intro q
  induction q using Nat.strongRecOn with
  | ind q ih =>
    intro hq
    by_cases e : q = 0
    · subst e
      have : M.getD 0 0 = 0 := by
        rcases h.why 0 with h2 | ⟨p, _, h2, _⟩
        · rw [h2, h0]
        · omega
      rw [this]
      exact .inr IsMin.end_
    · have hA := h1 q (by omega) hq
      -- no way is shorter
      have low : ∀ l, goodB R q 0 l = true → M.getD q 0 ≤ l.length := fun l hl => by
        have hne : l ≠ [] := fun e2 => by subst e2; have := good_nil.1 hl; omega
        obtain ⟨p, l1, c1, c2, c3, c4⟩ := good_snoc hl hne
        have h2 := h.hold p q (by omega) c1 hq c3
        rcases ih p c1 (by omega) with ⟨_, d⟩ | d
        · rw [d l1] at c2; cases c2
        · have := d.le l1 c2; omega
      rcases h.why q with h2 | ⟨p, c1, c2, c3, c4, c5⟩
      · refine .inl ⟨by omega, fun l => ?_⟩
        cases hg : goodB R q 0 l
        · rfl
        · have := low l hg; have := good_len hg; omega
      · rcases ih p c2 (by omega) with ⟨d, _⟩ | d
        · have := h.le q; omega
        · obtain ⟨l1, d1, d2⟩ := d.ex
          refine .inr ⟨⟨l1 ++ [((q : Int) - p)], good_app d1 (good_step c2 (Nat.le_refl _) c4 (by simp [goodB])), by rw [List.length_append, List.length_singleton]; omega⟩, low⟩
end
section
variable {N : Nat} {ws : List Wd} {ts : List Tn} {br_ : Int} (hN : 110 ≤ N) (hF : TFine ws ts br_)
include hF
theorem lowered_l2_p {u u2 u3 : Int} {d u4 : Tx} {G : List Int} {f : Nat} (hf : f < ws.length) : ∀ (es : List Nat) (M : List Int), M.length = 13 → (0 ≤ M.getD f 0 ∧ M.getD f 0 ≤ 1000) → (∀ q ∈ es, f < q ∧ q ≤ ws.length) →
    ∃ M', lowered_l2 N (es.map fun (j : Nat) => ((j : Int), ())) d u u2 u3 u4 M G f = some (d, u, u2, M', G) ∧ M'.length = 13 ∧ ∀ q, M'.getD q 0 = if q ∈ es then min (M.getD q 0) (M.getD f 0 + 1) else M.getD q 0
  | [], M, hM, _, _ => ⟨M, rfl, hM, fun q => by simp⟩
  | e :: es, M, hM, hb, he => by
    have := hF.n
    obtain ⟨h1, h2⟩ := he e (by simp)
    have hMf : (M.set e (min (M.getD e 0) (M.getD f 0 + 1))).getD f 0 = M.getD f 0 := by rw [getD_set' (by omega), if_neg (by omega)]
    obtain ⟨M', e1, e2, e3⟩ := lowered_l2_p hf es (M.set e (min (M.getD e 0) (M.getD f 0 + 1))) (by simpa using hM) (by rw [hMf]; exact hb) (fun q hq => he q (by simp [hq]))
    refine ⟨M', ?_, e2, fun q => ?_⟩
    · rw [List.map_cons, lowered_l2]
      unfold lowered_l2_b
      rw [rng_eq (by omega), get_get 0 (by omega), rng_eq (by omega), get_get 0 (by omega), chk_eq (by simp only [Int.toNat_natCast]; omega), rng_eq (by omega), get_get 0 (by omega)]
      exact e1
    · rw [e3 q, hMf, getD_set' (by omega)]
      by_cases h : e = q
      · subst h
        simp only [if_true, List.mem_cons, true_or]
        split <;> omega
      · simp [h, show ¬ q = e from fun h2 => h h2.symm]
theorem lowered_l1_p {A G : List Int} (hA : Mk A) : ∀ (n f : Nat) (M : List Int), ws.length < n + f → f ≤ ws.length → Low (rightR ws ts br_) ws.length f A M →
    ∃ M', lowered_l1 N n (ws, ts, br_) ws.length f M G = some (M', G) ∧ Low (rightR ws ts br_) ws.length ws.length A M'
  | 0, f, M, h, _, _ => by omega
  | n + 1, f, M, h, hf, hL => by
    have hn := hF.n
    by_cases c : f < ws.length
    · have hb := hL.bd hA f
      obtain ⟨M', e1, e2, e3⟩ := lowered_l2_p (N := N) hF (u := (ws.length : Int)) (u2 := (f : Int)) (u3 := (f : Int)) (d := (ws, ts, br_)) (u4 := (ws, ts, br_)) (G := G) c (endsL ws ts br_ f) M hL.len (by omega) (fun q hq => by
        obtain ⟨a1, a2, _⟩ := mem_toL.1 hq; omega)
      obtain ⟨M2, e4, hL2⟩ := lowered_l1_p hA n (f + 1) M' (by omega) (by omega) (hL.next e2 (fun q => by
        rw [e3 q]
        have : q ∈ endsL ws ts br_ f ↔ (f < q ∧ q ≤ ws.length ∧ rightR ws ts br_ f q = true) := mem_toL
        simp only [this]))
      refine ⟨M2, ?_, hL2⟩
      rw [lowered_l1, br_dec (by omega)]
      simp only [breaths_S, Option.bind_some]
      rw [breathsR_v hF (by omega)]
      simp only [Option.bind_some]
      rw [e1]
      simp only [Option.bind_some]
      rw [chk_eq (by omega)]
      exact e4
    · obtain rfl : f = ws.length := by omega
      exact ⟨M, by rw [lowered_l1, br_ndec (by omega)], hL⟩
include hN
theorem lowered_v {A : List Int} (hA : Mk A) : ∃ M, lowered_S N (ws, ts, br_) A = some M ∧ Low (rightR ws ts br_) ws.length ws.length A M := by
  have := hF.n
  obtain ⟨M, e, h⟩ := lowered_l1_p (N := N) hF hA (G := List.replicate 13 0) N 0 A (by omega) (by omega) (Low.start hA)
  simp only [Int.natCast_zero] at e
  refine ⟨M, ?_, h⟩
  unfold lowered_S
  simp only [end__S, Option.bind_some]
  rw [e]; rfl
theorem marks_l1_p : ∀ (n k : Nat) (A : List Int), ws.length + 1 < n + k → 1 ≤ k → k ≤ ws.length + 1 → Mk A → A.getD 0 0 = 0 → (∀ q, 1 ≤ q → q < k → A.getD q 0 = 99) →
    ∃ A', marks_l1 N n (ws, ts, br_) k A = some ((ws, ts, br_), A') ∧ Mk A' ∧ A'.getD 0 0 = 0 ∧ ∀ q, 1 ≤ q → q ≤ ws.length → A'.getD q 0 = 99
  | 0, k, A, h, _, _, _, _, _ => by omega
  | n + 1, k, A, h, h1, hk, hA, h0, h9 => by
    have hn := hF.n; have hl := hA.len
    by_cases c : k ≤ ws.length
    · obtain ⟨A', e, r⟩ := marks_l1_p n (k + 1) (A.set k 99) (by omega) (by omega) (by omega) ⟨by simpa using hl, fun q => by
        rw [getD_set' (by omega)]
        split
        · omega
        · exact hA.bd q⟩ (by rw [getD_set' (by omega), if_neg (by omega)]; exact h0) (fun q h2 h3 => by
        rw [getD_set' (by omega)]
        split
        · rfl
        · exact h9 q h2 (by omega))
      refine ⟨A', ?_, r⟩
      rw [marks_l1]
      simp only [end__S, Option.bind_some]
      rw [br_dec (by omega), rng_eq (by omega), get_get 0 (by omega), chk_eq (by omega)]
      exact e
    · refine ⟨A, ?_, hA, h0, fun q h2 h3 => h9 q h2 (by omega)⟩
      rw [marks_l1]
      simp only [end__S, Option.bind_some]
      rw [br_ndec (by omega)]
/-- The marks. -/
theorem marks_in : ∃ M, marks_S N ws ts br_ = (if M.getD ws.length 0 = 99 then some ([], 6) else some (M.take (ws.length + 1), 0)) ∧ Mk M ∧ M.getD 0 0 = 0 ∧ lowered_S N (ws, ts, br_) M = some M ∧ Low (rightR ws ts br_) ws.length ws.length M M ∧
    ∀ q, q ≤ ws.length → (M.getD q 0 = 99 ∧ ∀ l, goodB (rightR ws ts br_) q 0 l = false) ∨ IsMin (rightR ws ts br_) q 0 (M.getD q 0) := by
  have hn := hF.n; have ht := hF.t; have hn0 := hF.n0
  have c0 := checkT_of hF
  obtain ⟨A, e1, hA, h0, h9⟩ := marks_l1_p hN hF N 1 (List.replicate 13 0) (by omega) (by omega) (by omega) ⟨by simp, fun q => by
    simp only [List.getD, List.getElem?_replicate]
    split <;> simp⟩ (by simp) (fun q h1 h2 => by omega)
  simp only [Int.natCast_one] at e1
  obtain ⟨M, e2, hL⟩ := lowered_v hN hF hA
  have hM : Mk M := ⟨hL.len, hL.bd hA⟩
  have hd := hL.dist hn h0 h9
  have hM0 : M.getD 0 0 = 0 := by
    rcases hL.why 0 with h2 | ⟨p, _, h2, _⟩
    · rw [h2, h0]
    · omega
  obtain ⟨M2, e3, hL2⟩ := lowered_v hN hF hM
  have hfix : M2 = M := hL2.fix hM (fun p q h1 h2 h3 => hL.hold p q (by omega) h1 h2 h3)
  subst hfix
  refine ⟨M2, ?_, hM, hM0, e3, hL2, hd⟩
  obtain ⟨K, rfl⟩ : ∃ K, N = K + 2 := ⟨N - 2, by omega⟩
  have e4 : marks_l2 (K + 2) (K + 2) (ws, ts, br_) A M2 = some ((ws, ts, br_), M2) := by
    rw [marks_l2]
    by_cases c : M2 = A
    · rw [br_nd c, c]
    · rw [br_nnd c, e3]
      simp only [Option.bind_some]
      rw [marks_l2, br_nd rfl]
  have hlen := hM.len
  unfold marks_S
  rw [opened_v (by omega) (by omega) (by omega), if_pos c0]
  simp only [Option.bind_some]
  rw [br_nd (by first | trivial | rfl), e1]
  simp only [Option.bind_some]
  rw [e2]
  simp only [Option.bind_some]
  rw [e4]
  simp only [end__S, Option.bind_some]
  rw [rng_eq (by omega), get_get 0 (by omega)]
  simp only [Int.toNat_natCast]
  by_cases c : M2.getD ws.length 0 = 99
  · rw [br_dec c, if_pos c]
  · rw [br_ndec c, if_neg c]
    rw [chk_eq (by omega), grd_eq (decide_eq_true (by omega)), show ((ws.length : Int) + 1).toNat = ws.length + 1 by omega]
    unfold clone_S
    have : (M2.take (ws.length + 1)).isEmpty = false := by
      cases hq : M2.take (ws.length + 1) with
      | nil => have := congrArg List.length hq; rw [List.length_take, List.length_nil] at this; omega
      | cons a l => rfl
    rw [this, grd_eq (c := !false) rfl, lim_eq (by simp; omega)]; rfl
theorem shows_l1_p {l : List Int} (hl : l.length ≤ 13) : ∀ (n k : Nat) (M : List Int), l.length < n + k → k ≤ l.length → M.length = 13 →
    ∃ M', shows_l1 N n (ws, ts, br_) l l.length k M = some ((ws, ts, br_), M') ∧ M'.length = 13 ∧ ∀ q, M'.getD q 0 = if k ≤ q ∧ q < l.length then l.getD q 0 else M.getD q 0
  | 0, k, M, h, _, _ => by omega
  | n + 1, k, M, h, hk, hM => by
    by_cases c : k < l.length
    · obtain ⟨M', e, e2, e3⟩ := shows_l1_p hl n (k + 1) (M.set k (l.getD k 0)) (by omega) (by omega) (by simpa using hM)
      refine ⟨M', ?_, e2, fun q => ?_⟩
      · rw [shows_l1, br_dec (by omega), idx_eq (by omega) (gets c 0), rng_eq (by omega), get_get 0 (by omega), chk_eq (by omega)]
        exact e
      · rw [e3 q, getD_set' (by omega)]
        by_cases d : q = k
        · subst d
          rw [if_neg (by omega), if_pos rfl, if_pos (by omega)]
        · rw [if_neg (fun h2 : k = q => d h2.symm)]
          by_cases e4 : k + 1 ≤ q ∧ q < l.length
          · rw [if_pos e4, if_pos (by omega)]
          · rw [if_neg e4, if_neg (by omega)]
    · refine ⟨M, ?_, hM, fun q => by rw [if_neg (by omega)]⟩
      rw [shows_l1, br_ndec (by omega)]
end
theorem ixfi3_gen (N : Nat) : ∀ (n : Nat) (s : List Int) (u u2 : Int), ixfi3_l1 N n s u u2 = ixL (every1i3_S N) n s u u2
  | 0, _, _, _ => rfl
  | n + 1, s, u, u2 => by unfold ixfi3_l1 ixL; simp only [ixfi3_gen N n]
def in99 (x : Int) : Bool := decide (0 ≤ x ∧ x ≤ 99)
theorem everyi3_v {N : Nat} {l : List Int} (h : l.length ≤ 1000000) (hN : l.length < N) : everyi3_S N l = some (l.all in99) := by
  unfold everyi3_S cofi3_S ixfi3_S
  rw [← every_gen (f := shows1_S N) (p := in99) (s := l) (N := N) (fun x _ => ?_) h hN]
  · unfold ixS
    rw [ixfi3_gen]
    rfl
  · unfold shows1_S in99
    rw [in_v]; rfl
end Go.Proofs.Ytfamlpbdhhikdaa

namespace Go.Proofs.Ytfamlpbdhhikdaa
set_option linter.all false
open Go

/-- Marks that hold. -/
def holdB (R : Nat → Nat → Bool) (m : Nat) (l : List Int) : Bool := decide (l.getD 0 0 = 0) && (List.range m).all fun p => (toL (R p) m (p + 1)).all fun q => decide (l.getD q 0 ≤ l.getD p 0 + 1)
theorem holdB_iff {R : Nat → Nat → Bool} {m : Nat} {l : List Int} : holdB R m l = true ↔ l.getD 0 0 = 0 ∧ ∀ p q, p < q → q ≤ m → R p q = true → l.getD q 0 ≤ l.getD p 0 + 1 := by
  unfold holdB
  simp only [Bool.and_eq_true, decide_eq_true_eq, List.all_eq_true, List.mem_range, mem_toL]
  constructor
  · rintro ⟨h1, h2⟩
    exact ⟨h1, fun p q a b c => h2 p (by omega) q ⟨by omega, b, c⟩⟩
  · rintro ⟨h1, h2⟩
    exact ⟨h1, fun p hp q ⟨a, b, c⟩ => h2 p q (by omega) b c⟩
/-- What marks show. -/
def showsR (ws : List Wd) (ts : List Tn) (br_ : Int) (l : List Int) : Int × Int :=
  if checkT ws ts br_ ≠ 0 then (0, checkT ws ts br_) else if (l.length : Int) ≠ (ws.length : Int) + 1 then (0, 2) else if l.all in99 = false then (0, 3) else if holdB (rightR ws ts br_) ws.length l = true then (l.getD ws.length 0, 0) else (0, 8)
theorem shows_v {N : Nat} (hN : 110 ≤ N) {ws : List Wd} {ts : List Tn} {br_ : Int} (hw : ws.length ≤ 1000000) (ht : ts.length ≤ 1000000) (l : List Int) : shows_S N ws ts br_ l = some (showsR ws ts br_ l) := by
  unfold shows_S showsR
  rw [opened_v (by omega) hw ht]
  by_cases c : checkT ws ts br_ = 0
  rotate_left
  · rw [if_neg c, if_pos c]
    simp only [Option.bind_some]
    rw [br_nnd c]
  have hF := tfine_of c
  have hn := hF.n; have hn0 := hF.n0
  rw [if_pos c, if_neg (by simpa using c)]
  simp only [Option.bind_some]
  rw [br_nd (by first | trivial | rfl)]
  simp only [end__S, Option.bind_some]
  rw [chk_eq (by omega)]
  by_cases c2 : (l.length : Int) = (ws.length : Int) + 1
  rotate_left
  · rw [br_nnd c2, if_pos c2]
  rw [br_nd c2, if_neg (by simpa using c2), everyi3_v (by omega) (by omega)]
  simp only [Option.bind_some]
  cases h99 : l.all in99
  · rfl
  rw [Bool.not_true, br_false, if_neg (by simp)]
  obtain ⟨A, e1, hAl, hA⟩ := shows_l1_p (N := N) (br_ := br_) (ts := ts) hN hF (l := l) (by omega) N 0 (List.replicate 13 0) (by omega) (by omega) (by simp)
  simp only [Int.natCast_zero] at e1
  have rep : ∀ i, (List.replicate 13 (0 : Int)).getD i 0 = 0 := fun i => by
    simp only [List.getD, List.getElem?_replicate]
    split <;> rfl
  have hAq : ∀ q, q ≤ ws.length → A.getD q 0 = l.getD q 0 := fun q hq => by rw [hA q, if_pos (by omega)]
  have hMk : Mk A := ⟨hAl, fun q => by
    rw [hA q]
    split
    · rename_i h
      have := List.all_eq_true.1 h99 _ (getD_mem (d := 0) h.2)
      simpa [in99] using this
    · rw [rep]; omega⟩
  rw [e1]
  simp only [Option.bind_some]
  rw [get_get 0 (by omega), hAq 0 (by omega)]
  by_cases c3 : l.getD 0 0 = 0
  rotate_left
  · rw [br_nnd c3, if_neg]
    intro h
    exact c3 (holdB_iff.1 h).1
  obtain ⟨M, e2, hL⟩ := lowered_v hN hF hMk
  rw [br_nd c3, e2]
  simp only [Option.bind_some]
  by_cases c4 : M = A
  · subst c4
    have hh := hL.holds
    rw [br_nd rfl, if_pos, rng_eq (by omega), get_get 0 (by omega)]
    · simp only [Int.toNat_natCast]
      rw [hAq _ (Nat.le_refl _)]
    · refine holdB_iff.2 ⟨c3, fun p q a b r => ?_⟩
      have := hh p q a b r
      rwa [hAq q b, hAq p (by omega)] at this
  · rw [br_nnd c4, if_neg]
    intro h
    refine c4 (hL.fix hMk fun p q a b r => ?_)
    rw [hAq q b, hAq p (by omega)]
    exact (holdB_iff.1 h).2 p q a b r
section
variable {N : Nat} {ws : List Wd} {ts : List Tn} {br_ : Int} (hN : 110 ≤ N) (hF : TFine ws ts br_)
include hN hF
theorem tbroken_l2_p {M : List Int} (hMl : M.length = ws.length + 1) (hb : ∀ q, q ≤ ws.length → 0 ≤ M.getD q 0 ∧ M.getD q 0 ≤ 99) (hM : ∀ p q, p < q → q ≤ ws.length → rightR ws ts br_ p q = true → M.getD q 0 ≤ M.getD p 0 + 1)
    {l s q : List Int} {e g u u2 q2 q3 : Int} {f : Nat} (hf : f < ws.length) : ∀ (n k : Nat), ws.length + 1 < n + k → f < k → k ≤ ws.length + 1 →
    tbroken_l2 N n l e M s g f k u u2 ws ts br_ q q2 q3 = some (.inr (l, e, M, s, g, u, u2, ws, ts, br_, q, q2, q3))
  | 0, k, h, _, _ => by omega
  | n + 1, k, h, h1, hk => by
    have hn := hF.n
    by_cases c : k ≤ ws.length
    · have ih := tbroken_l2_p hMl hb hM (l := l) (s := s) (q := q) (e := e) (g := g) (u := u) (u2 := u2) (q2 := q2) (q3 := q3) hf n (k + 1) (by omega) (by omega) (by omega)
      rw [show ((k + 1 : Nat) : Int) = (k : Int) + 1 by omega] at ih
      rw [tbroken_l2, br_dec (by omega), fits_v hN hF h1 c]
      simp only [Option.bind_some]
      cases hr : rightR ws ts br_ f k
      · rw [br_false, chk_eq (by omega), ih]
      · have h2 := hM f k h1 c hr
        have h3 := hb f (by omega)
        rw [br_true, idx_eq (by omega) (gets (l := M) (by omega) 0), idx_eq (by omega) (gets (l := M) (by omega) 0), chk_eq (by omega), br_ndec (by omega), chk_eq (by omega), ih]
    · rw [tbroken_l2, br_ndec (by omega)]
theorem tbroken_l1_p {M : List Int} (hMl : M.length = ws.length + 1) (hb : ∀ q, q ≤ ws.length → 0 ≤ M.getD q 0 ∧ M.getD q 0 ≤ 99) (hM : ∀ p q, p < q → q ≤ ws.length → rightR ws ts br_ p q = true → M.getD q 0 ≤ M.getD p 0 + 1)
    {l s q : List Int} {e g q2 q3 : Int} : ∀ (n k : Nat), ws.length < n + k → k ≤ ws.length →
    tbroken_l1 N n l e M s g ws.length k ws ts br_ q q2 q3 = some (.inr (l, e, s, g, ws, ts, br_, q, q2, q3))
  | 0, k, h, _ => by omega
  | n + 1, k, h, hk => by
    have hn := hF.n
    by_cases c : k < ws.length
    · have e2 := tbroken_l2_p hN hF hMl hb hM (l := l) (s := s) (q := q) (e := e) (g := g) (u := (ws.length : Int)) (u2 := (k : Int)) (q2 := q2) (q3 := q3) c N (k + 1) (by omega) (by omega) (by omega)
      have ih := tbroken_l1_p hMl hb hM (l := l) (s := s) (q := q) (e := e) (g := g) (q2 := q2) (q3 := q3) n (k + 1) (by omega) (by omega)
      rw [show ((k + 1 : Nat) : Int) = (k : Int) + 1 by omega] at ih e2
      rw [tbroken_l1, br_dec (by omega), chk_eq (by omega), e2]
      simp only [Option.bind_some]
      rw [chk_eq (by omega), ih]
    · rw [tbroken_l1, br_ndec (by omega)]
theorem tbroken_l3_p {b l s : List Int} {e g : Int}
    (hl : (e = 0 ∧ ∀ l', goodB (rightR ws ts br_) ws.length 0 l' = true → (l.length : Int) ≤ l'.length) ∨ ∀ l', goodB (rightR ws ts br_) ws.length 0 l' = false)
    (hs : (g = 0 ∧ ∀ l', goodB (suR ws ts br_) ws.length 0 l' = true → (s.length : Int) ≤ l'.length) ∨ ∀ l', goodB (suR ws ts br_) ws.length 0 l' = false) :
    ∀ (n i : Nat) (b2 b3 : Int), 10 < n + i → i ≤ 10 → Bell b b2 → tbroken_l3 N n l e s g i ws ts br_ b b2 b3 = some (.inr (.inr ()))
  | 0, i, b2, b3, h, _, _ => by omega
  | n + 1, i, b2, b3, h, hi, hb => by
    have hn := hF.n; have hn0 := hF.n0; have ht := hF.t
    have c0 := checkT_of hF
    unfold tbroken_l3
    by_cases c : (i : Int) < 10
    rotate_left
    · rw [br_ndec c]
    rw [br_dec c]
    obtain ⟨⟨o, c1, c2, c3⟩, eo, ⟨ho1, ho2⟩, hc, hb2⟩ := tried_v (N := N) hN (ws := ws) (ts := ts) (br_ := br_) (b2 := b2) (b3 := b3) ⟨hn0, hn⟩ hb
    dsimp only at ho1 ho2 hc hb2
    obtain rfl := hc.symm
    rw [eo]
    simp only [Option.bind_some]
    have hol := sum_ge ho1
    have ih := tbroken_l3_p hl hs n (i + 1) c2 c3 (by omega) (by omega) hb2
    rw [show ((i + 1 : Nat) : Int) = (i : Int) + 1 by omega] at ih
    have hwr := wrongR_iff (ws := ws) (ts := ts) (br_ := br_) c0 ho1 ho2
    have hr : readE ws ts br_ o = 0 := by
      unfold readE
      rw [if_neg (by simpa using c0), if_neg (by simpa [in12] using ho1), if_neg (by simpa using ho2)]
    have h06 : (wrongR ws ts br_ o).2.2 = 0 ∨ (wrongR ws ts br_ o).2.2 = 6 := by
      unfold wrongR
      rw [if_neg (by simpa using hr)]
      cases wrongF ws ts br_ o 0 0 <;> simp
    rw [sound_v hN hF (by omega), lwrong_v hN (by omega) (by omega) (by omega)]
    simp only [Option.bind_some]
    have tail : (br (!((decide ((wrongR ws ts br_ o).2.2 = 6)) == goodB (rightR ws ts br_) ws.length 0 o)) (some (.inr (.inl ()))) (br (!decide ((wrongR ws ts br_ o).2.2 = 6)) (br (!decide ((wrongR ws ts br_ o).2.2 = 0)) (some (.inr (.inl ()))) (chk ((i : Int) + 1) <| tbroken_l3 N n l e s g ((i : Int) + 1) ws ts br_ b c2 c3)) (chk ((i : Int) + 1) <| tbroken_l3 N n l e s g ((i : Int) + 1) ws ts br_ b c2 c3)) : Option (Unit ⊕ (Unit ⊕ Unit))) = some (.inr (.inr ())) := by
      rw [chk_eq (by omega), ih]
      by_cases h6 : (wrongR ws ts br_ o).2.2 = 6
      · rw [decide_eq_true h6, hwr.1 h6]; rfl
      · have hg : goodB (rightR ws ts br_) ws.length 0 o = false := by
          cases hg : goodB (rightR ws ts br_) ws.length 0 o
          · rfl
          · exact absurd (hwr.2 hg) h6
        rw [decide_eq_false h6, hg]
        have h0 : (wrongR ws ts br_ o).2.2 = 0 := by omega
        rw [decide_eq_true h0]; rfl
    cases hg : goodB (rightR ws ts br_) ws.length 0 o
    · rw [hg] at tail
      rw [br_false]; exact tail
    · rw [hg] at tail
      rcases hl with ⟨rfl, hl⟩ | hl
      rotate_left
      · rw [hl o] at hg; cases hg
      have h1 := hl o hg
      rw [br_true, br_nd rfl, br_ndec (by omega), lsure_v hN (by omega) (by omega) hn hn0 hg]
      simp only [Option.bind_some]
      cases hq : (trnF o ts 0).isNone
      · rw [br_false]; exact tail
      · have hgs := (sure_good (br_ := br_) hF).2 ⟨hg, Option.isNone_iff_eq_none.1 hq⟩
        rcases hs with ⟨rfl, hs⟩ | hs
        rotate_left
        · rw [hs o] at hgs; cases hgs
        have h2 := hs o hgs
        rw [br_true, br_nd rfl, br_ndec (by omega)]
        exact tail
end
theorem tbroken_true {ns qs : List Int} (h1 : Ty.inB (.sl (.int .u8)) ns) (h2 : Ty.inB (.sl (.int .u8)) qs) : tbroken_S 1100 ns qs = some true := by
  have aw : ((awake_S 1100).bind fun x => some x) = some true := by rw [awake_v]; rfl
  have l1 : ns.length ≤ 9223372036854775807 := h1.1
  have l2 : qs.length ≤ 9223372036854775807 := h2.1
  unfold tbroken_S hang_S
  simp only [Option.bind_some]
  obtain ⟨⟨ws, ts, br_, b, b2, b3⟩, em, hF, hm, hb⟩ := made_v (N := 1100) (b := ns) (by omega) (words := 10) (turns := 3) (b2 := 0) (b3 := 0) (by omega) (by omega) ⟨l1, by omega, by omega⟩
  dsimp only at hF hm hb
  rw [em]
  simp only [Option.bind_some]
  have hn := hF.n; have ht := hF.t; have hn0 := hF.n0
  have c0 := checkT_of hF
  have hq : Bell qs 0 := ⟨l2, by omega, by omega⟩
  obtain ⟨M, emk, hMk, hM0, hfix, hLow, hdist⟩ := marks_in (N := 1100) (by omega) hF
  have hMl := hMk.len
  have hfew : ∃ l e, fewest_S 1100 ws ts br_ = some (l, e) ∧ ((e = 0 ∧ goodB (rightR ws ts br_) ws.length 0 l = true ∧ IsMin (rightR ws ts br_) ws.length 0 l.length) ∨ (e = 6 ∧ ∀ l', goodB (rightR ws ts br_) ws.length 0 l' = false)) := by
    rcases fewest_v (N := 1100) (by omega) (ws := ws) (ts := ts) (br_ := br_) (by omega) (by omega) with ⟨c, _⟩ | ⟨_, ⟨l, ee, hl, hmin⟩ | ⟨ee, hno⟩⟩
    · exact absurd c0 c
    · exact ⟨l, 0, ee, .inl ⟨rfl, hl, hmin⟩⟩
    · exact ⟨[], 6, ee, .inr ⟨rfl, hno⟩⟩
  obtain ⟨l, e, ef, hl⟩ := hfew
  have hmk : ∃ mk, marks_S 1100 ws ts br_ = some (mk, e) ∧ (e = 0 → mk = M.take (ws.length + 1) ∧ M.getD ws.length 0 = l.length) := by
    rcases hdist ws.length (Nat.le_refl _) with ⟨h9, hno⟩ | hmin
    · rcases hl with ⟨_, hg, _⟩ | ⟨rfl, _⟩
      · rw [hno l] at hg; cases hg
      · exact ⟨[], by rw [emk, if_pos h9], fun h => by omega⟩
    · obtain ⟨l', g1, g2⟩ := hmin.ex
      rcases hl with ⟨rfl, hg, hmin2⟩ | ⟨_, hno⟩
      · have a1 := hmin.le l hg
        have a2 := hmin2.le l' g1
        have a3 := good_len hg
        exact ⟨_, by rw [emk, if_neg (by omega)], fun _ => ⟨rfl, by omega⟩⟩
      · rw [hno l'] at g1; cases g1
  obtain ⟨mk, emk2, hmk⟩ := hmk
  have hsur : ∃ s g, surest_S 1100 ws ts br_ = some (s, g) ∧ ((g = 0 ∧ goodB (suR ws ts br_) ws.length 0 s = true ∧ IsMin (suR ws ts br_) ws.length 0 s.length) ∨ (g = 6 ∧ ∀ l', goodB (suR ws ts br_) ws.length 0 l' = false)) := by
    rcases surest_v (N := 1100) (by omega) (ws := ws) (ts := ts) (br_ := br_) (by omega) (by omega) with ⟨c, _⟩ | ⟨_, ⟨l, ee, hl, hmin⟩ | ⟨ee, hno⟩⟩
    · exact absurd c0 c
    · exact ⟨l, 0, ee, .inl ⟨rfl, hl, hmin⟩⟩
    · exact ⟨[], 6, ee, .inr ⟨rfl, hno⟩⟩
  obtain ⟨s, g, es, hs⟩ := hsur
  rw [ef, emk2, es, check_v (by omega) (by omega) (by omega)]
  simp only [Option.bind_some]
  have hl3 : (e = 0 ∧ ∀ l', goodB (rightR ws ts br_) ws.length 0 l' = true → (l.length : Int) ≤ l'.length) ∨ ∀ l', goodB (rightR ws ts br_) ws.length 0 l' = false := by
    rcases hl with ⟨h, _, hmin⟩ | ⟨_, h⟩
    · exact .inl ⟨h, hmin.le⟩
    · exact .inr h
  have hs3 : (g = 0 ∧ ∀ l', goodB (suR ws ts br_) ws.length 0 l' = true → (s.length : Int) ≤ l'.length) ∨ ∀ l', goodB (suR ws ts br_) ws.length 0 l' = false := by
    rcases hs with ⟨h, _, hmin⟩ | ⟨_, h⟩
    · exact .inl ⟨h, hmin.le⟩
    · exact .inr h
  have e3 := tbroken_l3_p (N := 1100) (by omega) hF (b := qs) hl3 hs3 1100 0 0 0 (by omega) (by omega) hq
  simp only [Int.natCast_zero] at e3
  have hj : tbroken_j1 1100 l e s g ws ts br_ qs 0 0 = some true := by
    unfold tbroken_j1
    rcases hs with ⟨hg, hgs, _⟩ | ⟨hg, _⟩
    · obtain ⟨q1, q2⟩ := (sure_good hF).1 hgs
      obtain ⟨r1, r2⟩ := good_read (by omega) q1
      have := sum_ge r1
      have hle : (l.length : Int) ≤ s.length := by
        rcases hl3 with ⟨_, h⟩ | h
        · exact h s q1
        · rw [h s] at q1; cases q1
      rw [br_dec hg, sound_v (by omega) hF (by omega), q1, lsure_v (by omega) (by omega) (by omega) hn hn0 q1, q2]
      simp only [Option.bind_some, Option.isNone_none, Bool.not_true, br_false]
      rw [br_ndec (by omega), e3]
      exact aw
    · rw [br_ndec (by omega), e3]
      exact aw
  rw [br_nd c0, br_nd (by first | trivial | rfl)]
  have eshow : e = 0 → shows_S 1100 ws ts br_ mk = some ((l.length : Int), 0) := fun he => by
    obtain ⟨rfl, hml⟩ := hmk he
    have hg : ∀ q, q ≤ ws.length → (M.take (ws.length + 1)).getD q 0 = M.getD q 0 := fun q hq => by
      simp [List.getD, List.getElem?_take, show q < ws.length + 1 by omega]
    rw [shows_v (by omega) (by omega) (by omega)]
    unfold showsR
    rw [if_neg (by simpa using c0), if_neg (by simp; omega), if_neg, if_pos, hg _ (Nat.le_refl _), hml]
    · rw [holdB_iff, hg 0 (by omega)]
      refine ⟨hM0, fun p q a b r => ?_⟩
      rw [hg q b, hg p (by omega)]
      exact hLow.holds p q a b r
    · simp only [Bool.not_eq_false, List.all_eq_true]
      intro x hx
      obtain ⟨i, hi, rfl⟩ := List.getElem_of_mem (List.mem_of_mem_take hx)
      have := hMk.bd i
      simp [List.getD, hi] at this
      simpa [in99] using this
  have main : e = 0 → ((shows_S 1100 ws ts br_ mk).bind fun (x_20, y_21) =>
                    br (!decide (y_21 = 0))
                      (some false)
                      (br (!decide (x_20 = (l.length : Int)))
                        (some false)
                        ((sound_S 1100 ws ts br_ l).bind fun x_22 =>
                        br (!x_22)
                          (some false)
                          (chk ((ws.length : Int) + 1) <|
                          br (!decide ((mk.length : Int) = ((ws.length : Int) + 1)))
                            (some false)
                            (idx mk 0 fun x_23 =>
                            br (!decide (x_23 = 0))
                              (some false)
                              (idx mk (ws.length : Int) fun x_24 =>
                              br (!decide (x_24 = (l.length : Int)))
                                (some false)
                                ((tbroken_l1 1100 1100 l e mk s g (ws.length : Int) 0 ws ts br_ qs 0 0).bind fun e => match e with
                                | .inl _ =>
                                  some false
                                | .inr (l_41, e_42, s_43, g_44, t_45, t2_46, t3_47, q_48, q2_49, q3_50) =>
                                  tbroken_j1 1100 l_41 e_42 s_43 g_44 t_45 t2_46 t3_47 q_48 q2_49 q3_50))))))) = some true := fun he => by
    rw [eshow he]
    obtain ⟨rfl, hml⟩ := hmk he
    have hg : ∀ q, q ≤ ws.length → (M.take (ws.length + 1)).getD q 0 = M.getD q 0 := fun q hq => by
      simp [List.getD, List.getElem?_take, show q < ws.length + 1 by omega]
    have hgl : goodB (rightR ws ts br_) ws.length 0 l = true := by
      rcases hl with ⟨_, h, _⟩ | ⟨h, _⟩
      · exact h
      · omega
    have hgn := good_len hgl
    have htl : (M.take (ws.length + 1)).length = ws.length + 1 := by simp; omega
    have et := tbroken_l1_p (N := 1100) (by omega) hF (M := M.take (ws.length + 1)) htl (fun q hq => by rw [hg q hq]; exact hMk.bd q) (fun p q a b r => by
      rw [hg q b, hg p (by omega)]
      exact hLow.holds p q a b r) (l := l) (s := s) (q := qs) (e := e) (g := g) (q2 := 0) (q3 := 0) 1100 0 (by omega) (by omega)
    simp only [Int.natCast_zero] at et
    have g0 : (M.take (ws.length + 1))[(0 : Int).toNat]? = some 0 := by
      have := gets (l := M.take (ws.length + 1)) (k := 0) (by omega) 0
      rw [hg 0 (by omega), hM0] at this
      simpa using this
    have g1 : (M.take (ws.length + 1))[((ws.length : Nat) : Int).toNat]? = some (l.length : Int) := by
      have := gets (l := M.take (ws.length + 1)) (k := ws.length) (by omega) 0
      rw [hg _ (Nat.le_refl _), hml] at this
      exact this
    simp only [Option.bind_some]
    rw [br_nd (by first | trivial | rfl), br_nd (by first | trivial | rfl), sound_v (by omega) hF (by omega), hgl]
    simp only [Option.bind_some, Bool.not_true, br_false]
    rw [chk_eq (by omega), br_nd (by omega), idx_eq (by omega) g0, br_nd (by first | trivial | rfl), idx_eq (by omega) g1, br_nd (by first | trivial | rfl), et]
    exact hj
  by_cases he : e = 0
  · rw [br_nd he]
    by_cases hg : g = 0
    · rw [br_nd hg, br_nd he, br_dec he]
      exact main he
    · have hg6 : g = 6 := by rcases hs with ⟨h, _⟩ | ⟨h, _⟩ <;> omega
      rw [br_nnd hg, br_nd hg6, br_nd he, br_dec he]
      exact main he
  · have he6 : e = 6 := by rcases hl with ⟨h, _⟩ | ⟨h, _⟩ <;> omega
    have hg : ¬ g = 0 := fun hg => by
      rcases hs with ⟨_, hgs, _⟩ | ⟨h, _⟩
      · have q1 := ((sure_good hF).1 hgs).1
        rcases hl with ⟨h, _⟩ | ⟨_, h⟩
        · omega
        · rw [h s] at q1; cases q1
      · omega
    have hg6 : g = 6 := by rcases hs with ⟨h, _⟩ | ⟨h, _⟩ <;> omega
    rw [br_nnd he, br_nd he6, br_nnd hg, br_nd hg6, br_nnd he, br_ndec hg, br_ndec he]
    exact hj
end Go.Proofs.Ytfamlpbdhhikdaa

/-
  Parts of a proof, put together: FD3, FD4, FD5, FD6, FD7, FD8, FD9, FDa, FDb, FAw, FL3.
  Conditions: none.
-/
import Derived.Test.YthncjilcflilcaaZd
import Derived.Test.YthncjilcflilcaaZf
import Derived.Test.YthncjilcflilcaaZg
namespace Go.Proofs.Ythncjilcflilcaa
set_option linter.all false
open Go

/-! ### All of some numbers -/
def alI (p : Nat → Bool) (n : Nat) : Bool := (List.range' 0 n).all p
theorem alI_iff {p : Nat → Bool} {n : Nat} : alI p n = true ↔ ∀ i, i < n → p i = true := by
  unfold alI
  rw [List.all_eq_true]
  constructor
  · exact fun h i hi => h i (by simp [List.mem_range'_1, hi])
  · exact fun h i hi => h i (by have := List.mem_range'_1.1 hi; omega)
def allI {β : Type} (p : Nat → Bool) (n k : Nat) (b : β) : Option (Unit ⊕ β) := some (if (List.range' k (n - k)).all p then .inr b else .inl ())
theorem allI_0 {β : Type} (p : Nat → Bool) (n : Nat) (b : β) : allI p n 0 b = some (if alI p n then .inr b else .inl ()) := rfl
theorem allI_yes {β : Type} {p : Nat → Bool} {n k : Nat} {b : β} (h : k < n) (hp : p k = true) : allI p n k b = allI p n (k + 1) b := by
  unfold allI
  rw [show n - k = (n - (k + 1)) + 1 by omega, List.range'_succ, List.all_cons, hp, Bool.true_and]
theorem allI_no {β : Type} {p : Nat → Bool} {n k : Nat} {b : β} (h : k < n) (hp : p k = false) : allI p n k b = some (.inl ()) := by
  unfold allI
  rw [show n - k = (n - (k + 1)) + 1 by omega, List.range'_succ, List.all_cons, hp, Bool.false_and]; rfl
theorem allI_end {β : Type} {p : Nat → Bool} {n k : Nat} {b : β} (h : n ≤ k) : allI p n k b = some (.inr b) := by
  unfold allI
  rw [show n - k = 0 by omega]; rfl
/-! ### Tables -/
def canT (A B : Nat → Nat → Int) (s : Int) (i k : Nat) : Bool := decide (0 < A i k) && decide (B i k ≤ s)
section
variable {W : List Int} {s : Int} {L F : List (List Int)} {R : List Int} {A B : Nat → Nat → Int} {N : Nat}
theorem agD_T {i k : Nat} (hi : i < 6) (hk : k < 6) : agD (dkT W s L F R A B) i k = A i k := by
  unfold agD dkT
  rw [tabA_get (by omega), show (i * 6 + k) / 6 = i by omega, show (i * 6 + k) % 6 = k by omega]
theorem slD_T {i k : Nat} (hi : i < 6) (hk : k < 6) : slD (dkT W s L F R A B) i k = B i k := by
  unfold slD dkT
  rw [tabA_get (by omega), show (i * 6 + k) / 6 = i by omega, show (i * 6 + k) % 6 = k by omega]
theorem can_T {i k : Nat} (hi : i < 6) (hk : k < 6) : can_S N (dkT W s L F R A B) i k = some (canT A B s i k) := by
  rw [can_v (tabA_len _) (tabA_len _) hi hk]
  unfold canD canT
  rw [agD_T hi hk, slD_T hi hk]; rfl
theorem get_T {i k : Nat} (hi : i < 6) (hk : k < 6) {Z : Type} {f : Int → Option Z} : get (dkT W s L F R A B).2.2.2.2.2.1 (i * 6 + k) f = f (A i k) := by
  have e := agD_T (W := W) (s := s) (L := L) (F := F) (R := R) (A := A) (B := B) hi hk
  unfold agD at e
  rw [get_get 0 (by unfold dkT; rw [tabA_len]; omega), e]
theorem agF_bound (h : Fine W s L F R) (i k : Nat) : 0 ≤ agF W L F i k ∧ agF W L F i k ≤ 50 := by
  unfold agF
  split
  · exact agP_bound h.w _ _ h.w5
  · omega
abbrev canF (W : List Int) (s : Int) (L F : List (List Int)) : Nat → Nat → Bool := canT (agF W L F) (slF W L F) s
/-! ### A pair -/
theorem rpair_l1_p (h : Fine W s L F R) {i k : Nat} (hi : i < L.length) (hk : k < F.length) : ∀ (n t : Nat), W.length < n + t → t ≤ W.length →
    rpair_l1 N n i k (agP W (L.getD i []) (F.getD k []) t) (slP (L.getD i []) (F.getD k []) t) t W s L F R = some (agF W L F i k, slF W L F i k, W, s, L, F, R)
  | 0, t, hn, ht => by omega
  | n + 1, t, hn, ht => by
    unfold rpair_l1
    have hw5 := h.w5
    have ha := h.lw _ (getD_mem (d := []) hi)
    have hb := h.fw _ (getD_mem (d := []) hk)
    by_cases c : t < W.length
    · have e1 : -1 ≤ (L.getD i []).getD t 0 := (h.lv _ (getD_mem (d := []) hi) _ (getD_mem (d := 0) (by omega))).1
      have e2 : -1 ≤ (F.getD k []).getD t 0 := (h.fv _ (getD_mem (d := []) hk) _ (getD_mem (d := 0) (by omega))).1
      have ih := rpair_l1_p h hi hk n (t + 1) (by omega) (by omega)
      rw [nat_succ] at ih
      have b1 := agP_bound h.w (L.getD i []) (F.getD k []) (t := t) (by omega)
      have b2 := slP_bound (L.getD i []) (F.getD k []) (t := t) (by omega)
      have b3 := getD_W h.w t
      have s1 : agP W (L.getD i []) (F.getD k []) (t + 1) = agP W (L.getD i []) (F.getD k []) t + agA W (L.getD i []) (F.getD k []) t := rfl
      have s2 : slP (L.getD i []) (F.getD k []) (t + 1) = slP (L.getD i []) (F.getD k []) t + slA (L.getD i []) (F.getD k []) t := rfl
      rw [s1, s2] at ih
      clear s1 s2
      rw [br_dec (by omega), idx_eq (by omega) (gets hi []), idx_eq (by omega) (gets (by omega) 0), idx_eq (by omega) (gets hk []), idx_eq (by omega) (gets (by omega) 0)]
      have hj : ∀ x y, rpair_j2 N (rpair_l1 N n) i k x y t W s L F R = rpair_l1 N n i k x y (↑t + 1) W s L F R := fun x y => by
        unfold rpair_j2
        rw [chk_eq (by omega)]
      unfold rpair_j1
      simp only [hj]
      unfold agA slA at ih
      generalize (L.getD i []).getD t 0 = x at *
      generalize (F.getD k []).getD t 0 = y at *
      generalize agP W (L.getD i []) (F.getD k []) t = p at *
      generalize slP (L.getD i []) (F.getD k []) t = q at *
      by_cases c1 : 0 ≤ x
      rotate_left
      · rw [if_neg (by omega), if_neg (by omega), Int.add_zero, Int.add_zero] at ih
        rw [br_ndec c1, br_ndec c1, ih]
      by_cases c2 : 0 ≤ y
      rotate_left
      · rw [if_neg (by omega), if_neg (by omega), Int.add_zero, Int.add_zero] at ih
        rw [br_dec c1, br_ndec c2, br_dec c1, br_ndec c2, ih]
      by_cases c3 : x = y
      · rw [if_pos ⟨c3, by omega⟩, if_neg (by omega), Int.add_zero] at ih
        rw [br_dec c1, br_dec c2, br_dec c3, idx_eq (by omega) (gets c 0), chk_eq (by omega), br_dec c1, br_dec c2, br_nd c3, ih]
      · rw [if_neg (by omega), if_pos ⟨by omega, by omega, c3⟩, Int.add_zero] at ih
        rw [br_dec c1, br_dec c2, br_ndec c3, br_dec c1, br_dec c2, br_nnd c3, chk_eq (by omega), ih]
    · obtain rfl : t = W.length := by omega
      rw [br_ndec (by omega)]
      unfold agF slF
      rw [if_pos ⟨hi, hk⟩, if_pos ⟨hi, hk⟩]
theorem rpair_v (hN : 110 ≤ N) (h : Fine W s L F R) {i k : Nat} (hi : i < L.length) (hk : k < F.length) : rpair_S N W s L F R i k = some (agF W L F i k, slF W L F i k, canF W s L F i k) := by
  have e := rpair_l1_p (N := N) h hi hk N 0 (by have := h.w5; omega) (by omega)
  unfold rpair_S
  rw [show agP W (L.getD i []) (F.getD k []) 0 = 0 from rfl, show slP (L.getD i []) (F.getD k []) 0 = 0 from rfl, show ((0 : Nat) : Int) = 0 from rfl] at e
  rw [e]
  simp only [Option.bind_some]
  unfold canF canT
  by_cases c : 0 < agF W L F i k
  · rw [br_dec c, decide_eq_true c, Bool.true_and]
  · rw [br_ndec c, decide_eq_false c, Bool.false_and]
/-! ### Joins -/
def inm (m : Nat) (x : Int) : Bool := decide (-1 ≤ x ∧ x ≤ (m : Int) - 1)
def hasB (l : List Int) (x : Int) : Bool := l.any fun y => decide (x = y)
theorem hasB_iff {l : List Int} {x : Int} : hasB l x = true ↔ x ∈ l := by simp [hasB]
def dupI (l : List Int) (i : Nat) : Bool := decide (l.getD i 0 = -1) || !hasB (l.take i) (l.getD i 0)
def cnI (can : Nat → Nat → Bool) (l : List Int) (i : Nat) : Bool := decide (l.getD i 0 = -1) || can i (l.getD i 0).toNat
/-- The error of joins, e that of the desk. -/
def errJ (e : Int) (n m : Nat) (can : Nat → Nat → Bool) (l : List Int) : Int :=
  if ¬ e = 0 then e else if ¬ (l.length : Int) = (n : Int) then 2 else if l.all (inm m) = false then 1 else if alI (dupI l) l.length = false then 5 else if alI (cnI can l) l.length = false then 8 else 0
theorem dfound_v (h : F.length ≤ 1000000) (x : Int) : dfound_S N (dkT W s L F R A B) x = some (decide (0 ≤ x ∧ x ≤ (F.length : Int) - 1)) := by
  unfold dfound_S
  rw [in_v]
  exact chk_eq (by simp only [dkT]; omega)
theorem dlost_v (h : L.length ≤ 1000000) (x : Int) : dlost_S N (dkT W s L F R A B) x = some (decide (0 ≤ x ∧ x ≤ (L.length : Int) - 1)) := by
  unfold dlost_S
  rw [in_v]
  exact chk_eq (by simp only [dkT]; omega)
theorem joined1_v (h : F.length ≤ 1000000) (x : Int) : joined1_S N x (dkT W s L F R A B) = some (inm F.length x) := by
  unfold joined1_S inm
  rw [dfound_v h]
  by_cases c : x = -1
  · rw [br_dec c, decide_eq_true (by omega)]
  · rw [br_ndec c]
    simp only [Option.bind_some]
    congr 1
    exact decide_eq_decide.2 (by omega)
theorem ixfj_gen (h : F.length ≤ 1000000) : ∀ (n : Nat) (l : List Int) (u u2 : Int), ixfj_l1 N n l u u2 (dkT W s L F R A B) = (ixL (fun x => some (!inm F.length x)) n l u u2).map fun r => match r with | .inl i => .inl (i, dkT W s L F R A B) | .inr _ => .inr (dkT W s L F R A B)
  | 0, _, _, _ => rfl
  | n + 1, l, u, u2 => by
    unfold ixfj_l1 ixL every1j_S
    simp only [joined1_v h, Option.bind_some, ixfj_gen h n]
    unfold br
    split
    · unfold idx
      split
      · cases l[u2.toNat]? with
        | none => rfl
        | some a =>
          dsimp only
          cases inm F.length a
          · rfl
          · simp only [Bool.not_true, Bool.false_eq_true, if_false]
            unfold chk
            split <;> rfl
      · rfl
    · rfl
theorem everyj_v (h : F.length ≤ 1000000) {l : List Int} (hl : l.length ≤ 1000000) (hN : l.length < N) : everyj_S N l (dkT W s L F R A B) = some (l.all (inm F.length)) := by
  unfold everyj_S cofj_S ixfj_S
  rw [← every_gen (f := fun x => some (inm F.length x)) (p := inm F.length) (s := l) (N := N) (fun x _ => rfl) hl hN]
  unfold ixS
  rw [ixfj_gen h]
  simp only [Option.bind_some]
  cases ixL (fun x => some (!inm F.length x)) N l l.length 0 with
  | none => rfl
  | some r => cases r <;> rfl
theorem indexi_gen (v : Int) : ∀ (n : Nat) (l : List Int) (u u2 : Int), indexi_l1 N n l v u u2 = ixL (fun x => some (decide (v = x))) n l u u2
  | 0, _, _, _ => rfl
  | n + 1, l, u, u2 => by unfold indexi_l1 ixL; simp only [indexi_gen v n, Option.bind_some]
theorem containsi_v {l : List Int} (hl : l.length ≤ 1000000) (hN : l.length < N) (v : Int) : containsi_S N l v = some (hasB l v) := by
  unfold containsi_S indexi_S hasB
  rw [← ixS_any (f := fun x => some (decide (v = x))) (s := l) (N := N) (fun x _ => rfl) hl hN]
  unfold ixS
  rw [indexi_gen] <;> rfl
theorem joined_l1_p {d : Dk} {l : List Int} (hl : l.length ≤ 1000000) (hN : l.length < N) : ∀ (n k : Nat), l.length < n + k → k ≤ l.length → joined_l1 N n l l l.length k d = allI (dupI l) l.length k (l, d)
  | 0, k, h, _ => by omega
  | n + 1, k, h, hk => by
    unfold joined_l1
    by_cases c : k < l.length
    · have ih := joined_l1_p (d := d) hl hN n (k + 1) (by omega) (by omega)
      rw [nat_succ] at ih
      have y := allI_yes (p := dupI l) (b := (l, d)) c
      have no := allI_no (p := dupI l) (b := (l, d)) c
      have ec : dupI l k = (decide (l.getD k 0 = -1) || !hasB (l.take k) (l.getD k 0)) := rfl
      rw [br_dec (by omega), idx_eq (by omega) (gets c 0)]
      by_cases c1 : l.getD k 0 = -1
      · rw [br_nd c1, chk_eq (by omega), ih, y (by rw [ec, decide_eq_true c1]; rfl)]
      · rw [br_nnd c1, grd_eq (by rw [decide_eq_true_eq]; omega), containsi_v (by simp; omega) (by simp; omega)]
        simp only [Option.bind_some, Int.toNat_natCast]
        rw [decide_eq_false c1, Bool.false_or] at ec
        cases hb : hasB (l.take k) (l.getD k 0)
        · rw [br_false, chk_eq (by omega), ih, y (by rw [ec, hb]; rfl)]
        · rw [br_true]
          exact (no (by rw [ec, hb]; rfl)).symm
    · rw [br_ndec (by omega), allI_end (by omega)]
theorem joined_l2_p {l : List Int} (hl : l.length ≤ 6) (hF : F.length ≤ 6) (hm : l.all (inm F.length) = true) : ∀ (n k : Nat), l.length < n + k → k ≤ l.length → joined_l2 N n l l.length k (dkT W s L F R A B) = allI (cnI (canT A B s) l) l.length k (dkT W s L F R A B)
  | 0, k, h, _ => by omega
  | n + 1, k, h, hk => by
    unfold joined_l2
    by_cases c : k < l.length
    · have ih := joined_l2_p hl hF hm n (k + 1) (by omega) (by omega)
      rw [nat_succ] at ih
      have y := allI_yes (p := cnI (canT A B s) l) (b := dkT W s L F R A B) c
      have no := allI_no (p := cnI (canT A B s) l) (b := dkT W s L F R A B) c
      have hx := List.all_eq_true.1 hm _ (getD_mem (d := 0) c)
      unfold inm at hx
      rw [decide_eq_true_eq] at hx
      have ec : cnI (canT A B s) l k = (decide (l.getD k 0 = -1) || canT A B s k (l.getD k 0).toNat) := rfl
      rw [br_dec (by omega), idx_eq (by omega) (gets c 0)]
      by_cases c1 : l.getD k 0 = -1
      · rw [br_nd c1, chk_eq (by omega), ih, y (by rw [ec, decide_eq_true c1]; rfl)]
      · obtain ⟨q, hq⟩ : ∃ q : Nat, l.getD k 0 = q := ⟨(l.getD k 0).toNat, by omega⟩
        rw [decide_eq_false c1, Bool.false_or] at ec
        rw [br_nnd c1]
        rw [hq] at hx ec ⊢
        rw [can_T (by omega) (by omega)]
        simp only [Option.bind_some, Int.toNat_natCast] at ec ⊢
        cases hb : canT A B s k q
        · rw [Bool.not_false, br_true]
          exact (no (by rw [ec, hb])).symm
        · rw [Bool.not_true, br_false, chk_eq (by omega), ih, y (by rw [ec, hb])]
    · rw [br_ndec (by omega), allI_end (by omega)]
theorem joined_v (hN : 110 ≤ N) (h : Sm W L F R) {l : List Int} (hl : l.length ≤ 100) : joined_S N W s L F R l = some (if errJ (errD W s L F R) L.length F.length (canF W s L F) l = 0 then .inl (dkO W s L F R, 0) else .inr (errJ (errD W s L F R) L.length F.length (canF W s L F) l)) := by
  unfold joined_S errJ
  rw [opened_v hN h]
  by_cases c : errD W s L F R = 0
  rotate_left
  · rw [if_neg c]
    simp only [Option.bind_some]
    rw [br_nnd c, if_pos c, if_neg c]
  have hF := errD_iff.1 c
  rw [if_pos c]
  simp only [Option.bind_some]
  rw [br_nd (by first | trivial | rfl), if_neg (not_not_intro c)]
  by_cases c1 : (l.length : Int) = (L.length : Int)
  rotate_left
  · rw [br_nnd c1, if_pos c1]; rfl
  have hl6 := hF.l6; have hf6 := hF.f6
  rw [br_nd c1, if_neg (not_not_intro c1)]
  unfold dkO
  rw [everyj_v (by omega) (by omega) (by omega)]
  simp only [Option.bind_some]
  by_cases c2 : l.all (inm F.length) = true
  rotate_left
  · rw [Bool.eq_false_iff.2 c2]; rfl
  have e1 := joined_l1_p (N := N) (d := dkT W s L F R (agF W L F) (slF W L F)) (l := l) (by omega) (by omega) N 0 (by omega) (by omega)
  have e2 := joined_l2_p (N := N) (W := W) (s := s) (L := L) (F := F) (R := R) (A := agF W L F) (B := slF W L F) (l := l) (by omega) hf6 c2 N 0 (by omega) (by omega)
  rw [show ((0 : Nat) : Int) = 0 from rfl, allI_0] at e1 e2
  rw [c2, Bool.not_true, br_false, e1]
  simp only [Bool.true_eq_false, if_false]
  by_cases c3 : alI (dupI l) l.length = true
  rotate_left
  · rw [if_neg c3, Bool.eq_false_iff.2 c3]; rfl
  rw [if_pos c3, c3]
  simp only [Option.bind_some]
  rw [e2]
  by_cases c4 : alI (cnI (canF W s L F) l) l.length = true
  rotate_left
  · rw [if_neg c4, Bool.eq_false_iff.2 c4]; rfl
  rw [if_pos c4, c4]
  simp only [Bool.true_eq_false, if_false]
  rfl
theorem rjoins_l1_p (hF : F.length ≤ 1000000) {l : List Int} (hl : l.length ≤ 1000000) : ∀ (n k : Nat), l.length < n + k → k ≤ l.length → rjoins_l1 N n l k W s L F R = alls (inm F.length) l k (l, W, s, L, F, R)
  | 0, k, h, _ => by omega
  | n + 1, k, h, hk => by
    unfold rjoins_l1
    by_cases c : k < l.length
    · have ih := rjoins_l1_p hF hl n (k + 1) (by omega) (by omega)
      rw [nat_succ] at ih
      rw [br_dec (by omega), idx_eq (by omega) (gets c 0), chk_eq (by omega), off_v]
      simp only [Option.bind_some]
      by_cases c1 : -1 ≤ l.getD k 0 ∧ l.getD k 0 ≤ (F.length : Int) - 1
      · rw [br_nd c1, chk_eq (by omega), ih, alls_yes 0 c (by unfold inm; rw [decide_eq_true c1])]
      · rw [br_nnd c1, alls_no 0 c (by unfold inm; rw [decide_eq_false c1])]
    · rw [br_ndec (by omega), alls_end (by omega)]
def neI (l : List Int) (i k : Nat) : Bool := !decide (0 ≤ l.getD i 0) || !decide (l.getD i 0 = l.getD k 0)
theorem rjoins_l3_p {l : List Int} (hl : l.length ≤ 1000000) {i : Nat} (hi : i < l.length) : ∀ (n k : Nat), i < n + k → k ≤ i → rjoins_l3 N n l i k W s L F R = allI (neI l i) i k (l, (i : Int), W, s, L, F, R)
  | 0, k, h, _ => by omega
  | n + 1, k, h, hk => by
    unfold rjoins_l3
    by_cases c : k < i
    · have ih := rjoins_l3_p hl hi n (k + 1) (by omega) (by omega)
      rw [nat_succ] at ih
      rw [br_dec (by omega), idx_eq (by omega) (gets hi 0)]
      by_cases c1 : 0 ≤ l.getD i 0
      · rw [br_dec c1, idx_eq (by omega) (gets hi 0), idx_eq (by omega) (gets (by omega) 0)]
        by_cases c2 : l.getD i 0 = l.getD k 0
        · rw [br_dec c2, allI_no c (by unfold neI; rw [decide_eq_true c1, decide_eq_true c2]; rfl)]
        · rw [br_ndec c2, chk_eq (by omega), ih, allI_yes c (by unfold neI; rw [decide_eq_false c2]; simp)]
      · rw [br_ndec c1, chk_eq (by omega), ih, allI_yes c (by unfold neI; rw [decide_eq_false c1]; rfl)]
    · rw [br_ndec (by omega), allI_end (by omega)]
theorem neI_dup {l : List Int} {m i : Nat} (hm : l.all (inm m) = true) (hi : i < l.length) : alI (neI l i) i = dupI l i := by
  have hx := List.all_eq_true.1 hm _ (getD_mem (d := 0) hi)
  unfold inm at hx
  rw [decide_eq_true_eq] at hx
  rw [Bool.eq_iff_iff, alI_iff]
  unfold neI dupI
  by_cases c : l.getD i 0 = -1
  · rw [decide_eq_true c]
    exact ⟨fun _ => rfl, fun _ k _ => by rw [decide_eq_false (by omega)]; rfl⟩
  · rw [decide_eq_false c, Bool.false_or, Bool.not_eq_true', ← Bool.not_eq_true, hasB_iff]
    constructor
    · intro h hmem
      obtain ⟨k, hk, e⟩ := List.getElem_of_mem hmem
      have hk2 : k < i := by simp at hk; omega
      have := h k hk2
      rw [decide_eq_true (by omega : 0 ≤ l.getD i 0)] at this
      simp only [Bool.not_true, Bool.false_or, Bool.not_eq_true', decide_eq_false_iff_not] at this
      apply this
      rw [← e]
      simp [List.getD, show k < l.length by omega]
    · intro h k hk
      have : l.getD i 0 ≠ l.getD k 0 := fun e => h (by
        rw [e]
        exact List.mem_iff_getElem.2 ⟨k, by simp; omega, by simp [List.getD, show k < l.length by omega]⟩)
      rw [decide_eq_false this]; simp
theorem rjoins_l2_p {l : List Int} (hl : l.length ≤ 1000000) (hN : l.length < N) {m : Nat} (hm : l.all (inm m) = true) : ∀ (n k : Nat), l.length < n + k → k ≤ l.length → rjoins_l2 N n l k W s L F R = allI (dupI l) l.length k (l, W, s, L, F, R)
  | 0, k, h, _ => by omega
  | n + 1, k, h, hk => by
    unfold rjoins_l2
    by_cases c : k < l.length
    · have ih := rjoins_l2_p hl hN hm n (k + 1) (by omega) (by omega)
      rw [nat_succ] at ih
      have e := rjoins_l3_p (N := N) (W := W) (s := s) (L := L) (F := F) (R := R) hl c N 0 (by omega) (by omega)
      rw [show ((0 : Nat) : Int) = 0 from rfl, allI_0, neI_dup hm c] at e
      rw [br_dec (by omega), e]
      cases hb : dupI l k
      · rw [allI_no c hb]; rfl
      · rw [allI_yes c hb, if_pos rfl, ← ih]
        simp only [Option.bind_some]
        rw [chk_eq (by omega)]
    · rw [br_ndec (by omega), allI_end (by omega)]
theorem rjoins_l4_p (hN : 110 ≤ N) (h : Fine W s L F R) {l : List Int} (hl : l.length = L.length) (hm : l.all (inm F.length) = true) : ∀ (n k : Nat), l.length < n + k → k ≤ l.length → rjoins_l4 N n l k W s L F R = allI (cnI (canF W s L F) l) l.length k ()
  | 0, k, hn, _ => by omega
  | n + 1, k, hn, hk => by
    unfold rjoins_l4
    have hl6 := h.l6; have hf6 := h.f6
    by_cases c : k < l.length
    · have ih := rjoins_l4_p hN h hl hm n (k + 1) (by omega) (by omega)
      rw [nat_succ] at ih
      have hj : rjoins_j1 N (rjoins_l4 N n) l k W s L F R = allI (cnI (canF W s L F) l) l.length (k + 1) () := by
        unfold rjoins_j1
        rw [chk_eq (by omega), ih]
      have y := allI_yes (p := cnI (canF W s L F) l) (b := ()) c
      have no := allI_no (p := cnI (canF W s L F) l) (b := ()) c
      have hx := List.all_eq_true.1 hm _ (getD_mem (d := 0) c)
      unfold inm at hx
      rw [decide_eq_true_eq] at hx
      rw [br_dec (by omega), idx_eq (by omega) (gets c 0), hj]
      have ec : cnI (canF W s L F) l k = (decide (l.getD k 0 = -1) || canF W s L F k (l.getD k 0).toNat) := rfl
      by_cases c1 : l.getD k 0 = -1
      · rw [br_dec (by omega), y (by rw [ec, decide_eq_true c1]; rfl)]
      · obtain ⟨q, hq⟩ : ∃ q : Nat, l.getD k 0 = q := ⟨(l.getD k 0).toNat, by omega⟩
        rw [decide_eq_false c1, Bool.false_or] at ec
        rw [br_ndec (by omega), idx_eq (by omega) (gets c 0)]
        rw [hq] at hx ec ⊢
        rw [rpair_v hN h (by omega) (by omega)]
        simp only [Option.bind_some, Int.toNat_natCast] at ec ⊢
        rw [ec] at y no
        cases hb : canF W s L F k q
        · rw [no hb]; rfl
        · rw [y hb]; rfl
    · rw [br_ndec (by omega), allI_end (by omega)]
theorem rjoins_v (hN : 110 ≤ N) (h : Sm W L F R) {l : List Int} (hl : l.length ≤ 100) : rjoins_S N W s L F R l = some (errJ (errD W s L F R) L.length F.length (canF W s L F) l) := by
  unfold rjoins_S errJ
  rw [rcheck_v hN h]
  simp only [Option.bind_some]
  by_cases c : errD W s L F R = 0
  rotate_left
  · rw [br_nnd c, if_pos c]
  have hF := errD_iff.1 c
  rw [br_nd c, if_neg (not_not_intro c)]
  by_cases c1 : (l.length : Int) = (L.length : Int)
  rotate_left
  · rw [br_nnd c1, if_pos c1]
  have hl6 := hF.l6; have hf6 := hF.f6
  have e0 := rjoins_l1_p (N := N) (W := W) (s := s) (L := L) (R := R) (F := F) (by omega) (l := l) (by omega) N 0 (by omega) (by omega)
  rw [show ((0 : Nat) : Int) = 0 from rfl] at e0
  unfold alls at e0
  rw [List.drop_zero] at e0
  rw [br_nd c1, if_neg (not_not_intro c1), e0]
  by_cases c2 : l.all (inm F.length) = true
  rotate_left
  · rw [if_neg c2, Bool.eq_false_iff.2 c2]; rfl
  have e1 := rjoins_l2_p (N := N) (W := W) (s := s) (L := L) (F := F) (R := R) (l := l) (by omega) (by omega) c2 N 0 (by omega) (by omega)
  have e2 := rjoins_l4_p hN hF (by omega) c2 N 0 (by omega) (by omega)
  rw [show ((0 : Nat) : Int) = 0 from rfl, allI_0] at e1 e2
  rw [if_pos c2, c2, if_neg (by simp)]
  simp only [Option.bind_some]
  rw [e1]
  by_cases c3 : alI (dupI l) l.length = true
  rotate_left
  · rw [if_neg c3, Bool.eq_false_iff.2 c3]; rfl
  rw [if_pos c3, c3]
  simp only [Option.bind_some]
  rw [e2]
  by_cases c4 : alI (cnI (canF W s L F) l) l.length = true
  rotate_left
  · rw [if_neg c4, Bool.eq_false_iff.2 c4]; rfl
  rw [if_pos c4, c4]; rfl
end
end Go.Proofs.Ythncjilcflilcaa

namespace Go.Proofs.Ythncjilcflilcaa
set_option linter.all false
open Go

section
variable {N : Nat}
theorem sum_l1_p {l : List Int} {m : Int} (hl : l.length ≤ 1000) (hm : 0 ≤ m ∧ m ≤ 1000) (hr : ∀ x ∈ l, -m ≤ x ∧ x ≤ m) : ∀ (n k : Nat) (s : Int), l.length < n + k → k ≤ l.length → (-(m * k) ≤ s ∧ s ≤ m * k) → sum_l1 N n s l l.length k = some (s + (l.drop k).sum)
  | 0, k, s, h, _, _ => by omega
  | n + 1, k, s, h, hk, hs => by
    unfold sum_l1
    have hmk : m * (k : Int) ≤ 1000 * 1000 := Int.mul_le_mul hm.2 (by omega) (by omega) (by omega)
    by_cases c : k < l.length
    · have hx := hr _ (getD_mem (d := 0) c)
      have g := gets c 0
      rw [drop_cons c 0]
      generalize l.getD k 0 = x at *
      have e : m * ((k + 1 : Nat) : Int) = m * k + m := by rw [Int.natCast_add, Int.mul_add]; simp
      have ih := sum_l1_p hl hm hr n (k + 1) (s + x) (by omega) (by omega) (by omega)
      rw [nat_succ] at ih
      rw [br_dec (by omega), idx_eq (by omega) g, chk_eq (by omega), chk_eq (by omega), ih, List.sum_cons]
      congr 1; omega
    · rw [br_ndec (by omega), List.drop_of_length_le (by omega)]; simp
theorem sum_v {l : List Int} {m : Int} (hl : l.length ≤ 1000) (hN : l.length < N) (hm : 0 ≤ m ∧ m ≤ 1000) (hr : ∀ x ∈ l, -m ≤ x ∧ x ≤ m) : sum_S N l = some l.sum := by
  unfold sum_S
  have := sum_l1_p (N := N) hl hm hr N 0 0 (by omega) (by omega) (by simp)
  simp only [Int.natCast_zero, List.drop_zero, Int.zero_add] at this
  rw [this]; rfl
end
/-- What joins count, one by one. -/
def wlJ (t : Nat → Nat → Int) : Nat → List Int → List Int
  | _, [] => []
  | i, x :: l => (if x = -1 then [] else [t i x.toNat]) ++ wlJ t (i + 1) l
theorem wlJ_sum (t : Nat → Nat → Int) : ∀ (l : List Int) (i : Nat), (wlJ t i l).sum = valJ t i l
  | [], _ => rfl
  | x :: l, i => by
    rw [wlJ, valJ, List.sum_append, wlJ_sum t l (i + 1)]
    unfold pv
    split <;> simp
theorem wlJ_len (t : Nat → Nat → Int) : ∀ (l : List Int) (i : Nat), (wlJ t i l).length ≤ l.length
  | [], _ => Nat.le_refl _
  | x :: l, i => by
    have := wlJ_len t l (i + 1)
    rw [wlJ, List.length_append, List.length_cons]
    split <;> simp <;> omega
theorem wlJ_bound {t : Nat → Nat → Int} {m : Int} (h : ∀ i k, 0 ≤ t i k ∧ t i k ≤ m) : ∀ (l : List Int) (i : Nat), ∀ x ∈ wlJ t i l, 0 ≤ x ∧ x ≤ m
  | [], _, x, hx => by cases hx
  | y :: l, i, x, hx => by
    rw [wlJ, List.mem_append] at hx
    rcases hx with hx | hx
    · split at hx
      · cases hx
      · simp only [List.mem_singleton] at hx
        subst hx; exact h _ _
    · exact wlJ_bound h l (i + 1) x hx
theorem valJ_bound {t : Nat → Nat → Int} {m : Int} (h : ∀ i k, 0 ≤ t i k ∧ t i k ≤ m) (hm : 0 ≤ m) : ∀ (l : List Int) (i : Nat), 0 ≤ valJ t i l ∧ valJ t i l ≤ m * l.length
  | [], _ => by simp [valJ]
  | x :: l, i => by
    have h1 := valJ_bound h hm l (i + 1)
    have h2 := h i x.toNat
    rw [valJ, List.length_cons, Int.natCast_add, Int.mul_add]
    unfold pv
    split <;> simp <;> omega
section
variable {W : List Int} {s : Int} {L F : List (List Int)} {R : List Int} {A B : Nat → Nat → Int} {N : Nat}
theorem dworth_l1_p {l : List Int} (hl : l.length ≤ 6) (hF : F.length ≤ 6) (hm : l.all (inm F.length) = true) : ∀ (n k : Nat) (acc : List Int), l.length < n + k → k ≤ l.length → acc.length ≤ k → dworth_l1 N n (dkT W s L F R A B) l l.length k acc = some (acc ++ wlJ A k (l.drop k))
  | 0, k, _, h, _, _ => by omega
  | n + 1, k, acc, h, hk, ha => by
    unfold dworth_l1
    by_cases c : k < l.length
    · have hx := List.all_eq_true.1 hm _ (getD_mem (d := 0) c)
      unfold inm at hx
      rw [decide_eq_true_eq] at hx
      have hj : ∀ acc, acc.length ≤ k + 1 → dworth_j1 N (dworth_l1 N n) (dkT W s L F R A B) l l.length k acc = some (acc ++ wlJ A (k + 1) (l.drop (k + 1))) := fun acc ha => by
        have ih := dworth_l1_p hl hF hm n (k + 1) acc (by omega) (by omega) ha
        rw [nat_succ] at ih
        unfold dworth_j1
        rw [chk_eq (by omega), ih]
      rw [br_dec (by omega), idx_eq (by omega) (gets c 0), drop_cons c 0, wlJ]
      by_cases c1 : l.getD k 0 = -1
      · rw [br_nd c1, hj _ (by omega), if_pos c1, List.nil_append]
      · obtain ⟨q, hq⟩ : ∃ q : Nat, l.getD k 0 = q := ⟨(l.getD k 0).toNat, by omega⟩
        rw [br_nnd c1, if_neg c1]
        rw [hq] at hx ⊢
        rw [rng_eq (by omega), rng_eq (by omega)]
        simp only [Int.toNat_natCast]
        rw [get_T (by omega) (by omega), lim_eq (by simp; omega), hj _ (by simp; omega), List.append_assoc]
    · rw [br_ndec (by omega), List.drop_of_length_le (by omega)]
      simp [wlJ]
theorem dworth_v (hN : 110 ≤ N) (hA : ∀ i k, 0 ≤ A i k ∧ A i k ≤ 50) {l : List Int} (hl : l.length ≤ 6) (hF : F.length ≤ 6) (hm : l.all (inm F.length) = true) : dworth_S N (dkT W s L F R A B) l = some (valJ A 0 l) := by
  have e := dworth_l1_p (N := N) (W := W) (s := s) (L := L) (F := F) (R := R) (A := A) (B := B) hl hF hm N 0 [] (by omega) (by omega) (by simp)
  have h1 := wlJ_len A l 0
  rw [show ((0 : Nat) : Int) = 0 from rfl, List.drop_zero, List.nil_append] at e
  unfold dworth_S
  rw [e]
  simp only [Option.bind_some]
  rw [sum_v (m := 1000) (by omega) (by omega) (by omega) (fun x hx => by have := wlJ_bound hA l 0 x hx; omega), wlJ_sum]; rfl
theorem rworth_l1_p (hN : 110 ≤ N) (h : Fine W s L F R) {l : List Int} (hl : l.length ≤ L.length) (hm : l.all (inm F.length) = true) : ∀ (n k : Nat) (x : Int), l.length < n + k → k ≤ l.length → 0 ≤ x ∧ x ≤ 50 * k → rworth_l1 N n l x k W s L F R = some (x + valJ (agF W L F) k (l.drop k))
  | 0, k, _, h, _, _ => by omega
  | n + 1, k, x, hn, hk, hx0 => by
    unfold rworth_l1
    have hl6 := h.l6
    by_cases c : k < l.length
    · have hx := List.all_eq_true.1 hm _ (getD_mem (d := 0) c)
      unfold inm at hx
      rw [decide_eq_true_eq] at hx
      have hj : ∀ x, 0 ≤ x ∧ x ≤ 50 * ((k : Int) + 1) → rworth_j1 N (rworth_l1 N n) l x k W s L F R = some (x + valJ (agF W L F) (k + 1) (l.drop (k + 1))) := fun x hx0 => by
        have ih := rworth_l1_p hN h hl hm n (k + 1) x (by omega) (by omega) (by omega)
        rw [nat_succ] at ih
        unfold rworth_j1
        rw [chk_eq (by omega), ih]
      rw [br_dec (by omega), idx_eq (by omega) (gets c 0), drop_cons c 0, valJ]
      by_cases c1 : l.getD k 0 = -1
      · rw [br_ndec (by omega), hj _ (by omega), c1, pv_none, Int.zero_add]
      · obtain ⟨q, hq⟩ : ∃ q : Nat, l.getD k 0 = q := ⟨(l.getD k 0).toNat, by omega⟩
        rw [br_dec (by omega), idx_eq (by omega) (gets c 0)]
        rw [hq] at hx ⊢
        have hb := agF_bound h k q
        rw [rpair_v hN h (by omega) (by omega), pv_some]
        simp only [Option.bind_some]
        rw [chk_eq (by omega), hj _ (by omega)]
        congr 1; omega
    · rw [br_ndec (by omega), List.drop_of_length_le (by omega)]
      simp [valJ]
theorem rworth_v (hN : 110 ≤ N) (h : Fine W s L F R) {l : List Int} (hl : l.length ≤ L.length) (hm : l.all (inm F.length) = true) : rworth_S N W s L F R l = some (valJ (agF W L F) 0 l) := by
  have e := rworth_l1_p hN h hl hm N 0 0 (by have := h.l6; omega) (by omega) (by omega)
  rw [show ((0 : Nat) : Int) = 0 from rfl, List.drop_zero, Int.zero_add] at e
  unfold rworth_S
  rw [e]; rfl
/-- What joins without an error are. -/
theorem errJ_fine {e : Int} {n m : Nat} {can : Nat → Nat → Bool} {l : List Int} (h : errJ e n m can l = 0) : e = 0 ∧ l.length = n ∧ l.all (inm m) = true ∧ alI (dupI l) l.length = true ∧ alI (cnI can l) l.length = true := by
  unfold errJ at h
  split at h
  · rename_i c; exact absurd h c
  rename_i c
  split at h
  · cases h
  rename_i c1
  split at h
  · cases h
  rename_i c2
  split at h
  · cases h
  rename_i c3
  split at h
  · cases h
  rename_i c4
  exact ⟨by omega, by omega, by simpa using c2, by simpa using c3, by simpa using c4⟩
/-! ### What may be joined -/
def mayE (can : Nat → Nat → Bool) (m i : Nat) : List (Int × Unit) := (mayL can m i).map fun (j : Nat) => ((j : Int), ())
theorem mayR_T (hF : F.length ≤ 6) {i : Nat} (hi : i < 6) : mayR (dkT W s L F R A B) (dkT W s L F R A B) i = some (mayE (canT A B s) F.length i) := by
  unfold mayR mayE mayL mayF
  rw [if_pos ⟨⟨by omega, by omega⟩, hF, tabA_len _, tabA_len _⟩]
  congr 2
  simp only [Int.toNat_natCast, Nat.sub_zero]
  rw [← List.range_eq_range']
  refine List.filter_congr fun k hk => ?_
  have hk : k < F.length := by simpa [dkT] using hk
  unfold canD canT
  rw [agD_T hi (by omega), slD_T hi (by omega)]; rfl
end
end Go.Proofs.Ythncjilcflilcaa

namespace Go.Proofs.Ythncjilcflilcaa
set_option linter.all false
open Go

section
variable {W : List Int} {s : Int} {L F : List (List Int)} {R : List Int} {A B : Nat → Nat → Int} {N : Nat}
/-! ### Copies -/
theorem copyr_l1_p {l : List (List Int)} (hl : l.length ≤ 1000000) (hr : ∀ x ∈ l, x.length ≤ 1000000) : ∀ n k : Nat, l.length < n + k → k ≤ l.length → copyr_l1 N n l l.length k (l.take k ++ List.replicate (l.length - k) []) = some l
  | 0, k, h, _ => by omega
  | n + 1, k, h, hk => by
    unfold copyr_l1
    by_cases c : k < l.length
    · have ih := copyr_l1_p hl hr n (k + 1) (by omega) (by omega)
      rw [nat_succ, take_succ' c []] at ih
      rw [br_dec (by omega), idx_eq (by omega) (gets c []), copyi_v (hr _ (getD_mem c))]
      simp only [Option.bind_some, Int.toNat_natCast]
      have hlen : (l.take k ++ List.replicate (l.length - k) ([] : List Int)).length = l.length := by simp; omega
      rw [rng_eq (by rw [hlen]; omega), get_get [] (by rw [hlen]; exact c), chk_eq (by omega), ← ih]
      congr 1
      rw [List.set_append_right _ _ (by simp; omega), show k - (l.take k).length = 0 by simp; omega, show l.length - k = (l.length - (k + 1)) + 1 by omega, List.replicate_succ]
      simp
    · rw [br_ndec (by omega), List.take_of_length_le (by omega), show l.length - k = 0 by omega]; simp
theorem copyr_v {l : List (List Int)} (hl : l.length ≤ 1000000) (hN : l.length < N) (hr : ∀ x ∈ l, x.length ≤ 1000000) : copyr_S N l = some l := by
  unfold copyr_S
  have e := copyr_l1_p (N := N) hl hr N 0 (by omega) (by omega)
  simp only [List.take_zero, List.nil_append, Nat.sub_zero, Int.natCast_zero] at e
  rw [grd_eq (lmI_iff.2 (by omega)), Int.toNat_natCast, e]; rfl
theorem copyd_v (hN : 110 ≤ N) (h : Sm W L F R) : copyd_S N W s L F R = some (W, s, L, F, R) := by
  obtain ⟨hw, hl, hf, hr, hlr, hfr⟩ := h
  unfold copyd_S
  rw [copyi_v (by omega), copyr_v (by omega) (by omega) (fun x hx => by have := hlr x hx; omega), copyr_v (by omega) (by omega) (fun x hx => by have := hfr x hx; omega), copyi_v (by omega)]; rfl
theorem equali_v {l : List Int} (h : l.length ≤ 1000) (hN : l.length < N) : equali_S N l l = some true := by
  have := likei_v h hN
  unfold likei_S at this
  cases e : equali_S N l l with
  | none => rw [e] at this; cases this
  | some b => rw [e] at this; exact this
theorem liker_v {l : List (List Int)} (hl : l.length ≤ 1000) (hN : l.length < N) (hr : ∀ x ∈ l, x.length ≤ 1000 ∧ x.length < N) : liker_S N l l = some true := by
  have e : ∀ (n k : Nat), l.length < n + k → k ≤ l.length → equalf_l1 N n l l l.length k = some (.inr ()) := by
    intro n
    induction n with
    | zero => intro k h _; omega
    | succ n ih =>
      intro k h2 hk
      unfold equalf_l1
      by_cases c : k < l.length
      · have := ih (k + 1) (by omega) (by omega)
        rw [nat_succ] at this
        have hx := hr _ (getD_mem (d := []) c)
        rw [br_dec (by omega), idx_eq (by omega) (gets c []), idx_eq (by omega) (gets c []), equali_v hx.1 hx.2]
        simp only [Option.bind_some]
        rw [Bool.not_true, br_false, chk_eq (by omega), this]
      · rw [br_ndec (by omega)]
  have e0 := e N 0 (by omega) (by omega)
  simp only [Int.natCast_zero] at e0
  unfold liker_S equalf_S
  rw [br_nd rfl, e0]; rfl
theorem same_v (hN : 110 ≤ N) (h : Sm W L F R) : same_S N W s L F R W s L F R = some true := by
  obtain ⟨hw, hl, hf, hr, hlr, hfr⟩ := h
  unfold same_S
  rw [likei_v (by omega) (by omega), likei_v (by omega) (by omega), liker_v (by omega) (by omega) (fun x hx => ⟨by have := hlr x hx; omega, by have := hlr x hx; omega⟩), liker_v (by omega) (by omega) (fun x hx => ⟨by have := hfr x hx; omega, by have := hfr x hx; omega⟩)]
  simp [br]
theorem great_l2_p {u u2 : Int} {g : List (List (List Int))} {l : List (List Int)} (hl : l.length ≤ 1000000) : ∀ n k : Nat, l.length < n + k → k ≤ l.length → great_l2 N n u u2 l l.length k g = alls (fun r => decide ((r.length : Int) ≤ 12)) l k (u, u2, g)
  | 0, k, h, _ => by omega
  | n + 1, k, h, hk => by
    unfold great_l2
    by_cases c : k < l.length
    · have ih := great_l2_p (u := u) (u2 := u2) (g := g) hl n (k + 1) (by omega) (by omega)
      rw [nat_succ] at ih
      rw [br_dec (by omega), idx_eq (by omega) (gets c [])]
      by_cases d : 12 < ((l.getD k []).length : Int)
      · rw [br_dec d, alls_no [] c (by rw [decide_eq_false (by omega)])]
      · rw [br_ndec d, chk_eq (by omega), ih, alls_yes [] c (by rw [decide_eq_true (by omega)])]
    · rw [br_ndec (by omega), alls_end (by omega)]
theorem great_v (hN : 110 ≤ N) : great_S N W s L F R = some true ∨ great_S N W s L F R = some false ∧ Sm W L F R := by
  unfold great_S
  by_cases c1 : 10 < (W.length : Int)
  · rw [br_dec c1]; exact .inl rfl
  rw [br_ndec c1]
  by_cases c2 : 10 < (L.length : Int)
  · rw [br_dec c2]; exact .inl rfl
  rw [br_ndec c2]
  by_cases c3 : 10 < (F.length : Int)
  · rw [br_dec c3]; exact .inl rfl
  rw [br_ndec c3]
  by_cases c4 : 12 < (R.length : Int)
  · rw [br_dec c4]; exact .inl rfl
  rw [br_ndec c4]
  obtain ⟨n, rfl⟩ : ∃ n, N = n + 3 := ⟨N - 3, by omega⟩
  have e1 := great_l2_p (N := n + 3) (u := 2) (u2 := 0) (g := [L, F]) (l := L) (by omega) (n + 3) 0 (by omega) (by omega)
  have e2 := great_l2_p (N := n + 3) (u := 2) (u2 := 1) (g := [L, F]) (l := F) (by omega) (n + 3) 0 (by omega) (by omega)
  unfold alls at e1 e2
  simp only [List.drop_zero, Int.natCast_zero] at e1 e2
  have hl : (([L, F] : List (List (List Int))).length : Int) = 2 := rfl
  rw [hl]
  rw [great_l1, br_dec (by omega), rng_eq (by simp)]
  rw [show get [L, F] (0 : Int).toNat = fun f => f L from rfl]
  dsimp only
  rw [e1]
  by_cases d1 : L.all (fun r => decide ((r.length : Int) ≤ 12)) = true
  rotate_left
  · rw [if_neg d1]; exact .inl rfl
  rw [if_pos d1]
  simp only [Option.bind_some]
  rw [chk_eq (by omega), great_l1, br_dec (by omega), rng_eq (by simp)]
  rw [show get [L, F] ((0 : Int) + 1).toNat = fun f => f F from rfl]
  dsimp only
  rw [show ((0 : Int) + 1) = 1 from rfl, e2]
  by_cases d2 : F.all (fun r => decide ((r.length : Int) ≤ 12)) = true
  rotate_left
  · rw [if_neg d2]; exact .inl rfl
  rw [if_pos d2]
  simp only [Option.bind_some]
  rw [chk_eq (by omega), great_l1, br_ndec (by omega)]
  simp only [List.all_eq_true, decide_eq_true_eq] at d1 d2
  exact .inr ⟨rfl, by omega, by omega, by omega, by omega, fun x hx => by have := d1 x hx; omega, fun x hx => by have := d2 x hx; omega⟩
end
end Go.Proofs.Ythncjilcflilcaa

namespace Go.Proofs.Ythncjilcflilcaa
set_option linter.all false
open Go

abbrev MK := List ((Int × Int) × (Int × (Int × Int)))
def lkM (g : MK) (i u : Int) : Option (Int × (Int × Int)) := (g.find? fun (y : (Int × Int) × (Int × (Int × Int))) => Ty.beq (.pair (.int .i64) (.int .i64)) y.1 (i, u)).map (·.2)
theorem lkM_cons (a b : Int) (v : Int × (Int × Int)) (g : MK) (i u : Int) : lkM (((a, b), v) :: g) i u = if a = i ∧ b = u then some v else lkM g i u := by
  have e : Ty.beq (.pair (.int .i64) (.int .i64)) (a, b) (i, u) = decide (a = i ∧ b = u) := by
    show (decide (a = i) && decide (b = u)) = _
    by_cases h1 : a = i <;> by_cases h2 : b = u <;> simp [h1, h2]
  unfold lkM
  rw [List.find?_cons]
  by_cases h : a = i ∧ b = u
  · rw [if_pos h, show (Ty.beq (.pair (.int .i64) (.int .i64)) (((a, b), v) : (Int × Int) × (Int × (Int × Int))).1 (i, u)) = true by rw [e, decide_eq_true h]]; rfl
  · rw [if_neg h, show (Ty.beq (.pair (.int .i64) (.int .i64)) (((a, b), v) : (Int × Int) × (Int × (Int × Int))).1 (i, u)) = false by rw [e, decide_eq_false h]]
theorem lkM_some (g : MK) (i u : Int) : (g.find? fun (y : (Int × Int) × (Int × (Int × Int))) => Ty.beq (.pair (.int .i64) (.int .i64)) y.1 (i, u)).isSome = (lkM g i u).isSome := by
  unfold lkM; rw [Option.isSome_map]
def hasM (g : MK) (i u : Nat) : Prop := (lkM g i u).isSome = true
def subM (g g' : MK) : Prop := ∀ i u : Nat, hasM g i u → hasM g' i u
theorem subM.refl (g : MK) : subM g g := fun _ _ h => h
theorem subM.trans {a b c : MK} (h : subM a b) (k : subM b c) : subM a c := fun i u x => k i u (h i u x)
/-- What is remembered is right, and so is what follows from it. -/
structure MOK (can : Nat → Nat → Bool) (t : Nat → Nat → Int) (m n : Nat) (g : MK) : Prop where
  val : ∀ (i u : Nat) v, lkM g i u = some v → v = rsR can t m (n - i) i u
  clo : ∀ i u : Nat, hasM g i u → i + 1 < n → hasM g (i + 1) u ∧ ∀ k ∈ mayL can m i, u.testBit k = false → hasM g (i + 1) (u ||| 2 ^ k)
theorem MOK.nil {can : Nat → Nat → Bool} {t : Nat → Nat → Int} {m n : Nat} : MOK can t m n [] := ⟨fun i u v h => by simp [lkM] at h, fun i u h => by simp [hasM, lkM] at h⟩
theorem MOK.cons {can : Nat → Nat → Bool} {t : Nat → Nat → Int} {m n : Nat} {g : MK} (h : MOK can t m n g) {i u : Nat} (h1 : i + 1 < n → hasM g (i + 1) u ∧ ∀ k ∈ mayL can m i, u.testBit k = false → hasM g (i + 1) (u ||| 2 ^ k)) :
    MOK can t m n ((((i : Int), (u : Int)), rsR can t m (n - i) i u) :: g) ∧ subM g ((((i : Int), (u : Int)), rsR can t m (n - i) i u) :: g) ∧ hasM ((((i : Int), (u : Int)), rsR can t m (n - i) i u) :: g) i u := by
  have hsub : subM g ((((i : Int), (u : Int)), rsR can t m (n - i) i u) :: g) := fun i' u' hh => by
    unfold hasM at *
    rw [lkM_cons]
    split
    · rfl
    · exact hh
  refine ⟨⟨fun i' u' v hv => ?_, fun i' u' hh hi => ?_⟩, hsub, ?_⟩
  · rw [lkM_cons] at hv
    split at hv
    · rename_i e
      obtain rfl : i = i' := by omega
      obtain rfl : u = u' := by omega
      simp only [Option.some.injEq] at hv
      exact hv.symm
    · exact h.val i' u' v hv
  · unfold hasM at hh
    rw [lkM_cons] at hh
    split at hh
    · rename_i e
      obtain rfl : i = i' := by omega
      obtain rfl : u = u' := by omega
      exact ⟨hsub _ _ (h1 hi).1, fun k hk hb => hsub _ _ ((h1 hi).2 k hk hb)⟩
    · obtain ⟨x, y⟩ := h.clo i' u' hh hi
      exact ⟨hsub _ _ x, fun k hk hb => hsub _ _ (y k hk hb)⟩
  · unfold hasM
    rw [lkM_cons, if_pos ⟨rfl, rfl⟩]; rfl
theorem MOK.get {can : Nat → Nat → Bool} {t : Nat → Nat → Int} {m n : Nat} {g : MK} (h : MOK can t m n g) {i u : Nat} (hh : hasM g i u) : lkM g i u = some (rsR can t m (n - i) i u) := by
  unfold hasM at hh
  cases e : lkM g i u with
  | none => rw [e] at hh; cases hh
  | some v => rw [h.val i u v e]
/-! ### Bounds -/
theorem flatMap_len {α β : Type} {f : α → List β} {B : Nat} : ∀ {l : List α}, (∀ x ∈ l, (f x).length ≤ B) → (l.flatMap f).length ≤ l.length * B
  | [], _ => by simp
  | x :: l, h => by
    have h1 := h x (by simp)
    have h2 := flatMap_len (l := l) (fun y hy => h y (by simp [hy]))
    rw [List.flatMap_cons, List.length_append, List.length_cons, Nat.add_mul]; omega
theorem mayL_len (can : Nat → Nat → Bool) (m i : Nat) : (mayL can m i).length ≤ m := by
  have := List.length_filter_le (can i) (List.range m)
  simpa [mayL] using this
theorem joinsL_len {can : Nat → Nat → Bool} {m : Nat} (hm : m ≤ 6) : ∀ d i u : Nat, (joinsL can m d i u).length ≤ 7 ^ d
  | 0, _, _ => by simp [joinsL]
  | d + 1, i, u => by
    have h1 := joinsL_len (can := can) hm d (i + 1) u
    have h2 : ((mayL can m i).flatMap fun k => if u.testBit k then [] else (joinsL can m d (i + 1) (u ||| 2 ^ k)).map ((k : Int) :: ·)).length ≤ (mayL can m i).length * 7 ^ d := flatMap_len fun k _ => by
      split
      · simp
      · rw [List.length_map]; exact joinsL_len hm d (i + 1) _
    have h3 := mayL_len can m i
    have h4 : (mayL can m i).length * 7 ^ d ≤ 6 * 7 ^ d := Nat.mul_le_mul_right _ (by omega)
    rw [joinsL, List.length_append, List.length_map, Nat.pow_succ]
    omega
theorem rs_bound {can : Nat → Nat → Bool} {t : Nat → Nat → Int} {m : Nat} (hm : m ≤ 6) {T : Int} (ht : ∀ i k, 0 ≤ t i k ∧ t i k ≤ T) (hT : 0 ≤ T) (d i u : Nat) :
    (0 ≤ (rsR can t m d i u).2.1 ∧ (rsR can t m d i u).2.1 ≤ T * d) ∧ 0 ≤ (rsR can t m d i u).2.2 ∧ (rsR can t m d i u).2.2 ≤ ((7 ^ d : Nat) : Int) := by
  obtain ⟨q1, q2, q3⟩ := bl_best (can := can) (t := t) (m := m) d i u
  have hb := rs_bst (can := can) (t := t) (m := m) d i u
  have h1 := valJ_bound ht hT (blR can t m d i u) i
  rw [q2, q3] at h1
  have h2 := List.countP_le_length (p := fun l => decide (valJ t i l = (rsR can t m d i u).2.1)) (l := joinsL can m d i u)
  have h3 := joinsL_len (can := can) hm d i u
  have h4 := hb.ways
  exact ⟨h1, by omega, by omega⟩
theorem bit_of {u k : Nat} : ((((Int.fdiv (u : Int) (2 ^ ((k : Nat) : Int).toNat)).toNat &&& 1 : Nat) : Int) = 1) ↔ u.testBit k = true := by
  have e : (Int.fdiv (u : Int) (2 ^ ((k : Nat) : Int).toNat)).toNat = u / 2 ^ k := by
    rw [Int.toNat_natCast, Int.fdiv_eq_ediv_of_nonneg _ (by exact Int.le_of_lt (Int.pow_pos (by omega)))]
    rw [show ((2 : Int) ^ k) = ((2 ^ k : Nat) : Int) by simp, ← Int.natCast_ediv, Int.toNat_natCast]
  rw [e, Nat.and_one_is_mod, Nat.testBit_eq_decide_div_mod_eq, decide_eq_true_eq]
  omega
theorem fdiv_nn {u k : Nat} : 0 ≤ Int.fdiv (u : Int) (2 ^ ((k : Nat) : Int).toNat) := Int.fdiv_nonneg (by omega) (Int.le_of_lt (Int.pow_pos (by omega)))
theorem pow_small {k : Nat} (hk : k < 6) : ∃ q : Nat, 2 ^ k = q ∧ ((1 : Int) * 2 ^ ((k : Nat) : Int).toNat) = (q : Int) ∧ q < 64 := by
  refine ⟨_, rfl, by simp, ?_⟩
  have : 2 ^ k < 2 ^ 6 := Nat.pow_lt_pow_right (by omega) hk
  simpa using this
theorem or_small {u k : Nat} (hu : u < 64) (hk : k < 6) : u ||| 2 ^ k < 64 := Nat.or_lt_two_pow (n := 6) hu (by obtain ⟨q, h1, _, h2⟩ := pow_small hk; omega)
section
variable {W : List Int} {s : Int} {L F : List (List Int)} {R : List Int} {A B : Nat → Nat → Int} {N : Nat}
theorem tastep_v {i k : Nat} (hi : i < 6) (hk : k < 6) : tastep_S N i k (dkT W s L F R A B) = some (A i k) := by
  unfold tastep_S
  rw [rng_eq (by omega), rng_eq (by omega)]
  simp only [Int.toNat_natCast]
  rw [get_T hi hk]
theorem restp_l1_p {t : Nat → Nat → Int} (hF : F.length ≤ 6) (hL : L.length ≤ 6) (ht : ∀ i k, 0 ≤ t i k ∧ t i k ≤ 30000) (htv : ∀ i k : Nat, i < L.length → k < F.length → tastep_S N i k (dkT W s L F R A B) = some (t i k)) {self : Int → Int → Dk → Dk → Dk → Dk → MK → Option (Int × Int × Int × Dk × Dk × MK)} {i d u : Nat} (hi : i + 1 + d = L.length) (hu : u < 64)
    (hself : ∀ (u : Nat) g, u < 64 → MOK (canT A B s) t F.length L.length g → ∃ g', self ((i : Int) + 1) u (dkT W s L F R A B) (dkT W s L F R A B) (dkT W s L F R A B) (dkT W s L F R A B) g = some ((rsR (canT A B s) t F.length d (i + 1) u).1, (rsR (canT A B s) t F.length d (i + 1) u).2.1, (rsR (canT A B s) t F.length d (i + 1) u).2.2, dkT W s L F R A B, dkT W s L F R A B, g') ∧ MOK (canT A B s) t F.length L.length g' ∧ subM g g' ∧ (i + 1 < L.length → hasM g' (i + 1) u))
    {x4 : Int} {P : Nat} (hP : 7 ^ d = P) : ∀ (ks : List Nat) (g : MK) (b : Int × Int × Int) (Wb : Nat), (∀ k ∈ ks, k < F.length) → MOK (canT A B s) t F.length L.length g → (0 ≤ b.2.1 ∧ b.2.1 ≤ 30000 * (d + 1)) → 0 ≤ b.2.2 → b.2.2 ≤ Wb → Wb + ks.length * P ≤ 10000000 →
      ∃ g', restp_l1 N self (ks.map fun (j : Nat) => ((j : Int), ())) (dkT W s L F R A B) (dkT W s L F R A B) (dkT W s L F R A B) x4 (dkT W s L F R A B) (dkT W s L F R A B) g i u 0 0 0 b.1 b.2.1 b.2.2 =
        some (dkT W s L F R A B, dkT W s L F R A B, g', (i : Int), (u : Int), 0, 0, 0, (ks.foldl (rsS t (rsR (canT A B s) t F.length d (i + 1)) i u) b).1, (ks.foldl (rsS t (rsR (canT A B s) t F.length d (i + 1)) i u) b).2.1, (ks.foldl (rsS t (rsR (canT A B s) t F.length d (i + 1)) i u) b).2.2) ∧
        MOK (canT A B s) t F.length L.length g' ∧ subM g g' ∧ ∀ k ∈ ks, u.testBit k = false → i + 1 < L.length → hasM g' (i + 1) (u ||| 2 ^ k)
  | [], g, b, Wb, _, hg, _, _, _, _ => ⟨g, rfl, hg, subM.refl g, fun k hk => by cases hk⟩
  | k :: ks, g, b, Wb, hk, hg, hb1, hb2, hb3, hWb => by
    have hk0 := hk k (by simp)
    have hks : ∀ x ∈ ks, x < F.length := fun x hx => hk x (by simp [hx])
    rw [List.length_cons, Nat.add_mul, Nat.one_mul] at hWb
    rw [List.map_cons, List.foldl_cons, restp_l1, restp_l1_b]
    dsimp only
    rw [grd_eq (by rw [decide_eq_true_eq]; omega), grd_eq (by rw [decide_eq_true_eq]; exact ⟨fdiv_nn, by omega⟩)]
    by_cases hbit : u.testBit k = true
    · rw [br_dec (bit_of.2 hbit)]
      obtain ⟨g', e1, e2, e3, e4⟩ := restp_l1_p hF hL ht htv hi hu hself (x4 := x4) hP ks g b Wb hks hg hb1 hb2 hb3 (by omega)
      have es : rsS t (rsR (canT A B s) t F.length d (i + 1)) i u b k = b := by unfold rsS; rw [if_pos hbit]
      rw [es]
      refine ⟨g', e1, e2, e3, fun x hx hxb hi => ?_⟩
      rcases List.mem_cons.1 hx with rfl | hx
      · rw [hbit] at hxb; cases hxb
      · exact e4 x hx hxb hi
    · rw [br_ndec (fun h => hbit (bit_of.1 h))]
      obtain ⟨q, hq, p1, p2⟩ := pow_small (k := k) (by omega)
      rw [chk_eq (by omega), grd_eq (by rw [decide_eq_true_eq]; omega), p1, chk_eq (by omega), grd_eq (by rw [decide_eq_true_eq]; omega)]
      simp only [Int.toNat_natCast]
      subst hq
      have hu' := or_small hu (show k < 6 by omega)
      obtain ⟨g1, e1, e2, e3, e4⟩ := hself (u ||| 2 ^ k) g hu' hg
      rw [e1]
      simp only [Option.bind_some]
      rw [htv i k (by omega) hk0]
      simp only [Option.bind_some]
      obtain ⟨⟨r1, r2⟩, r3, r4⟩ := rs_bound (can := canT A B s) (t := t) hF ht (by omega) d (i + 1) (u ||| 2 ^ k)
      have ht0 := ht i k
      have hd : (d : Int) ≤ 5 := by omega
      rw [hP] at r4
      have hbit' : u.testBit k = false := by simpa using hbit
      have fin : ∀ b', rsS t (rsR (canT A B s) t F.length d (i + 1)) i u b k = b' → (0 ≤ b'.2.1 ∧ b'.2.1 ≤ 30000 * (d + 1)) → 0 ≤ b'.2.2 → b'.2.2 ≤ ((Wb + P : Nat) : Int) → ∃ g', restp_l1 N self (ks.map fun (j : Nat) => ((j : Int), ())) (dkT W s L F R A B) (dkT W s L F R A B) (dkT W s L F R A B) x4 (dkT W s L F R A B) (dkT W s L F R A B) g1 i u 0 0 0 b'.1 b'.2.1 b'.2.2 =
        some (dkT W s L F R A B, dkT W s L F R A B, g', (i : Int), (u : Int), 0, 0, 0, (ks.foldl (rsS t (rsR (canT A B s) t F.length d (i + 1)) i u) (rsS t (rsR (canT A B s) t F.length d (i + 1)) i u b k)).1, (ks.foldl (rsS t (rsR (canT A B s) t F.length d (i + 1)) i u) (rsS t (rsR (canT A B s) t F.length d (i + 1)) i u b k)).2.1, (ks.foldl (rsS t (rsR (canT A B s) t F.length d (i + 1)) i u) (rsS t (rsR (canT A B s) t F.length d (i + 1)) i u b k)).2.2) ∧
        MOK (canT A B s) t F.length L.length g' ∧ subM g g' ∧ ∀ x ∈ k :: ks, u.testBit x = false → i + 1 < L.length → hasM g' (i + 1) (u ||| 2 ^ x) := fun b' hb' q1 q2 q3 => by
        obtain ⟨g', f1, f2, f3, f4⟩ := restp_l1_p hF hL ht htv hi hu hself (x4 := x4) hP ks g1 b' (Wb + P) hks e2 q1 q2 q3 (by omega)
        rw [hb']
        refine ⟨g', f1, f2, e3.trans f3, fun x hx hxb hi => ?_⟩
        rcases List.mem_cons.1 hx with rfl | hx
        · exact f3 _ _ (e4 hi)
        · exact f4 x hx hxb hi
      have es : rsS t (rsR (canT A B s) t F.length d (i + 1)) i u b k = if b.2.1 < (rsR (canT A B s) t F.length d (i + 1) (u ||| 2 ^ k)).2.1 + t i k then ((k : Int), (rsR (canT A B s) t F.length d (i + 1) (u ||| 2 ^ k)).2.1 + t i k, (rsR (canT A B s) t F.length d (i + 1) (u ||| 2 ^ k)).2.2)
          else if (rsR (canT A B s) t F.length d (i + 1) (u ||| 2 ^ k)).2.1 + t i k = b.2.1 then (b.1, b.2.1, b.2.2 + (rsR (canT A B s) t F.length d (i + 1) (u ||| 2 ^ k)).2.2) else b := by
        unfold rsS; rw [if_neg hbit]
      have hmul : 30000 * ((d : Int) + 1) = 30000 * d + 30000 := by omega
      rw [chk_eq (by omega)]
      by_cases c1 : b.2.1 < (rsR (canT A B s) t F.length d (i + 1) (u ||| 2 ^ k)).2.1 + t i k
      · rw [if_pos c1] at es
        rw [br_dec c1]
        exact fin _ es ⟨by dsimp only; omega, by dsimp only; omega⟩ (by dsimp only; omega) (by dsimp only; omega)
      · rw [if_neg c1] at es
        rw [br_ndec c1]
        by_cases c2 : (rsR (canT A B s) t F.length d (i + 1) (u ||| 2 ^ k)).2.1 + t i k = b.2.1
        · rw [if_pos c2] at es
          rw [br_dec c2, chk_eq (by omega)]
          exact fin _ es hb1 (by dsimp only; omega) (by dsimp only; omega)
        · rw [if_neg c2] at es
          rw [br_ndec c2]
          exact fin _ es hb1 hb2 (by omega)
theorem restp_R_p {t : Nat → Nat → Int} (hF : F.length ≤ 6) (hL : L.length ≤ 6) (ht : ∀ i k, 0 ≤ t i k ∧ t i k ≤ 30000) (htv : ∀ i k : Nat, i < L.length → k < F.length → tastep_S N i k (dkT W s L F R A B) = some (t i k)) :
    ∀ (fu d i u : Nat) (g : MK), d < fu → i + d = L.length → u < 64 → MOK (canT A B s) t F.length L.length g →
      ∃ g', restp_R N fu i u (dkT W s L F R A B) (dkT W s L F R A B) (dkT W s L F R A B) (dkT W s L F R A B) g = some ((rsR (canT A B s) t F.length d i u).1, (rsR (canT A B s) t F.length d i u).2.1, (rsR (canT A B s) t F.length d i u).2.2, dkT W s L F R A B, dkT W s L F R A B, g') ∧ MOK (canT A B s) t F.length L.length g' ∧ subM g g' ∧ (i < L.length → hasM g' i u)
  | 0, d, i, u, g, h, _, _, _ => by omega
  | fu + 1, d, i, u, g, h, hid, hu, hg => by
    show ∃ g', restp_S N (restp_R N fu) i u (dkT W s L F R A B) (dkT W s L F R A B) (dkT W s L F R A B) (dkT W s L F R A B) g = _ ∧ _
    unfold restp_S
    have hdl : (dkT W s L F R A B).2.2.1.length = L.length := rfl
    rw [hdl]
    cases d with
    | zero =>
      rw [br_dec (by omega)]
      exact ⟨g, rfl, hg, subM.refl g, fun h => by omega⟩
    | succ d =>
      rw [br_ndec (by omega), lkM_some]
      by_cases c : hasM g i u
      · have e := hg.get c
        rw [show L.length - i = d + 1 by omega] at e
        unfold hasM at c
        rw [c, br_true]
        unfold lkM at e
        rw [e]
        exact ⟨g, rfl, hg, subM.refl g, fun _ => c⟩
      · rw [Bool.eq_false_iff.2 c, br_false, chk_eq (by omega)]
        have hself : ∀ (u : Nat) g, u < 64 → MOK (canT A B s) t F.length L.length g → ∃ g', restp_R N fu ((i : Int) + 1) u (dkT W s L F R A B) (dkT W s L F R A B) (dkT W s L F R A B) (dkT W s L F R A B) g = some ((rsR (canT A B s) t F.length d (i + 1) u).1, (rsR (canT A B s) t F.length d (i + 1) u).2.1, (rsR (canT A B s) t F.length d (i + 1) u).2.2, dkT W s L F R A B, dkT W s L F R A B, g') ∧ MOK (canT A B s) t F.length L.length g' ∧ subM g g' ∧ (i + 1 < L.length → hasM g' (i + 1) u) := fun u g hu hg => by
          have := restp_R_p hF hL ht htv fu d (i + 1) u g (by omega) (by omega) hu hg
          rwa [nat_succ] at this
        obtain ⟨g1, e1, e2, e3, e4⟩ := hself u g hu hg
        rw [e1]
        simp only [Option.bind_some]
        have em : may_S N (dkT W s L F R A B) (i : Int) = some (dkT W s L F R A B, dkT W s L F R A B, (i : Int)) := rfl
        rw [em]
        simp only [Option.bind_some]
        rw [mayR_T hF (by omega)]
        simp only [Option.bind_some]
        obtain ⟨⟨r1, r2⟩, r3, r4⟩ := rs_bound (can := canT A B s) (t := t) hF ht (by omega) d (i + 1) u
        have h7 : (7 : Nat) ^ d ≤ 7 ^ 5 := Nat.pow_le_pow_right (by omega) (by omega)
        have h7' : (mayL (canT A B s) F.length i).length * 7 ^ d ≤ 6 * 7 ^ 5 := Nat.mul_le_mul (by have := mayL_len (canT A B s) F.length i; omega) h7
        obtain ⟨g2, f1, f2, f3, f4⟩ := restp_l1_p hF hL ht htv (i := i) (d := d) (u := u) (by omega) hu hself (x4 := (i : Int)) rfl (mayL (canT A B s) F.length i) g1 (-1, (rsR (canT A B s) t F.length d (i + 1) u).2.1, (rsR (canT A B s) t F.length d (i + 1) u).2.2) (7 ^ d)
          (fun k hk => (mem_mayL.1 hk).1) e2 ⟨r1, by dsimp only; omega⟩ r3 r4 (by omega)
        unfold mayE
        rw [f1]
        simp only [Option.bind_some]
        have er : rsR (canT A B s) t F.length (d + 1) i u = (mayL (canT A B s) F.length i).foldl (rsS t (rsR (canT A B s) t F.length d (i + 1)) i u) (-1, (rsR (canT A B s) t F.length d (i + 1) u).2.1, (rsR (canT A B s) t F.length d (i + 1) u).2.2) := rfl
        rw [← er]
        obtain ⟨k1, k2, k3⟩ := f2.cons (i := i) (u := u) (fun hi => ⟨f3 _ _ (e4 hi), fun k hk hb => f4 k hk hb hi⟩)
        rw [show L.length - i = d + 1 by omega] at k1 k2 k3
        exact ⟨_, rfl, k1, e3.trans (f3.trans k2), fun _ => k3⟩
theorem restsp_v {t : Nat → Nat → Int} (hN : 110 ≤ N) (hF : F.length ≤ 6) (hL : L.length ≤ 6) (ht : ∀ i k, 0 ≤ t i k ∧ t i k ≤ 30000) (htv : ∀ i k : Nat, i < L.length → k < F.length → tastep_S N i k (dkT W s L F R A B) = some (t i k)) {u : Nat} (hu : u < 64) :
    ∃ g, restsp_S N (dkT W s L F R A B) (dkT W s L F R A B) u = some g ∧ (0 < L.length → MOK (canT A B s) t F.length L.length g ∧ hasM g 0 u) ∧ lkM g 0 u = some (rsR (canT A B s) t F.length L.length 0 u) := by
  obtain ⟨g, e1, e2, e3, e4⟩ := restp_R_p hF hL ht htv N L.length 0 u [] (by omega) (by omega) hu MOK.nil
  unfold restsp_S restsp_j1
  rw [show ((0 : Nat) : Int) = 0 from rfl] at e1
  rw [e1]
  simp only [Option.bind_some]
  refine ⟨_, rfl, fun h0 => ?_, by rw [lkM_cons, if_pos ⟨rfl, rfl⟩]⟩
  have hg : hasM g 0 u := e4 h0
  obtain ⟨k1, k2, k3⟩ := e2.cons (i := 0) (u := u) (fun hi => e2.clo 0 u hg hi)
  rw [Nat.sub_zero] at k1 k3
  exact ⟨k1, k3⟩
theorem first_v (hN : 110 ≤ N) (hF : F.length ≤ 6) (hL : L.length ≤ 6) (hA : ∀ i k, 0 ≤ A i k ∧ A i k ≤ 50) {u : Nat} (hu : u < 64) : first_S N (dkT W s L F R A B) u = some (rsR (canT A B s) A F.length L.length 0 u) := by
  obtain ⟨g, e1, _, e3⟩ := restsp_v (N := N) (W := W) (s := s) (R := R) (B := B) (A := A) (t := A) hN hF hL (fun i k => by have := hA i k; omega) (fun i k hi hk => tastep_v (by omega) (by omega)) hu
  unfold first_S
  rw [show plain_S N (dkT W s L F R A B) = some (dkT W s L F R A B) from rfl]
  simp only [Option.bind_some]
  rw [e1]
  simp only [Option.bind_some]
  unfold lkM at e3
  rw [e3]; rfl
end
end Go.Proofs.Ythncjilcflilcaa

namespace Go.Proofs.Ythncjilcflilcaa
set_option linter.all false
open Go

/-- All lists of numbers from -1 up to below m. -/
def rowX (m : Nat) (r : List Int) : List (List Int) := (List.range (m + 1)).map fun (k : Nat) => r ++ [(k : Int) - 1]
def listsR (m : Nat) : Nat → List (List Int)
  | 0 => [[]]
  | n + 1 => (listsR m n).flatMap (rowX m)
theorem listsR_len (m : Nat) : ∀ n : Nat, (listsR m n).length = (m + 1) ^ n
  | 0 => rfl
  | n + 1 => by
    have h : ∀ l : List (List Int), (l.flatMap (rowX m)).length = l.length * (m + 1) := by
      intro l
      induction l with
      | nil => simp
      | cons a l ih => rw [List.flatMap_cons, List.length_append, ih, List.length_cons, Nat.add_mul, rowX]; simp; omega
    rw [listsR, h, listsR_len m n, Nat.pow_succ]
theorem mem_listsR {m : Nat} : ∀ {n : Nat} {l : List Int}, l ∈ listsR m n ↔ l.length = n ∧ ∀ x ∈ l, -1 ≤ x ∧ x ≤ (m : Int) - 1
  | 0, l => by
    simp only [listsR, List.mem_singleton]
    constructor
    · rintro rfl; exact ⟨rfl, fun x hx => by cases hx⟩
    · rintro ⟨h, _⟩; exact List.eq_nil_of_length_eq_zero h
  | n + 1, l => by
    simp only [listsR, rowX, List.mem_flatMap, List.mem_map, List.mem_range]
    constructor
    · rintro ⟨r, hr, k, hk, rfl⟩
      obtain ⟨h1, h2⟩ := mem_listsR.1 hr
      refine ⟨by simp [h1], fun x hx => ?_⟩
      rcases List.mem_append.1 hx with hx | hx
      · exact h2 x hx
      · simp only [List.mem_singleton] at hx; omega
    · rintro ⟨h1, h2⟩
      have hne : l ≠ [] := fun e => by subst e; simp at h1
      have hlast := h2 _ (List.getLast_mem hne)
      refine ⟨l.dropLast, mem_listsR.2 ⟨by simp [h1], fun x hx => h2 x ((List.dropLast_sublist l).subset hx)⟩, (l.getLast hne + 1).toNat, by omega, ?_⟩
      rw [show (((l.getLast hne + 1).toNat : Nat) : Int) - 1 = l.getLast hne by omega]
      exact List.dropLast_concat_getLast hne
theorem nodup_listsR (m : Nat) : ∀ n : Nat, (listsR m n).Nodup
  | 0 => by simp [listsR]
  | n + 1 => by
    unfold listsR
    have key : ∀ l : List (List Int), l.Nodup → (l.flatMap (rowX m)).Nodup := by
      intro l hl
      induction l with
      | nil => simp
      | cons a l ih =>
        rw [List.nodup_cons] at hl
        rw [List.flatMap_cons, List.nodup_append]
        refine ⟨?_, ih hl.2, ?_⟩
        · unfold rowX List.Nodup
          rw [List.pairwise_map]
          refine List.Pairwise.imp ?_ List.nodup_range
          intro x y hxy e
          have := List.append_cancel_left e
          simp only [List.cons.injEq, and_true] at this
          omega
        · intro x hx y hy e
          subst e
          simp only [rowX, List.mem_map, List.mem_flatMap] at hx hy
          obtain ⟨k, _, rfl⟩ := hx
          obtain ⟨b, hb, j, _, e⟩ := hy
          have := (List.append_inj' e rfl).1
          subst this
          exact hl.1 hb
    exact key _ (nodup_listsR m n)
section
variable {N : Nat}
theorem lists_l2_p {self : Int → Int → Option (List (List Int))} {m i : Nat} {rest : List (List Int)} (hm : m ≤ 100) (hi : i < rest.length) (hr : (rest.getD i []).length ≤ 100) : ∀ (n j : Nat) (out : List (List Int)), m + 1 < n + j → j ≤ m + 1 → out.length + (m + 1 - j) ≤ 100000 →
    lists_l2 N self n m i ((j : Int) - 1) out rest = some ((m : Int), (i : Int), out ++ (List.range' j (m + 1 - j)).map (fun (k : Nat) => rest.getD i [] ++ [(k : Int) - 1]), rest)
  | 0, j, out, h, _, _ => by omega
  | n + 1, j, out, h, hj, ho => by
    unfold lists_l2
    by_cases c : j < m + 1
    · have ih := lists_l2_p (self := self) hm hi hr n (j + 1) (out ++ [rest.getD i [] ++ [(j : Int) - 1]]) (by omega) (by omega) (by simp; omega)
      rw [show ((j + 1 : Nat) : Int) - 1 = (j : Int) - 1 + 1 by omega] at ih
      rw [br_dec (by omega), rng_eq (by omega)]
      simp only [Int.toNat_natCast]
      rw [get_get [] hi, List.nil_append, lim_eq (by simp only [List.length_nil]; omega), lim_eq (by simp only [List.length_singleton]; omega), lim_eq (by simp only [List.length_singleton]; omega), chk_eq (by omega), ih]
      rw [show m + 1 - j = (m + 1 - (j + 1)) + 1 by omega, List.range'_succ, List.map_cons, List.append_assoc]; rfl
    · rw [br_ndec (by omega), show m + 1 - j = 0 by omega]
      simp
theorem lists_l1_p {self : Int → Int → Option (List (List Int))} {m : Nat} {rest : List (List Int)} (hm : m ≤ 100) (hN : m + 1 < N) (hr : ∀ r ∈ rest, r.length ≤ 100) (hlen : rest.length * (m + 1) ≤ 100000) : ∀ (n i : Nat) (out : List (List Int)), rest.length < n + i → i ≤ rest.length → out.length ≤ i * (m + 1) →
    lists_l1 N self n m i out rest = some (out ++ (rest.drop i).flatMap (rowX m))
  | 0, i, out, h, _, _ => by omega
  | n + 1, i, out, h, hi, ho => by
    unfold lists_l1
    have hlt : rest.length ≤ rest.length * (m + 1) := Nat.le_mul_of_pos_right _ (by omega)
    by_cases c : i < rest.length
    · have e1 : (i + 1) * (m + 1) = i * (m + 1) + (m + 1) := by rw [Nat.add_mul]; omega
      have e2 : (i + 1) * (m + 1) ≤ rest.length * (m + 1) := Nat.mul_le_mul_right _ (by omega)
      have e := lists_l2_p (N := N) (self := self) hm c (hr _ (getD_mem c)) N 0 out (by omega) (by omega) (by omega)
      rw [show ((0 : Nat) : Int) - 1 = -1 from rfl, Nat.sub_zero, ← List.range_eq_range'] at e
      have ih := lists_l1_p (self := self) hm hN hr hlen n (i + 1) (out ++ rowX m (rest.getD i [])) (by omega) (by omega) (by unfold rowX; simp; omega)
      rw [nat_succ] at ih
      rw [br_dec (by omega), e]
      simp only [Option.bind_some]
      rw [chk_eq (by omega)]
      refine ih.trans ?_
      rw [drop_cons c [], List.flatMap_cons, List.append_assoc]
    · rw [br_ndec (by omega), List.drop_of_length_le (by omega)]
      simp
theorem lists_R_p {m : Nat} (hm : m ≤ 100) (hN : m + 1 < N) {T : Nat} (hT : (m + 1) ^ T ≤ 100000) (hTN : (m + 1) ^ T < N) (hT1 : T ≤ 100) : ∀ (fu n : Nat), n < fu → n ≤ T → lists_R N fu n m = some (listsR m n)
  | 0, n, h, _ => by omega
  | fu + 1, n, h, hn => by
    show lists_S N (lists_R N fu) n m = _
    unfold lists_S
    cases n with
    | zero => rw [br_dec (by omega)]; rfl
    | succ n =>
      have ih := lists_R_p hm hN hT hTN hT1 fu n (by omega) (by omega)
      have hp : (m + 1) ^ (n + 1) ≤ (m + 1) ^ T := Nat.pow_le_pow_right (by omega) hn
      have hp2 : (m + 1) ^ n ≤ (m + 1) ^ (n + 1) := Nat.pow_le_pow_right (by omega) (by omega)
      have e := lists_l1_p (N := N) (self := lists_R N fu) (rest := listsR m n) hm hN (fun r hr => by have := (mem_listsR.1 hr).1; omega) (by rw [listsR_len]; exact Nat.le_trans hp hT) N 0 [] (by rw [listsR_len]; omega) (by omega) (by simp)
      rw [show ((0 : Nat) : Int) = 0 from rfl, List.drop_zero, List.nil_append] at e
      rw [br_ndec (by omega), chk_eq (by omega), show ((n + 1 : Nat) : Int) - 1 = (n : Int) by omega, ih]
      simp only [Option.bind_some]
      rw [e]; rfl
end
/-! ### Joins without an error -/
theorem getD_01 {l : List Int} {i : Nat} (h : i < l.length) : l.getD i 0 = fnJ l i := by simp [fnJ, List.getD, h]
theorem errJ_mt {n m : Nat} {can : Nat → Nat → Bool} {l : List Int} : errJ 0 n m can l = 0 ↔ l ∈ joinsL can m n 0 0 := by
  rw [mem_joinsL, okJ_mt]
  constructor
  · intro h
    obtain ⟨_, h1, h2, h3, h4⟩ := errJ_fine h
    rw [alI_iff] at h3 h4
    refine ⟨h1, ⟨fun i hi => ?_, fun i j hi hj hij he => ?_⟩, fun k hk => by simp at hk⟩
    · have hx := List.all_eq_true.1 h2 _ (getD_mem (d := 0) hi)
      unfold inm at hx
      rw [decide_eq_true_eq, getD_01 hi] at hx
      have hc := h4 i hi
      unfold cnI at hc
      rw [Bool.or_eq_true, decide_eq_true_eq, getD_01 hi] at hc
      rcases hc with hc | hc
      · exact .inl hc
      · by_cases e : fnJ l i = -1
        · exact .inl e
        · exact .inr ⟨(fnJ l i).toNat, by omega, by omega, hc⟩
    · have key : ∀ i j, i < j → j < l.length → fnJ l i = fnJ l j → fnJ l j = -1 := fun i j hij hj he => by
        have hd := h3 j hj
        unfold dupI at hd
        rw [Bool.or_eq_true, decide_eq_true_eq, getD_01 hj, Bool.not_eq_true', ← Bool.not_eq_true, hasB_iff] at hd
        rcases hd with hd | hd
        · exact hd
        · refine absurd ?_ hd
          rw [← he, ← getD_01 (show i < l.length by omega)]
          exact List.mem_iff_getElem.2 ⟨i, by simp; omega, by simp [List.getD, show i < l.length by omega]⟩
      rcases Nat.lt_or_gt_of_ne hij with h | h
      · rw [he]; exact key i j h hj he
      · exact key j i h hi he.symm
  · rintro ⟨hl, h1, _⟩
    have hb : l.all (inm m) = true := by
      rw [List.all_eq_true]
      intro x hx
      obtain ⟨i, hi, rfl⟩ := List.getElem_of_mem hx
      have e : l[i] = fnJ l i := by simp [fnJ, List.getD, hi]
      unfold inm
      rw [decide_eq_true_eq, e]
      rcases h1.ok i hi with h | ⟨k, h, hk, _⟩ <;> omega
    have hd : alI (dupI l) l.length = true := by
      rw [alI_iff]
      intro j hj
      unfold dupI
      rw [Bool.or_eq_true, decide_eq_true_eq, getD_01 hj, Bool.not_eq_true', ← Bool.not_eq_true, hasB_iff]
      by_cases e : fnJ l j = -1
      · exact .inl e
      · refine .inr fun hm => ?_
        obtain ⟨i, hi, he⟩ := List.getElem_of_mem hm
        simp only [List.length_take] at hi
        have hij : i < j := by omega
        refine e (h1.inj j i hj (by omega) (by omega) ?_)
        rw [← he, ← getD_01 (show i < l.length by omega)]
        simp [List.getD, show i < l.length by omega]
    have hc : alI (cnI can l) l.length = true := by
      rw [alI_iff]
      intro i hi
      unfold cnI
      rw [Bool.or_eq_true, decide_eq_true_eq, getD_01 hi]
      rcases h1.ok i hi with h | ⟨k, h, _, hc⟩
      · exact .inl h
      · right; rw [h, Int.toNat_natCast]; exact hc
    unfold errJ
    rw [if_neg (by simp), if_neg (by omega), hb, hd, hc]
    simp
/-- A greatest value among some. -/
theorem foldl_max {α : Type} {f : α → Int} {V : Int} : ∀ (l : List α) (a : Int), (∀ x ∈ l, f x ≤ V) → a ≤ V → (a = V ∨ ∃ x ∈ l, f x = V) → l.foldl (fun a x => max a (f x)) a = V
  | [], a, _, _, h => by
    rcases h with h | ⟨x, hx, _⟩
    · exact h
    · cases hx
  | x :: l, a, h1, h2, h3 => by
    have hx := h1 x (by simp)
    rw [List.foldl_cons]
    refine foldl_max l (max a (f x)) (fun y hy => h1 y (by simp [hy])) (by omega) ?_
    rcases h3 with h | ⟨y, hy, e⟩
    · left; omega
    · rcases List.mem_cons.1 hy with rfl | hy
      · left; omega
      · exact .inr ⟨y, hy, e⟩
section
variable {W : List Int} {s : Int} {L F : List (List Int)} {R : List Int} {A B : Nat → Nat → Int} {N : Nat}
/-- All joins. -/
def allR (W : List Int) (s : Int) (L F : List (List Int)) : List (List Int) := (listsR F.length L.length).filter fun l => decide (errJ 0 L.length F.length (canF W s L F) l = 0)
theorem mem_allR {l : List Int} : l ∈ allR W s L F ↔ l ∈ joinsL (canF W s L F) F.length L.length 0 0 := by
  unfold allR
  rw [List.mem_filter, decide_eq_true_eq]
  constructor
  · exact fun h => errJ_mt.1 h.2
  · intro h
    have he := errJ_mt.2 h
    refine ⟨mem_listsR.2 ?_, he⟩
    obtain ⟨_, h1, h2, _⟩ := errJ_fine he
    refine ⟨h1, fun x hx => ?_⟩
    have := List.all_eq_true.1 h2 x hx
    unfold inm at this
    rwa [decide_eq_true_eq] at this
theorem nodup_allR : (allR W s L F).Nodup := List.Pairwise.filter _ (nodup_listsR _ _)
theorem filter_succ {α : Type} {p : α → Bool} {l : List α} {k : Nat} (c : k < l.length) (d : α) : (l.take (k + 1)).filter p = (l.take k).filter p ++ (if p (l.getD k d) = true then [l.getD k d] else []) := by
  rw [take_succ' c d, List.filter_append]
  congr 1
  rw [List.filter_cons]
  split <;> rfl
theorem all_l1_p (hN : 110 ≤ N) (h : Fine W s L F R) {l : List (List Int)} (hl : l.length ≤ 100000) (hr : ∀ r ∈ l, r.length ≤ 100) : ∀ (n k : Nat), l.length < n + k → k ≤ l.length →
    all_l1 N n k W s L F R ((l.take k).filter fun l => decide (errJ 0 L.length F.length (canF W s L F) l = 0)) l = some (l.filter fun l => decide (errJ 0 L.length F.length (canF W s L F) l = 0))
  | 0, k, h, _ => by omega
  | n + 1, k, hn, hk => by
    unfold all_l1
    by_cases c : k < l.length
    · have ih := all_l1_p hN h hl hr n (k + 1) (by omega) (by omega)
      rw [nat_succ, filter_succ c []] at ih
      have hj : ∀ out, all_j1 N (all_l1 N n) k W s L F R out l = all_l1 N n ((k : Int) + 1) W s L F R out l := fun out => by
        unfold all_j1
        rw [chk_eq (by omega)]
      have hlen := List.length_filter_le (fun l => decide (errJ 0 L.length F.length (canF W s L F) l = 0)) (l.take k)
      rw [List.length_take] at hlen
      rw [br_dec (by omega), rng_eq (by omega)]
      simp only [Int.toNat_natCast]
      rw [get_get [] c, rjoins_v hN h.sm (hr _ (getD_mem c)), errD_iff.2 h]
      simp only [Option.bind_some, hj]
      by_cases e : errJ 0 L.length F.length (canF W s L F) (l.getD k []) = 0
      · rw [if_pos (decide_eq_true e)] at ih
        rw [br_dec e, rng_eq (by omega), get_get [] c, lim_eq (by simp; omega), ih]
      · rw [if_neg (by rw [decide_eq_true_eq]; exact e), List.append_nil] at ih
        rw [br_ndec e, ih]
    · rw [br_ndec (by omega), List.take_of_length_le (by omega)]
theorem all_v (hN : 110 ≤ N) (h : Fine W s L F R) (hp : (F.length + 1) ^ L.length < N) (hp2 : (F.length + 1) ^ L.length ≤ 100000) : all_S N W s L F R = some (allR W s L F) := by
  have hl6 := h.l6; have hf6 := h.f6
  have e := all_l1_p hN h (l := listsR F.length L.length) (by rw [listsR_len]; exact hp2) (fun r hr => by have := (mem_listsR.1 hr).1; omega) N 0 (by rw [listsR_len]; omega) (by omega)
  rw [show ((0 : Nat) : Int) = 0 from rfl, List.take_zero, List.filter_nil] at e
  unfold all_S
  rw [lists_R_p (T := L.length) (by omega) (by omega) hp2 hp (by omega) N L.length (by omega) (by omega)]
  simp only [Option.bind_some]
  rw [e]; rfl
theorem joins_facts {l : List Int} (h : l ∈ joinsL (canF W s L F) F.length L.length 0 0) : l.length = L.length ∧ l.all (inm F.length) = true := by
  obtain ⟨_, h1, h2, _⟩ := errJ_fine (errJ_mt.2 h)
  exact ⟨h1, h2⟩
theorem rworth_j (hN : 110 ≤ N) (h : Fine W s L F R) {l : List Int} (hl : l ∈ joinsL (canF W s L F) F.length L.length 0 0) : rworth_S N W s L F R l = some (valJ (agF W L F) 0 l) := by
  obtain ⟨h1, h2⟩ := joins_facts hl
  exact rworth_v hN h (by omega) h2
theorem rbest_l1_p (hN : 110 ≤ N) (h : Fine W s L F R) {l : List (List Int)} (hl : l.length ≤ 100000) (hr : ∀ r ∈ l, r ∈ joinsL (canF W s L F) F.length L.length 0 0) : ∀ (n k : Nat) (x : Int), l.length < n + k → k ≤ l.length →
    rbest_l1 N n l x k W s L F R = some (l, (l.drop k).foldl (fun a l => max a (valJ (agF W L F) 0 l)) x, W, s, L, F, R)
  | 0, k, x, h, _ => by omega
  | n + 1, k, x, hn, hk => by
    unfold rbest_l1
    by_cases c : k < l.length
    · have ih := rbest_l1_p hN h hl hr n (k + 1) (max x (valJ (agF W L F) 0 (l.getD k []))) (by omega) (by omega)
      rw [nat_succ] at ih
      rw [br_dec (by omega), idx_eq (by omega) (gets c []), rworth_j hN h (hr _ (getD_mem c))]
      simp only [Option.bind_some]
      rw [chk_eq (by omega), ih, drop_cons c [], List.foldl_cons]
    · rw [br_ndec (by omega), List.drop_of_length_le (by omega)]; rfl
theorem rbest_l2_p (hN : 110 ≤ N) (h : Fine W s L F R) {l : List (List Int)} (hl : l.length ≤ 100000) (hr : ∀ r ∈ l, r ∈ joinsL (canF W s L F) F.length L.length 0 0) {V : Int} : ∀ (n k : Nat), l.length < n + k → k ≤ l.length →
    rbest_l2 N n l V k W s L F R ((l.take k).filter fun l => decide (valJ (agF W L F) 0 l = V)) = some (V, l.filter fun l => decide (valJ (agF W L F) 0 l = V))
  | 0, k, h, _ => by omega
  | n + 1, k, hn, hk => by
    unfold rbest_l2
    by_cases c : k < l.length
    · have ih := rbest_l2_p hN h hl hr (V := V) n (k + 1) (by omega) (by omega)
      rw [nat_succ, filter_succ c []] at ih
      have hj : ∀ out, rbest_j1 N (rbest_l2 N n) l V k W s L F R out = rbest_l2 N n l V ((k : Int) + 1) W s L F R out := fun out => by
        unfold rbest_j1
        rw [chk_eq (by omega)]
      have hlen := List.length_filter_le (fun l => decide (valJ (agF W L F) 0 l = V)) (l.take k)
      rw [List.length_take] at hlen
      rw [br_dec (by omega), idx_eq (by omega) (gets c []), rworth_j hN h (hr _ (getD_mem c))]
      simp only [Option.bind_some, hj]
      by_cases e : valJ (agF W L F) 0 (l.getD k []) = V
      · rw [if_pos (decide_eq_true e)] at ih
        rw [br_dec e, idx_eq (by omega) (gets c []), lim_eq (by simp; omega), ih]
      · rw [if_neg (by rw [decide_eq_true_eq]; exact e), List.append_nil] at ih
        rw [br_ndec e, ih]
    · rw [br_ndec (by omega), List.take_of_length_le (by omega)]
/-- The greatest worth, and in how many ways. -/
def bestV (W : List Int) (s : Int) (L F : List (List Int)) : Int := (rsR (canF W s L F) (agF W L F) F.length L.length 0 0).2.1
def bestN (W : List Int) (s : Int) (L F : List (List Int)) : Int := (rsR (canF W s L F) (agF W L F) F.length L.length 0 0).2.2
/-- All best joins. -/
def bestR (W : List Int) (s : Int) (L F : List (List Int)) : List (List Int) := (allR W s L F).filter fun l => decide (valJ (agF W L F) 0 l = bestV W s L F)
theorem best_le {l : List Int} (h : l ∈ joinsL (canF W s L F) F.length L.length 0 0) : valJ (agF W L F) 0 l ≤ bestV W s L F := (rs_bst (can := canF W s L F) (t := agF W L F) (m := F.length) L.length 0 0).le l h
theorem bl_mem {t : Nat → Nat → Int} : blR (canF W s L F) t F.length L.length 0 0 ∈ joinsL (canF W s L F) F.length L.length 0 0 := by
  obtain ⟨q1, q2, _⟩ := bl_best (can := canF W s L F) (t := t) (m := F.length) L.length 0 0
  exact mem_joinsL.2 ⟨q2, q1⟩
theorem bl_val : valJ (agF W L F) 0 (blR (canF W s L F) (agF W L F) F.length L.length 0 0) = bestV W s L F := (bl_best (can := canF W s L F) (t := agF W L F) (m := F.length) L.length 0 0).2.2
theorem bestV_bound (h : Fine W s L F R) : 0 ≤ bestV W s L F ∧ bestV W s L F ≤ 300 := by
  have := (rs_bound (can := canF W s L F) (t := agF W L F) h.f6 (agF_bound h) (by omega) L.length 0 0).1
  have := h.l6
  unfold bestV; omega
theorem bestR_len : ((bestR W s L F).length : Int) = bestN W s L F := by
  have h := (rs_bst (can := canF W s L F) (t := agF W L F) (m := F.length) L.length 0 0).ways
  unfold bestN
  rw [← h]
  unfold bestR
  rw [← List.countP_eq_length_filter]
  congr 1
  exact countP_same nodup_allR (nodup_joinsL _ _ _) (fun x => mem_allR) (fun x _ => rfl)
theorem mem_bestR {l : List Int} : l ∈ bestR W s L F ↔ l ∈ joinsL (canF W s L F) F.length L.length 0 0 ∧ valJ (agF W L F) 0 l = bestV W s L F := by
  unfold bestR
  rw [List.mem_filter, mem_allR, decide_eq_true_eq]
theorem rbest_v (hN : 110 ≤ N) (h : Fine W s L F R) (hp : (F.length + 1) ^ L.length < N) (hp2 : (F.length + 1) ^ L.length ≤ 100000) : rbest_S N W s L F R = some (bestR W s L F, bestV W s L F) := by
  have hlen : (allR W s L F).length ≤ (F.length + 1) ^ L.length := by
    rw [← listsR_len]; exact List.length_filter_le _ _
  have e1 := rbest_l1_p hN h (l := allR W s L F) (by omega) (fun r hr => mem_allR.1 hr) N 0 0 (by omega) (by omega)
  have e2 := rbest_l2_p hN h (l := allR W s L F) (by omega) (fun r hr => mem_allR.1 hr) (V := bestV W s L F) N 0 (by omega) (by omega)
  rw [show ((0 : Nat) : Int) = 0 from rfl] at e1 e2
  rw [List.drop_zero, foldl_max (V := bestV W s L F) _ _ (fun x hx => best_le (mem_allR.1 hx)) (bestV_bound h).1 (.inr ⟨_, mem_allR.2 bl_mem, bl_val⟩)] at e1
  rw [List.take_zero, List.filter_nil] at e2
  unfold rbest_S
  rw [all_v hN h hp hp2]
  simp only [Option.bind_some]
  rw [e1]
  simp only [Option.bind_some]
  rw [e2]; rfl
end
end Go.Proofs.Ythncjilcflilcaa

namespace Go.Proofs.Ythncjilcflilcaa
set_option linter.all false
open Go

section
variable {W : List Int} {s : Int} {L F : List (List Int)} {R : List Int} {A B : Nat → Nat → Int} {N : Nat}
/-- Best joins. -/
abbrev bestL (W : List Int) (s : Int) (L F : List (List Int)) : List Int := blR (canF W s L F) (agF W L F) F.length L.length 0 0
/-! ### Rewards -/
/-! ### Prices -/
def vK (W : List Int) (s : Int) (L F : List (List Int)) (k : Nat) : Int := (rsR (canF W s L F) (agF W L F) F.length L.length 0 (2 ^ k)).2.1
theorem isMaxV : IsMax L.length F.length (canF W s L F) (agF W L F) (fun _ => False) (bestV W s L F) := (rs_max (can := canF W s L F) (t := agF W L F) (m := F.length) L.length 0).congr (fun k => by simp)
theorem isMaxK (k : Nat) : IsMax L.length F.length (canF W s L F) (agF W L F) (· = k) (vK W s L F k) := (rs_max (can := canF W s L F) (t := agF W L F) (m := F.length) L.length (2 ^ k)).congr (fun j => by rw [Nat.testBit_two_pow, decide_eq_true_eq]; exact eq_comm)
theorem wide_v (t : Int) : wide_S N W s L F R t = some true ∨ (wide_S N W s L F R t = some false ∧ ((L.length : Int) ≤ t ∨ 6 < (L.length : Int)) ∧ ((F.length : Int) ≤ t ∨ 6 < (F.length : Int))) := by
  unfold wide_S
  by_cases c1 : t < (L.length : Int)
  · rw [br_dec c1]
    by_cases c2 : (L.length : Int) ≤ 6
    · rw [br_dec c2]; exact .inl rfl
    · rw [br_ndec c2]
      by_cases c3 : t < (F.length : Int)
      · rw [br_dec c3]
        by_cases c4 : (F.length : Int) ≤ 6
        · rw [decide_eq_true c4]; exact .inl rfl
        · rw [decide_eq_false c4]; exact .inr ⟨rfl, by omega, by omega⟩
      · rw [br_ndec c3]; exact .inr ⟨rfl, by omega, by omega⟩
  · rw [br_ndec c1]
    by_cases c3 : t < (F.length : Int)
    · rw [br_dec c3]
      by_cases c4 : (F.length : Int) ≤ 6
      · rw [decide_eq_true c4]; exact .inl rfl
      · rw [decide_eq_false c4]; exact .inr ⟨rfl, by omega, by omega⟩
    · rw [br_ndec c3]; exact .inr ⟨rfl, by omega, by omega⟩
theorem pow_bound {a b : Nat} (ha : a ≤ 4) (hb : b ≤ 4) : (a + 1) ^ b ≤ 625 := by
  have h1 : (a + 1) ^ b ≤ 5 ^ b := Nat.pow_le_pow_left (by omega) b
  have h2 : 5 ^ b ≤ 5 ^ 4 := Nat.pow_le_pow_right (by omega) hb
  omega
end
end Go.Proofs.Ythncjilcflilcaa

namespace Go.Proofs.Ythncjilcflilcaa
set_option linter.all false
open Go

/-- In how many places two lists differ. -/
def apL : List Int → List Int → Int
  | x :: a, y :: b => (if x = y then 0 else 1) + apL a b
  | _, _ => 0
theorem apL_bound : ∀ a b : List Int, 0 ≤ apL a b ∧ apL a b ≤ a.length
  | [], _ => by simp [apL]
  | _ :: _, [] => by simp [apL]; omega
  | x :: a, y :: b => by
    have := apL_bound a b
    rw [apL, List.length_cons]
    split <;> omega
theorem apL_comm : ∀ a b : List Int, apL a b = apL b a
  | [], [] => rfl
  | [], _ :: _ => rfl
  | _ :: _, [] => rfl
  | x :: a, y :: b => by
    rw [apL, apL, apL_comm a b]
    by_cases h : x = y
    · rw [if_pos h, if_pos h.symm]
    · rw [if_neg h, if_neg (Ne.symm h)]
theorem apL_zero : ∀ {a b : List Int}, a.length = b.length → apL a b = 0 → a = b
  | [], [], _, _ => rfl
  | [], _ :: _, h, _ => by simp at h
  | _ :: _, [], h, _ => by simp at h
  | x :: a, y :: b, hl, h => by
    have := apL_bound a b
    rw [apL] at h
    split at h
    · rename_i e
      rw [e, apL_zero (a := a) (b := b) (by simpa using hl) (by omega)]
    · omega
section
variable {N : Nat}
theorem apart_l1_p {a b : List Int} (ha : a.length ≤ 1000) (hb : a.length ≤ b.length) : ∀ (n k : Nat) (x : Int), a.length < n + k → k ≤ a.length → 0 ≤ x ∧ x ≤ k → apart_l1 N n a b x k = some (x + apL (a.drop k) (b.drop k))
  | 0, k, x, h, _, _ => by omega
  | n + 1, k, x, h, hk, hx => by
    unfold apart_l1
    by_cases c : k < a.length
    · have hj : ∀ x, 0 ≤ x ∧ x ≤ (k : Int) + 1 → apart_j1 N (apart_l1 N n) a b x k = some (x + apL (a.drop (k + 1)) (b.drop (k + 1))) := fun x hx => by
        have ih := apart_l1_p ha hb n (k + 1) x (by omega) (by omega) (by omega)
        rw [nat_succ] at ih
        unfold apart_j1
        rw [chk_eq (by omega), ih]
      rw [br_dec (by omega), idx_eq (by omega) (gets c 0), idx_eq (by omega) (gets (by omega) 0), drop_cons c 0, drop_cons (l := b) (by omega) 0, apL]
      by_cases e : a.getD k 0 = b.getD k 0
      · rw [br_nd e, hj _ (by omega), if_pos e, Int.zero_add]
      · rw [br_nnd e, chk_eq (by omega), hj _ (by omega), if_neg e, Int.add_assoc]
    · rw [br_ndec (by omega), List.drop_of_length_le (by omega)]
      simp [apL]
theorem apart_v {a b : List Int} (ha : a.length ≤ 1000) (hN : a.length < N) (hb : a.length ≤ b.length) : apart_S N a b = some (apL a b) := by
  have e := apart_l1_p (N := N) ha hb N 0 0 (by omega) (by omega) (by omega)
  rw [show ((0 : Nat) : Int) = 0 from rfl, List.drop_zero, List.drop_zero, Int.zero_add] at e
  unfold apart_S
  rw [e]; rfl
end
section
variable {W : List Int} {s : Int} {L F : List (List Int)} {R : List Int} {A B : Nat → Nat → Int} {N : Nat}
/-- Better joins that go on from some, with no more changes than may be. -/
structure ExtJ (can : Nat → Nat → Bool) (A : Nat → Nat → Int) (m : Nat) (J : List Int) (w0 : Int) (l l' : List Int) (left : Int) : Prop where
  mem : l' ∈ joinsL can m J.length 0 0
  pre : l'.take l.length = l
  more : w0 < valJ A 0 l'
  ap : apL (J.drop l.length) (l'.drop l.length) ≤ left
/-- What the search returns. -/
def PutR (can : Nat → Nat → Bool) (A : Nat → Nat → Int) (m : Nat) (J : List Int) (w0 : Int) (l : List Int) (left : Int) (dk : Dk) : ((List Int × Dk × Int) ⊕ (List Int × List Int × Dk × Int)) → Prop
  | .inl g => g = (J, dk, w0) ∧ ∀ l', ¬ ExtJ can A m J w0 l l' left
  | .inr r => r.2 = (J, dk, w0) ∧ ExtJ can A m J w0 l r.1 left
/-- A step that may be. -/
def stpB (can : Nat → Nat → Bool) (J l : List Int) (left : Int) (k : Int) : Bool := (decide (k = -1) || (!hasB l k && can l.length k.toNat)) && !(!decide (k = J.getD l.length 0) && decide (left = 0))
def nowJ (J l : List Int) (left : Int) (k : Int) : Int := if k = J.getD l.length 0 then left else left - 1
theorem take_snoc {l l' : List Int} {k : Int} (hl : l.length < l'.length) : l'.take (l.length + 1) = l ++ [k] ↔ l'.take l.length = l ∧ l'.getD l.length 0 = k := by
  rw [take_succ' hl 0]
  constructor
  · intro h
    have := List.append_inj' h rfl
    simpa using this
  · rintro ⟨h1, h2⟩
    rw [h1, h2]
theorem ext_step {can : Nat → Nat → Bool} {m : Nat} {J l l' : List Int} {w0 left : Int} (hl : l.length < J.length) : ExtJ can A m J w0 l l' left ↔ ∃ k : Int, (-1 ≤ k ∧ k ≤ (m : Int) - 1) ∧ (0 ≤ left → stpB can J l left k = true) ∧ ExtJ can A m J w0 (l ++ [k]) l' (nowJ J l left k) := by
  constructor
  · rintro ⟨h1, h2, h3, h4⟩
    obtain ⟨m1, m2⟩ := mem_joinsL.1 h1
    obtain ⟨m3, _⟩ := okJ_mt.1 m2
    have hl' : l.length < l'.length := by omega
    have e0 : l'.getD l.length 0 = fnJ l' l.length := getD_01 hl'
    have hdrop : apL (J.drop l.length) (l'.drop l.length) = (if J.getD l.length 0 = l'.getD l.length 0 then 0 else 1) + apL (J.drop (l.length + 1)) (l'.drop (l.length + 1)) := by
      rw [drop_cons hl 0, drop_cons hl' 0, apL]
    have hb := apL_bound (J.drop (l.length + 1)) (l'.drop (l.length + 1))
    refine ⟨l'.getD l.length 0, ?_, fun hleft => ?_, ⟨h1, ?_, h3, ?_⟩⟩
    · rw [e0]
      rcases m3.ok l.length hl' with h | ⟨k, h, hk, _⟩ <;> omega
    · unfold stpB
      rw [Bool.and_eq_true]
      constructor
      · rw [Bool.or_eq_true, decide_eq_true_eq, e0]
        rcases m3.ok l.length hl' with h | ⟨k, h, hk, hc⟩
        · exact .inl h
        · right
          rw [h, Int.toNat_natCast, hc, Bool.and_true, Bool.not_eq_true', ← Bool.not_eq_true, hasB_iff]
          intro hm
          obtain ⟨j, hj, e⟩ := List.getElem_of_mem hm
          have e1 : fnJ l' j = k := by
            rw [← e]
            have : l[j]? = l'[j]? := by rw [← h2, List.getElem?_take_of_lt hj]
            simp only [fnJ, List.getD, ← this, List.getElem?_eq_getElem hj, Option.getD_some]
          have := m3.inj j l.length (by omega) hl' (by omega) (by rw [e1, h])
          omega
      · rw [Bool.not_eq_true', Bool.and_eq_false_iff]
        by_cases e : l'.getD l.length 0 = J.getD l.length 0
        · left; rw [decide_eq_true e]; rfl
        · right
          rw [decide_eq_false_iff_not]
          intro h0
          rw [if_neg (Ne.symm e)] at hdrop
          omega
    · rw [List.length_append, List.length_singleton]
      exact (take_snoc hl').2 ⟨h2, rfl⟩
    · rw [List.length_append, List.length_singleton]
      unfold nowJ
      by_cases e : l'.getD l.length 0 = J.getD l.length 0
      · rw [if_pos e]; rw [if_pos e.symm] at hdrop; omega
      · rw [if_neg e]; rw [if_neg (Ne.symm e)] at hdrop; omega
  · rintro ⟨k, _, _, h1, h2, h3, h4⟩
    obtain ⟨m1, _⟩ := mem_joinsL.1 h1
    have hl' : l.length < l'.length := by omega
    rw [List.length_append, List.length_singleton] at h2 h4
    obtain ⟨h5, h6⟩ := (take_snoc hl').1 h2
    refine ⟨h1, h5, h3, ?_⟩
    rw [drop_cons hl 0, drop_cons hl' 0, apL, h6]
    unfold nowJ at h4
    split at h4
    · rename_i e; rw [if_pos e.symm]; omega
    · rename_i e; rw [if_neg (Ne.symm e)]; omega
theorem mt_snoc {can : Nat → Nat → Bool} {m : Nat} {l : List Int} {k : Int} (h : l ∈ joinsL can m l.length 0 0) (hk : -1 ≤ k ∧ k ≤ (m : Int) - 1) (hc : (decide (k = -1) || (!hasB l k && can l.length k.toNat)) = true) : l ++ [k] ∈ joinsL can m (l ++ [k]).length 0 0 := by
  obtain ⟨_, h2⟩ := mem_joinsL.1 h
  obtain ⟨h3, _⟩ := okJ_mt.1 h2
  refine mem_joinsL.2 ⟨rfl, okJ_mt.2 ⟨?_, fun k hk => by simp at hk⟩⟩
  have e1 : ∀ j, j < l.length → fnJ (l ++ [k]) j = fnJ l j := fun j hj => by simp [fnJ, List.getD, List.getElem?_append_left hj]
  have e2 : fnJ (l ++ [k]) l.length = k := by simp [fnJ, List.getD]
  rw [Bool.or_eq_true, decide_eq_true_eq, Bool.and_eq_true, Bool.not_eq_true', ← Bool.not_eq_true, hasB_iff] at hc
  have hnew : ∀ j, j < l.length → fnJ l j = k → k = -1 := fun j hj e => by
    rcases hc with hc | ⟨hc, _⟩
    · exact hc
    · exact absurd (by rw [← e, ← getD_01 hj]; exact getD_mem hj) hc
  rw [List.length_append, List.length_singleton]
  refine ⟨fun i hi => ?_, fun i j hi hj hij he => ?_⟩
  · rcases Nat.lt_or_ge i l.length with h | h
    · rw [e1 i h]; exact h3.ok i h
    · obtain rfl : i = l.length := by omega
      rw [e2]
      rcases hc with hc | ⟨_, hc⟩
      · exact .inl hc
      · by_cases e : k = -1
        · exact .inl e
        · exact .inr ⟨k.toNat, by omega, by omega, hc⟩
  · rcases Nat.lt_or_ge i l.length with h | h
    · rw [e1 i h] at he ⊢
      rcases Nat.lt_or_ge j l.length with h' | h'
      · rw [e1 j h'] at he
        exact h3.inj i j h h' hij he
      · obtain rfl : j = l.length := by omega
        rw [e2] at he
        rw [he]; exact hnew i h he
    · obtain rfl : i = l.length := by omega
      rw [e2] at he ⊢
      have hj' : j < l.length := by omega
      rw [e1 j hj'] at he
      exact hnew j hj' he.symm

/-- The result of the search through the next things. -/
def putLR (can : Nat → Nat → Bool) (A : Nat → Nat → Int) (m : Nat) (J : List Int) (w0 : Int) (l : List Int) (left : Int) (dk : Dk) (j : Nat) : ((List Int × List Int × Dk × Int) ⊕ (List Int × Dk × Int)) → Prop
  | .inl r => r.2 = (J, dk, w0) ∧ ExtJ can A m J w0 l r.1 left
  | .inr g => g = (J, dk, w0) ∧ ∀ l' (k : Int), (j : Int) - 1 ≤ k → k ≤ (m : Int) - 1 → stpB can J l left k = true → ¬ ExtJ can A m J w0 (l ++ [k]) l' (nowJ J l left k)
theorem put_l1_p {J : List Int} {w0 left : Int} {self : List Int → Int → List Int → Dk → Int → List Int → Dk → Int → Option ((List Int × Dk × Int) ⊕ (List Int × List Int × Dk × Int))} {l : List Int} (hl0 : l ≠ []) (hN : 110 ≤ N) (hF : F.length ≤ 6) (hJ : J.length ≤ 6) (hlJ : (l : List Int).length < J.length) (hleft : 0 ≤ left ∧ left ≤ 100) (hl : (l : List Int) ∈ joinsL (canT A B s) F.length (l : List Int).length 0 0)
    (hself : ∀ k : Int, stpB (canT A B s) J l left k = true → -1 ≤ k ∧ k ≤ (F.length : Int) - 1 → ∃ r, self ((l ++ [k])) (nowJ J l left k) J (dkT W s L F R A B) w0 J (dkT W s L F R A B) w0 = some r ∧ PutR (canT A B s) A F.length J w0 ((l ++ [k])) (nowJ J l left k) (dkT W s L F R A B) r) :
    ∀ (n j : Nat), F.length + 1 < n + j → j ≤ F.length + 1 → ∃ r, put_l1 N self n l left J (dkT W s L F R A B) (l.length : Int) ((j : Int) - 1) J (dkT W s L F R A B) w0 = some r ∧ putLR (canT A B s) A F.length J w0 l left (dkT W s L F R A B) j r
  | 0, j, h, _ => by omega
  | n + 1, j, h, hj => by
    unfold put_l1
    have hdf : (dkT W s L F R A B).2.2.2.1.length = F.length := rfl
    rw [hdf]
    by_cases c : j < F.length + 1
    rotate_left
    · rw [br_ndec (by omega)]
      exact ⟨_, rfl, rfl, fun l' k h1 h2 => by omega⟩
    obtain ⟨rn, n1, n2⟩ := put_l1_p hl0 hN hF hJ hlJ hleft hl hself n (j + 1) (by omega) (by omega)
    rw [show ((j + 1 : Nat) : Int) - 1 = (j : Int) - 1 + 1 by omega] at n1
    rw [br_dec (by omega)]
    -- what follows where the step may not be
    have hskip : stpB (canT A B s) J l left ((j : Int) - 1) = false → ∃ r, put_j1 N self (put_l1 N self n) l left J (dkT W s L F R A B) (l.length : Int) ((j : Int) - 1) J (dkT W s L F R A B) w0 = some r ∧ putLR (canT A B s) A F.length J w0 l left (dkT W s L F R A B) j r := fun hs => by
      unfold put_j1
      rw [chk_eq (by omega), n1]
      refine ⟨rn, rfl, ?_⟩
      cases rn with
      | inl r => exact n2
      | inr g =>
        refine ⟨n2.1, fun l' k h1 h2 h3 => ?_⟩
        by_cases e : k = (j : Int) - 1
        · rw [e, hs] at h3; cases h3
        · exact n2.2 l' k (by omega) h2 h3
    have hstep : stpB (canT A B s) J l left ((j : Int) - 1) = true → ∃ r, put_j2 N self (put_l1 N self n) l left J (dkT W s L F R A B) (l.length : Int) ((j : Int) - 1) (nowJ J l left ((j : Int) - 1)) J (dkT W s L F R A B) w0 = some r ∧ putLR (canT A B s) A F.length J w0 l left (dkT W s L F R A B) j r := fun hs => by
      obtain ⟨r, r1, r2⟩ := hself ((j : Int) - 1) hs (by omega)
      unfold put_j2
      have ecl : cloneo_S N l = some l := by
        unfold cloneo_S
        rw [grd_eq (by simp [hl0]), lim_eq (by simp only [List.length_nil]; omega)]; rfl
      rw [ecl]
      simp only [Option.bind_some]
      rw [lim_eq (by simp only [List.length_singleton]; omega)]
      rw [r1]
      simp only [Option.bind_some]
      cases r with
      | inl g =>
        obtain ⟨rfl, g2⟩ := r2
        dsimp only
        unfold put_j1
        rw [chk_eq (by omega), n1]
        refine ⟨rn, rfl, ?_⟩
        cases rn with
        | inl r => exact n2
        | inr g =>
          refine ⟨n2.1, fun l' k h1 h2 h3 => ?_⟩
          by_cases e : k = (j : Int) - 1
          · subst e; exact g2 l'
          · exact n2.2 l' k (by omega) h2 h3
      | inr r =>
        obtain ⟨l', g1, g2, g3⟩ := r
        obtain ⟨e, hx⟩ := r2
        simp only [Prod.mk.injEq] at e
        obtain ⟨rfl, rfl, rfl⟩ := e
        dsimp only at hx ⊢
        have hne : l' ≠ [] := fun e => by
          subst e
          have := (mem_joinsL.1 hx.mem).1
          simp at this; omega
        rw [grd_eq (by simp [hne])]
        refine ⟨_, rfl, rfl, ?_⟩
        exact (ext_step hlJ).2 ⟨(j : Int) - 1, by omega, fun _ => hs, hx⟩
    have hgj : J[((l.length : Int) : Int).toNat]? = some (J.getD (l : List Int).length 0) := gets hlJ 0
    generalize hji : J.getD (l : List Int).length 0 = ji at *
    have es : stpB (canT A B s) J l left ((j : Int) - 1) = ((decide ((j : Int) - 1 = -1) || (!hasB l ((j : Int) - 1) && canT A B s (l : List Int).length ((j : Int) - 1).toNat)) && !(!decide ((j : Int) - 1 = ji) && decide (left = 0))) := by unfold stpB; rw [hji]
    have en : nowJ J l left ((j : Int) - 1) = if (j : Int) - 1 = ji then left else left - 1 := by unfold nowJ; rw [hji]
    by_cases c0 : (j : Int) - 1 = -1
    · rw [br_nd c0, idx_eq (by omega) hgj]
      rw [decide_eq_true c0, Bool.true_or, Bool.true_and] at es
      by_cases c1 : (j : Int) - 1 = ji
      · rw [br_nd c1, idx_eq (by omega) hgj, br_nd c1]
        rw [if_pos c1] at en
        rw [en] at hstep
        exact hstep (by rw [es, decide_eq_true c1]; rfl)
      · rw [br_nnd c1]
        rw [if_neg c1] at en
        rw [en] at hstep
        by_cases c2 : left = 0
        · rw [br_dec c2]
          exact hskip (by rw [es, decide_eq_false c1, decide_eq_true c2]; rfl)
        · rw [br_ndec c2, idx_eq (by omega) hgj, br_nnd c1, chk_eq (by omega)]
          exact hstep (by rw [es, decide_eq_false c2, Bool.and_false]; rfl)
    · rw [br_nnd c0, containsi_v (by omega) (by omega)]
      rw [decide_eq_false c0, Bool.false_or] at es
      simp only [Option.bind_some]
      obtain ⟨q, hq⟩ : ∃ q : Nat, (j : Int) - 1 = q := ⟨((j : Int) - 1).toNat, by omega⟩
      cases hb : hasB l ((j : Int) - 1)
      rotate_left
      · rw [hb] at es
        rw [br_true]
        exact hskip (by rw [es]; rfl)
      rw [hb, Bool.not_false, Bool.true_and] at es
      rw [br_false]
      have hcan : can_S N (dkT W s L F R A B) (l.length : Int) ((j : Int) - 1) = some (canT A B s (l : List Int).length ((j : Int) - 1).toNat) := by
        rw [hq, Int.toNat_natCast]
        exact can_T (i := (l : List Int).length) (by omega) (by omega)
      rw [hcan]
      simp only [Option.bind_some]
      cases hcn : canT A B s (l : List Int).length ((j : Int) - 1).toNat
      · rw [hcn] at es
        rw [Bool.not_false, br_true]
        exact hskip (by rw [es]; rfl)
      rw [hcn, Bool.true_and] at es
      rw [Bool.not_true, br_false, idx_eq (by omega) hgj]
      by_cases c1 : (j : Int) - 1 = ji
      · rw [br_nd c1, idx_eq (by omega) hgj, br_nd c1]
        rw [if_pos c1] at en
        rw [en] at hstep
        exact hstep (by rw [es, decide_eq_true c1]; rfl)
      · rw [br_nnd c1]
        rw [if_neg c1] at en
        rw [en] at hstep
        by_cases c2 : left = 0
        · rw [br_dec c2]
          exact hskip (by rw [es, decide_eq_false c1, decide_eq_true c2]; rfl)
        · rw [br_ndec c2, idx_eq (by omega) hgj, br_nnd c1, chk_eq (by omega)]
          exact hstep (by rw [es, decide_eq_false c2, Bool.and_false]; rfl)

/-- The result of the search through the next things. -/
def put0LR (can : Nat → Nat → Bool) (A : Nat → Nat → Int) (m : Nat) (J : List Int) (w0 : Int) (l : List Int) (left : Int) (dk : Dk) (j : Nat) : ((List Int × List Int × Dk × Int) ⊕ (List Int × Dk × Int)) → Prop
  | .inl r => r.2 = (J, dk, w0) ∧ ExtJ can A m J w0 l r.1 left
  | .inr g => g = (J, dk, w0) ∧ ∀ l' (k : Int), (j : Int) - 1 ≤ k → k ≤ (m : Int) - 1 → stpB can J l left k = true → ¬ ExtJ can A m J w0 (l ++ [k]) l' (nowJ J l left k)
theorem put0_l1_p {J : List Int} {w0 left : Int} (hN : 110 ≤ N) (hF : F.length ≤ 6) (hJ : J.length ≤ 6) (hlJ : ([] : List Int).length < J.length) (hleft : 0 ≤ left ∧ left ≤ 100) (hl : ([] : List Int) ∈ joinsL (canT A B s) F.length ([] : List Int).length 0 0)
    (hself : ∀ k : Int, stpB (canT A B s) J [] left k = true → -1 ≤ k ∧ k ≤ (F.length : Int) - 1 → ∃ r, put_R N N ([k]) (nowJ J [] left k) J (dkT W s L F R A B) w0 J (dkT W s L F R A B) w0 = some r ∧ PutR (canT A B s) A F.length J w0 ([k]) (nowJ J [] left k) (dkT W s L F R A B) r) :
    ∀ (n j : Nat), F.length + 1 < n + j → j ≤ F.length + 1 → ∃ r, put0_l1 N n left J (dkT W s L F R A B) 0 ((j : Int) - 1) J (dkT W s L F R A B) w0 = some r ∧ put0LR (canT A B s) A F.length J w0 [] left (dkT W s L F R A B) j r
  | 0, j, h, _ => by omega
  | n + 1, j, h, hj => by
    unfold put0_l1
    have hdf : (dkT W s L F R A B).2.2.2.1.length = F.length := rfl
    rw [hdf]
    by_cases c : j < F.length + 1
    rotate_left
    · rw [br_ndec (by omega)]
      exact ⟨_, rfl, rfl, fun l' k h1 h2 => by omega⟩
    obtain ⟨rn, n1, n2⟩ := put0_l1_p hN hF hJ hlJ hleft hl hself n (j + 1) (by omega) (by omega)
    rw [show ((j + 1 : Nat) : Int) - 1 = (j : Int) - 1 + 1 by omega] at n1
    rw [br_dec (by omega)]
    -- what follows where the step may not be
    have hskip : stpB (canT A B s) J [] left ((j : Int) - 1) = false → ∃ r, put0_j1 N (put0_l1 N n) left J (dkT W s L F R A B) 0 ((j : Int) - 1) J (dkT W s L F R A B) w0 = some r ∧ put0LR (canT A B s) A F.length J w0 [] left (dkT W s L F R A B) j r := fun hs => by
      unfold put0_j1
      rw [chk_eq (by omega), n1]
      refine ⟨rn, rfl, ?_⟩
      cases rn with
      | inl r => exact n2
      | inr g =>
        refine ⟨n2.1, fun l' k h1 h2 h3 => ?_⟩
        by_cases e : k = (j : Int) - 1
        · rw [e, hs] at h3; cases h3
        · exact n2.2 l' k (by omega) h2 h3
    have hstep : stpB (canT A B s) J [] left ((j : Int) - 1) = true → ∃ r, put0_j2 N (put0_l1 N n) left J (dkT W s L F R A B) 0 ((j : Int) - 1) (nowJ J [] left ((j : Int) - 1)) J (dkT W s L F R A B) w0 = some r ∧ put0LR (canT A B s) A F.length J w0 [] left (dkT W s L F R A B) j r := fun hs => by
      obtain ⟨r, r1, r2⟩ := hself ((j : Int) - 1) hs (by omega)
      unfold put0_j2
      rw [show clonen_S N = some () from rfl]
      simp only [Option.bind_some]
      rw [r1]
      simp only [Option.bind_some]
      cases r with
      | inl g =>
        obtain ⟨rfl, g2⟩ := r2
        dsimp only
        unfold put0_j1
        rw [chk_eq (by omega), n1]
        refine ⟨rn, rfl, ?_⟩
        cases rn with
        | inl r => exact n2
        | inr g =>
          refine ⟨n2.1, fun l' k h1 h2 h3 => ?_⟩
          by_cases e : k = (j : Int) - 1
          · subst e; exact g2 l'
          · exact n2.2 l' k (by omega) h2 h3
      | inr r =>
        obtain ⟨l', g1, g2, g3⟩ := r
        obtain ⟨e, hx⟩ := r2
        simp only [Prod.mk.injEq] at e
        obtain ⟨rfl, rfl, rfl⟩ := e
        dsimp only at hx ⊢
        have hne : l' ≠ [] := fun e => by
          subst e
          have := (mem_joinsL.1 hx.mem).1
          simp at this; omega
        rw [grd_eq (by simp [hne])]
        refine ⟨_, rfl, rfl, ?_⟩
        exact (ext_step hlJ).2 ⟨(j : Int) - 1, by omega, fun _ => hs, hx⟩
    have hgj : J[(0 : Int).toNat]? = some (J.getD ([] : List Int).length 0) := gets (k := 0) hlJ 0
    generalize hji : J.getD ([] : List Int).length 0 = ji at *
    have es : stpB (canT A B s) J [] left ((j : Int) - 1) = ((decide ((j : Int) - 1 = -1) || (!hasB [] ((j : Int) - 1) && canT A B s ([] : List Int).length ((j : Int) - 1).toNat)) && !(!decide ((j : Int) - 1 = ji) && decide (left = 0))) := by unfold stpB; rw [hji]
    have en : nowJ J [] left ((j : Int) - 1) = if (j : Int) - 1 = ji then left else left - 1 := by unfold nowJ; rw [hji]
    by_cases c0 : (j : Int) - 1 = -1
    · rw [br_nd c0, idx_eq (by omega) hgj]
      rw [decide_eq_true c0, Bool.true_or, Bool.true_and] at es
      by_cases c1 : (j : Int) - 1 = ji
      · rw [br_nd c1, idx_eq (by omega) hgj, br_nd c1]
        rw [if_pos c1] at en
        rw [en] at hstep
        exact hstep (by rw [es, decide_eq_true c1]; rfl)
      · rw [br_nnd c1]
        rw [if_neg c1] at en
        rw [en] at hstep
        by_cases c2 : left = 0
        · rw [br_dec c2]
          exact hskip (by rw [es, decide_eq_false c1, decide_eq_true c2]; rfl)
        · rw [br_ndec c2, idx_eq (by omega) hgj, br_nnd c1, chk_eq (by omega)]
          exact hstep (by rw [es, decide_eq_false c2, Bool.and_false]; rfl)
    · rw [br_nnd c0, containsi_v (by simp) (by simp; omega)]
      rw [decide_eq_false c0, Bool.false_or] at es
      simp only [Option.bind_some]
      obtain ⟨q, hq⟩ : ∃ q : Nat, (j : Int) - 1 = q := ⟨((j : Int) - 1).toNat, by omega⟩
      cases hb : hasB [] ((j : Int) - 1)
      rotate_left
      · rw [hb] at es
        rw [br_true]
        exact hskip (by rw [es]; rfl)
      rw [hb, Bool.not_false, Bool.true_and] at es
      rw [br_false]
      have hcan : can_S N (dkT W s L F R A B) 0 ((j : Int) - 1) = some (canT A B s ([] : List Int).length ((j : Int) - 1).toNat) := by
        rw [hq, Int.toNat_natCast]
        exact can_T (i := ([] : List Int).length) (by omega) (by omega)
      rw [hcan]
      simp only [Option.bind_some]
      cases hcn : canT A B s ([] : List Int).length ((j : Int) - 1).toNat
      · rw [hcn] at es
        rw [Bool.not_false, br_true]
        exact hskip (by rw [es]; rfl)
      rw [hcn, Bool.true_and] at es
      rw [Bool.not_true, br_false, idx_eq (by omega) hgj]
      by_cases c1 : (j : Int) - 1 = ji
      · rw [br_nd c1, idx_eq (by omega) hgj, br_nd c1]
        rw [if_pos c1] at en
        rw [en] at hstep
        exact hstep (by rw [es, decide_eq_true c1]; rfl)
      · rw [br_nnd c1]
        rw [if_neg c1] at en
        rw [en] at hstep
        by_cases c2 : left = 0
        · rw [br_dec c2]
          exact hskip (by rw [es, decide_eq_false c1, decide_eq_true c2]; rfl)
        · rw [br_ndec c2, idx_eq (by omega) hgj, br_nnd c1, chk_eq (by omega)]
          exact hstep (by rw [es, decide_eq_false c2, Bool.and_false]; rfl)

end
end Go.Proofs.Ythncjilcflilcaa

namespace Go.Proofs.Ythncjilcflilcaa
set_option linter.all false
open Go

section
variable {W : List Int} {s : Int} {L F : List (List Int)} {R : List Int} {A B : Nat → Nat → Int} {N : Nat}
theorem joins_all {can : Nat → Nat → Bool} {m n : Nat} {l : List Int} (h : l ∈ joinsL can m n 0 0) : l.length = n ∧ l.all (inm m) = true := by
  obtain ⟨_, h1, h2, _⟩ := errJ_fine (errJ_mt.2 h)
  exact ⟨h1, h2⟩
theorem nil_joins {can : Nat → Nat → Bool} {m : Nat} : ([] : List Int) ∈ joinsL can m ([] : List Int).length 0 0 := by simp [joinsL]
theorem now_bound {can : Nat → Nat → Bool} {J l : List Int} {left k : Int} (h : stpB can J l left k = true) (hl : 0 ≤ left ∧ left ≤ 100) : 0 ≤ nowJ J l left k ∧ nowJ J l left k ≤ 100 := by
  unfold stpB at h
  rw [Bool.and_eq_true, Bool.not_eq_true', Bool.and_eq_false_iff] at h
  unfold nowJ
  split
  · exact hl
  · rename_i e
    rcases h.2 with h | h
    · rw [decide_eq_false e] at h; cases h
    · rw [decide_eq_false_iff_not] at h; omega
theorem stp_snoc {can : Nat → Nat → Bool} {m : Nat} {J l : List Int} {left k : Int} (h : stpB can J l left k = true) (hk : -1 ≤ k ∧ k ≤ (m : Int) - 1) (hl : l ∈ joinsL can m l.length 0 0) : l ++ [k] ∈ joinsL can m (l ++ [k]).length 0 0 := by
  unfold stpB at h
  rw [Bool.and_eq_true] at h
  exact mt_snoc hl hk h.1
theorem put_R_p {J : List Int} {w0 : Int} (hN : 110 ≤ N) (hF : F.length ≤ 6) (hJ : J.length ≤ 6) (hA : ∀ i k, 0 ≤ A i k ∧ A i k ≤ 50) : ∀ (fu d : Nat) (l : List Int) (left : Int), d < fu → l.length + d = J.length → l ≠ [] → 0 ≤ left ∧ left ≤ 100 → l ∈ joinsL (canT A B s) F.length l.length 0 0 →
    ∃ r, put_R N fu l left J (dkT W s L F R A B) w0 J (dkT W s L F R A B) w0 = some r ∧ PutR (canT A B s) A F.length J w0 l left (dkT W s L F R A B) r
  | 0, d, l, left, h, _, _, _, _ => by omega
  | fu + 1, d, l, left, h, hd, hne, hleft, hl => by
    show ∃ r, put_S N (put_R N fu) l left J (dkT W s L F R A B) w0 J (dkT W s L F R A B) w0 = some r ∧ _
    unfold put_S
    cases d with
    | zero =>
      have hlen : l.length = J.length := by omega
      rw [br_dec (by omega), dworth_v hN hA (by omega) hF (joins_all hl).2]
      simp only [Option.bind_some]
      by_cases c : w0 < valJ A 0 l
      · rw [br_dec c]
        refine ⟨_, rfl, rfl, ?_⟩
        rw [hlen] at hl
        exact ⟨hl, List.take_length, c, by rw [List.drop_of_length_le (by omega), show List.drop l.length l = [] from List.drop_length]; simp [apL, hleft.1]⟩
      · rw [br_ndec c]
        refine ⟨_, rfl, rfl, fun l' hx => ?_⟩
        have h1 := (joins_all hx.mem).1
        have h2 := hx.pre
        rw [List.take_of_length_le (by omega)] at h2
        rw [h2] at hx
        exact c hx.more
    | succ d =>
      have hlJ : l.length < J.length := by omega
      rw [br_ndec (by omega)]
      obtain ⟨r, r1, r2⟩ := put_l1_p (N := N) (W := W) (s := s) (L := L) (F := F) (R := R) (A := A) (B := B) (w0 := w0) (self := put_R N fu) hne hN hF hJ hlJ hleft hl (fun k hs hk => put_R_p hN hF hJ hA fu d (l ++ [k]) _ (by omega) (by simp; omega) (by simp) (now_bound hs hleft) (stp_snoc hs hk hl)) N 0 (by omega) (by omega)
      rw [show ((0 : Nat) : Int) - 1 = -1 from rfl] at r1
      rw [r1]
      simp only [Option.bind_some]
      cases r with
      | inl r =>
        obtain ⟨l', g1, g2, g3⟩ := r
        exact ⟨_, rfl, r2⟩
      | inr g =>
        obtain ⟨g1, g2, g3⟩ := g
        refine ⟨_, rfl, r2.1, fun l' hx => ?_⟩
        obtain ⟨k, hk, hs, hx'⟩ := (ext_step hlJ).1 hx
        exact r2.2 l' k (by omega) hk.2 (hs hleft.1) hx'
/-- Better joins. -/
structure Better (can : Nat → Nat → Bool) (A : Nat → Nat → Int) (m : Nat) (J l : List Int) : Prop where
  mem : l ∈ joinsL can m J.length 0 0
  more : valJ A 0 J < valJ A 0 l
theorem Better.ap {can : Nat → Nat → Bool} {m : Nat} {J l : List Int} (h : Better can A m J l) : 0 < apL J l ∧ apL J l ≤ J.length := by
  have h1 := apL_bound J l
  refine ⟨?_, h1.2⟩
  rcases Int.lt_or_eq_of_le h1.1 with h2 | h2
  · exact h2
  · have := apL_zero (by rw [(joins_all h.mem).1]) h2.symm
    have hm := h.more
    rw [← this] at hm; omega
theorem changed_v {J : List Int} (hN : 110 ≤ N) (hF : F.length ≤ 6) (hJ : J.length ≤ 6) (hJ0 : 0 < J.length) (hA : ∀ i k, 0 ≤ A i k ∧ A i k ≤ 50) (hJm : J ∈ joinsL (canT A B s) F.length J.length 0 0) {more : Int} (hm : 0 ≤ more ∧ more ≤ 100) :
    ∃ r, changed_S N (dkT W s L F R A B) J more = some r ∧ match r with
      | .inl _ => ∀ l, Better (canT A B s) A F.length J l → more < apL J l
      | .inr l => Better (canT A B s) A F.length J l ∧ apL J l ≤ more := by
  unfold changed_S
  rw [dworth_v hN hA hJ hF (joins_all hJm).2]
  simp only [Option.bind_some]
  unfold put0_S
  rw [br_ndec (by omega)]
  obtain ⟨r, r1, r2⟩ := put0_l1_p (N := N) (W := W) (s := s) (L := L) (F := F) (R := R) (A := A) (B := B) (w0 := valJ A 0 J) hN hF hJ hJ0 hm nil_joins (fun k hs hk => by
    have := put_R_p (N := N) (W := W) (s := s) (L := L) (F := F) (R := R) (A := A) (B := B) (w0 := valJ A 0 J) hN hF hJ hA N (J.length - 1) [k] (nowJ J [] more k) (by omega) (by simp; omega) (by simp) (now_bound hs hm) (stp_snoc hs hk nil_joins)
    exact this) N 0 (by omega) (by omega)
  rw [show ((0 : Nat) : Int) - 1 = -1 from rfl] at r1
  rw [r1]
  simp only [Option.bind_some]
  cases r with
  | inl r =>
    obtain ⟨l', g1, g2, g3⟩ := r
    refine ⟨_, rfl, ⟨r2.2.mem, r2.2.more⟩, ?_⟩
    have := r2.2.ap
    simpa using this
  | inr g =>
    obtain ⟨g1, g2, g3⟩ := g
    refine ⟨_, rfl, fun l' hb => ?_⟩
    by_cases h : more < apL J l'
    · exact h
    · have hx : ExtJ (canT A B s) A F.length J (valJ A 0 J) [] l' more := ⟨hb.mem, by simp, hb.more, by simpa using Int.not_lt.1 h⟩
      obtain ⟨k, hk, hs, hx'⟩ := (ext_step (l := []) hJ0).1 hx
      exact absurd hx' (r2.2 l' k (by omega) hk.2 (hs hm.1))
theorem change_l1_p {J : List Int} (hN : 110 ≤ N) (hF : F.length ≤ 6) (hJ : J.length ≤ 6) (hA : ∀ i k, 0 ≤ A i k ∧ A i k ≤ 50) (hJm : J ∈ joinsL (canT A B s) F.length J.length 0 0) (hex : ∃ l, Better (canT A B s) A F.length J l) :
    ∀ n k : Nat, J.length < n + k → (∀ l, Better (canT A B s) A F.length J l → (k : Int) < apL J l) → ∃ l, change_l1 N n J (dkT W s L F R A B) J.length k = some l ∧ Better (canT A B s) A F.length J l ∧ ∀ l', Better (canT A B s) A F.length J l' → apL J l ≤ apL J l'
  | 0, k, h, hk => by
    obtain ⟨l, hl⟩ := hex
    have := hk l hl
    have := hl.ap
    omega
  | n + 1, k, h, hk => by
    unfold change_l1
    have hlt : k < J.length := by
      obtain ⟨l, hl⟩ := hex
      have := hk l hl
      have := hl.ap
      omega
    obtain ⟨r, r1, r2⟩ := changed_v (N := N) (W := W) (s := s) (L := L) (F := F) (R := R) (A := A) (B := B) hN hF hJ (by omega) hA hJm (more := (k : Int) + 1) (by omega)
    rw [br_dec (by omega), chk_eq (by omega), r1]
    simp only [Option.bind_some]
    cases r with
    | inl u =>
      have ih := change_l1_p hN hF hJ hA hJm hex n (k + 1) (by omega) (fun l hl => by have := r2 l hl; omega)
      rw [nat_succ] at ih
      dsimp only
      rw [chk_eq (by omega)]
      exact ih
    | inr l =>
      dsimp only at r2 ⊢
      have hne : l ≠ [] := fun e => by
        have := (joins_all r2.1.mem).1
        rw [e] at this
        simp at this; omega
      rw [grd_eq (by simp [hne])]
      exact ⟨l, rfl, r2.1, fun l' hl' => by have := hk l' hl'; omega⟩
theorem change_v (hN : 110 ≤ N) (h : Sm W L F R) {J : List Int} (hJ : J.length ≤ 100) : ∃ r, change_S N W s L F R J = some r ∧
    ((errJ (errD W s L F R) L.length F.length (canF W s L F) J ≠ 0 ∧ r = ([], errJ (errD W s L F R) L.length F.length (canF W s L F) J)) ∨
    (errJ (errD W s L F R) L.length F.length (canF W s L F) J = 0 ∧ ((valJ (agF W L F) 0 J = bestV W s L F ∧ r = ([], 6)) ∨
      (valJ (agF W L F) 0 J < bestV W s L F ∧ r.2 = 0 ∧ Better (canF W s L F) (agF W L F) F.length J r.1 ∧ ∀ l, Better (canF W s L F) (agF W L F) F.length J l → apL J r.1 ≤ apL J l)))) := by
  unfold change_S
  rw [joined_v hN h hJ]
  by_cases c : errJ (errD W s L F R) L.length F.length (canF W s L F) J = 0
  rotate_left
  · rw [if_neg c]
    simp only [Option.bind_some]
    rw [br_nnd c]
    exact ⟨_, rfl, .inl ⟨c, rfl⟩⟩
  obtain ⟨c1, c2, c3, _⟩ := errJ_fine c
  have hF := errD_iff.1 c1
  have hl6 := hF.l6; have hf6 := hF.f6
  have hm : J ∈ joinsL (canF W s L F) F.length L.length 0 0 := by rw [c1] at c; exact errJ_mt.1 c
  rw [if_pos c]
  simp only [Option.bind_some]
  rw [br_nd (by first | trivial | rfl)]
  unfold dkO
  rw [dworth_v hN (agF_bound hF) (by omega) hf6 c3]
  simp only [Option.bind_some]
  have e0 := first_v (N := N) (W := W) (s := s) (R := R) (B := slF W L F) hN hf6 hl6 (agF_bound hF) (u := 0) (by omega)
  rw [show ((0 : Nat) : Int) = 0 from rfl] at e0
  rw [e0]
  simp only [Option.bind_some]
  have ev : (rsR (canT (agF W L F) (slF W L F) s) (agF W L F) F.length L.length 0 0).2.1 = bestV W s L F := rfl
  rw [ev]
  by_cases d : valJ (agF W L F) 0 J = bestV W s L F
  · rw [br_dec d]
    exact ⟨_, rfl, .inr ⟨c, .inl ⟨d, rfl⟩⟩⟩
  rw [br_ndec d]
  have hlt : valJ (agF W L F) 0 J < bestV W s L F := by have := best_le hm; omega
  have hex : ∃ l, Better (canF W s L F) (agF W L F) F.length J l := ⟨bestL W s L F, by rw [c2]; exact bl_mem, by rw [bl_val]; exact hlt⟩
  obtain ⟨l, l1, l2, l3⟩ := change_l1_p (N := N) (W := W) (s := s) (L := L) (F := F) (R := R) (A := agF W L F) (B := slF W L F) hN hf6 (by omega) (agF_bound hF) (by rw [c2]; exact hm) hex N 0 (by omega) (fun l hl => by have := hl.ap; omega)
  rw [show ((0 : Nat) : Int) = 0 from rfl] at l1
  rw [l1]
  exact ⟨_, rfl, .inr ⟨c, .inr ⟨hlt, rfl, l2, l3⟩⟩⟩
/-! ### The reference -/
/-- The fewest changes that better joins, 0 if there are none such. -/
def RC (can : Nat → Nat → Bool) (A : Nat → Nat → Int) (m : Nat) (J : List Int) (l : List (List Int)) (few : Int) : Prop :=
  (few = 0 ∧ ∀ x ∈ l, ¬ Better can A m J x) ∨ (0 < few ∧ (∃ x ∈ l, Better can A m J x ∧ apL J x = few) ∧ ∀ x ∈ l, Better can A m J x → few ≤ apL J x)
theorem rchange_l1_p (hN : 110 ≤ N) (h : Fine W s L F R) {J : List Int} (hJm : J ∈ joinsL (canF W s L F) F.length L.length 0 0) {l : List (List Int)} (hl : l.length ≤ 100000) (hr : ∀ r ∈ l, r ∈ joinsL (canF W s L F) F.length L.length 0 0) : ∀ (n k : Nat) (few : Int), l.length < n + k → k ≤ l.length → RC (canF W s L F) (agF W L F) F.length J (l.take k) few →
    ∃ f, rchange_l1 N n J l few k W s L F R = some f ∧ RC (canF W s L F) (agF W L F) F.length J l f
  | 0, k, few, h, _, _ => by omega
  | n + 1, k, few, hn, hk, hf => by
    unfold rchange_l1
    have hl6 := h.l6
    by_cases c : k < l.length
    rotate_left
    · rw [br_ndec (by omega)]
      rw [List.take_of_length_le (by omega)] at hf
      exact ⟨few, rfl, hf⟩
    have hx := hr _ (getD_mem (d := []) c)
    obtain ⟨j1, j2⟩ := joins_all hx
    obtain ⟨j3, j4⟩ := joins_all hJm
    have hj : ∀ f, RC (canF W s L F) (agF W L F) F.length J (l.take (k + 1)) f → ∃ f', rchange_j1 N (rchange_l1 N n) J l f k W s L F R = some f' ∧ RC (canF W s L F) (agF W L F) F.length J l f' := fun f hf => by
      have ih := rchange_l1_p hN h hJm hl hr n (k + 1) f (by omega) (by omega) hf
      rw [nat_succ] at ih
      unfold rchange_j1
      rw [chk_eq (by omega)]
      exact ih
    rw [br_dec (by omega), idx_eq (by omega) (gets c []), apart_v (by omega) (by omega) (by omega)]
    simp only [Option.bind_some]
    rw [idx_eq (by omega) (gets c []), rworth_j hN h hx, rworth_j hN h hJm]
    simp only [Option.bind_some]
    rw [take_succ' c []] at hj
    generalize l.getD k [] = x at *
    by_cases c1 : valJ (agF W L F) 0 J < valJ (agF W L F) 0 x
    rotate_left
    · rw [br_ndec c1]
      refine hj few ?_
      have hnb : ¬ Better (canF W s L F) (agF W L F) F.length J x := fun h => c1 h.more
      rcases hf with ⟨f1, f2⟩ | ⟨f1, ⟨y, y1, y2⟩, f3⟩
      · refine .inl ⟨f1, fun y hy => ?_⟩
        rcases List.mem_append.1 hy with hy | hy
        · exact f2 y hy
        · rw [List.mem_singleton.1 hy]; exact hnb
      · refine .inr ⟨f1, ⟨y, List.mem_append_left _ y1, y2⟩, fun z hz hb => ?_⟩
        rcases List.mem_append.1 hz with hz | hz
        · exact f3 z hz hb
        · rw [List.mem_singleton.1 hz] at hb; exact absurd hb hnb
    have hb : Better (canF W s L F) (agF W L F) F.length J x := ⟨by rw [j3]; exact hx, c1⟩
    have hap := hb.ap
    rw [br_dec c1]
    rcases hf with ⟨f1, f2⟩ | ⟨f1, ⟨y, y1, y2⟩, f3⟩
    · rw [br_dec f1]
      refine hj _ (.inr ⟨hap.1, ⟨x, by simp, hb, rfl⟩, fun z hz hbz => ?_⟩)
      rcases List.mem_append.1 hz with hz | hz
      · exact absurd hbz (f2 z hz)
      · rw [List.mem_singleton.1 hz]; exact Int.le_refl _
    · rw [br_ndec (by omega)]
      by_cases c2 : apL J x < few
      · rw [br_dec c2]
        refine hj _ (.inr ⟨hap.1, ⟨x, by simp, hb, rfl⟩, fun z hz hbz => ?_⟩)
        rcases List.mem_append.1 hz with hz | hz
        · have := f3 z hz hbz; omega
        · rw [List.mem_singleton.1 hz]; exact Int.le_refl _
      · rw [br_ndec c2]
        refine hj _ (.inr ⟨f1, ⟨y, List.mem_append_left _ y1, y2⟩, fun z hz hbz => ?_⟩)
        rcases List.mem_append.1 hz with hz | hz
        · exact f3 z hz hbz
        · rw [List.mem_singleton.1 hz]; omega
theorem rchange_v (hN : 110 ≤ N) (h : Sm W L F R) (hp : (F.length + 1) ^ L.length < N ∨ ¬ errD W s L F R = 0) (hp2 : (F.length + 1) ^ L.length ≤ 100000 ∨ ¬ errD W s L F R = 0) {J : List Int} (hJ : J.length ≤ 100) : ∃ r, rchange_S N W s L F R J = some r ∧
    ((errJ (errD W s L F R) L.length F.length (canF W s L F) J ≠ 0 ∧ r = (0, errJ (errD W s L F R) L.length F.length (canF W s L F) J)) ∨
    (errJ (errD W s L F R) L.length F.length (canF W s L F) J = 0 ∧ (((∀ l, ¬ Better (canF W s L F) (agF W L F) F.length J l) ∧ r = (0, 6)) ∨
      (r.2 = 0 ∧ (∃ l, Better (canF W s L F) (agF W L F) F.length J l ∧ apL J l = r.1) ∧ ∀ l, Better (canF W s L F) (agF W L F) F.length J l → r.1 ≤ apL J l)))) := by
  unfold rchange_S
  rw [rjoins_v hN h hJ]
  simp only [Option.bind_some]
  by_cases c : errJ (errD W s L F R) L.length F.length (canF W s L F) J = 0
  rotate_left
  · rw [br_nnd c]
    exact ⟨_, rfl, .inl ⟨c, rfl⟩⟩
  obtain ⟨c1, c2, c3, _⟩ := errJ_fine c
  have hF := errD_iff.1 c1
  have hm : J ∈ joinsL (canF W s L F) F.length L.length 0 0 := by rw [c1] at c; exact errJ_mt.1 c
  have hp' : (F.length + 1) ^ L.length < N := hp.resolve_right (fun h => h c1)
  have hp2' : (F.length + 1) ^ L.length ≤ 100000 := hp2.resolve_right (fun h => h c1)
  have hlen : (allR W s L F).length ≤ (F.length + 1) ^ L.length := by
    rw [← listsR_len]; exact List.length_filter_le _ _
  rw [br_nd c, all_v hN hF hp' hp2']
  simp only [Option.bind_some]
  obtain ⟨f, f1, f2⟩ := rchange_l1_p hN hF hm (l := allR W s L F) (by omega) (fun r hr => mem_allR.1 hr) N 0 0 (by omega) (by omega) (.inl ⟨rfl, fun x hx => by simp at hx⟩)
  rw [show ((0 : Nat) : Int) = 0 from rfl] at f1
  rw [f1]
  simp only [Option.bind_some]
  have hmem : ∀ l, Better (canF W s L F) (agF W L F) F.length J l → l ∈ allR W s L F := fun l hl => mem_allR.2 (by have := hl.mem; rw [c2] at this; exact this)
  rcases f2 with ⟨g1, g2⟩ | ⟨g1, ⟨y, y1, y2, y3⟩, g3⟩
  · rw [br_dec g1]
    exact ⟨_, rfl, .inr ⟨c, .inl ⟨fun l hl => g2 l (hmem l hl) hl, rfl⟩⟩⟩
  · rw [br_ndec (by omega)]
    exact ⟨_, rfl, .inr ⟨c, .inr ⟨rfl, ⟨y, y2, y3⟩, fun l hl => g3 l (hmem l hl) hl⟩⟩⟩
end
end Go.Proofs.Ythncjilcflilcaa

namespace Go.Proofs.Ythncjilcflilcaa
set_option linter.all false
open Go

section
variable {W : List Int} {s : Int} {L F : List (List Int)} {R : List Int} {A B : Nat → Nat → Int} {N : Nat}
/-- The tables without a pair. -/
def cutA (A : Nat → Nat → Int) (a b : Nat) (i k : Nat) : Int := if i = a ∧ k = b then 0 else A i k
theorem cut_tab {a b : Nat} (ha : a < 6) (hb : b < 6) : (tabA (fun x => A (x / 6) (x % 6))).set (a * 6 + b) 0 = tabA (fun x => cutA A a b (x / 6) (x % 6)) := by
  rw [tabA_set]
  refine tabA_congr fun x hx => ?_
  unfold upd cutA
  by_cases e : x = a * 6 + b
  · rw [if_pos e, if_pos (by omega)]
  · rw [if_neg e, if_neg (by omega)]
theorem cut_can {a b i k : Nat} : canT (cutA A a b) B s i k = (canT A B s i k && !decide (i = a ∧ k = b)) := by
  unfold canT cutA
  by_cases e : i = a ∧ k = b
  · rw [if_pos e, decide_eq_true e]; simp
  · rw [if_neg e, decide_eq_false e]; simp
theorem cut_mem {m n a b : Nat} (ha : a < n) {l : List Int} : l ∈ joinsL (canT (cutA A a b) B s) m n 0 0 ↔ l ∈ joinsL (canT A B s) m n 0 0 ∧ fnJ l a ≠ b := by
  rw [mem_joins, mem_joins]
  constructor
  · rintro ⟨h1, h2, h3⟩
    refine ⟨⟨h1, ⟨fun i hi => ?_, h2.inj⟩, h3⟩, fun e => ?_⟩
    · rcases h2.ok i hi with h | ⟨k, x, y, z⟩
      · exact .inl h
      · rw [cut_can, Bool.and_eq_true] at z
        exact .inr ⟨k, x, y, z.1⟩
    · rcases h2.ok a ha with h | ⟨k, x, y, z⟩
      · omega
      · rw [cut_can, Bool.and_eq_true, Bool.not_eq_true', decide_eq_false_iff_not] at z
        exact z.2 ⟨rfl, by omega⟩
  · rintro ⟨⟨h1, h2, h3⟩, hne⟩
    refine ⟨h1, ⟨fun i hi => ?_, h2.inj⟩, h3⟩
    rcases h2.ok i hi with h | ⟨k, x, y, z⟩
    · exact .inl h
    · refine .inr ⟨k, x, y, ?_⟩
      rw [cut_can, z, Bool.true_and, Bool.not_eq_true', decide_eq_false_iff_not]
      rintro ⟨rfl, rfl⟩
      exact hne x
theorem cut_val {n a b : Nat} {l : List Int} (hl : l.length = n) (hne : fnJ l a ≠ b) (hb : ∀ i, i < n → -1 ≤ fnJ l i) : valJ (cutA A a b) 0 l = valJ A 0 l := by
  rw [val_joins hl, val_joins hl]
  refine sumN_congr fun i hi => ?_
  have h1 := hb i hi
  unfold pv
  split
  · rfl
  · unfold cutA
    rw [if_neg]
    rintro ⟨rfl, h⟩
    exact hne (by omega)
theorem cut_bound (hA : ∀ i k, 0 ≤ A i k ∧ A i k ≤ 50) (a b i k : Nat) : 0 ≤ cutA A a b i k ∧ cutA A a b i k ≤ 50 := by
  unfold cutA
  split
  · omega
  · exact hA i k
/-- The fate of two things, by all best joins. -/
def fateR (W : List Int) (s : Int) (L F : List (List Int)) (a b : Nat) : Int :=
  if (bestR W s L F).countP (fun l => decide (fnJ l a = b)) = (bestR W s L F).length then 1 else if (bestR W s L F).countP (fun l => decide (fnJ l a = b)) = 0 then 2 else 0
theorem bestR_pos : 0 < (bestR W s L F).length := List.length_pos_of_mem (mem_bestR.2 ⟨bl_mem, bl_val⟩)
theorem joins_bd {can : Nat → Nat → Bool} {m n : Nat} {l : List Int} (h : l ∈ joinsL can m n 0 0) : ∀ i, i < n → -1 ≤ fnJ l i := fun i hi => by
  obtain ⟨_, h2, _⟩ := mem_joins.1 h
  rcases h2.ok i hi with h | ⟨k, h, _⟩ <;> omega
/-- Joins without a pair: their greatest worth, and how many they are. -/
theorem cut_facts {a b : Nat} (ha : a < L.length) :
    ((rsR (canT (cutA (agF W L F) a b) (slF W L F) s) (cutA (agF W L F) a b) F.length L.length 0 0).2.1 < bestV W s L F ∧ (bestR W s L F).countP (fun l => decide (fnJ l a = b)) = (bestR W s L F).length) ∨
    ((rsR (canT (cutA (agF W L F) a b) (slF W L F) s) (cutA (agF W L F) a b) F.length L.length 0 0).2.1 = bestV W s L F ∧ (rsR (canT (cutA (agF W L F) a b) (slF W L F) s) (cutA (agF W L F) a b) F.length L.length 0 0).2.2 = (bestR W s L F).length - (bestR W s L F).countP (fun l => decide (fnJ l a = b)) ∧ (bestR W s L F).countP (fun l => decide (fnJ l a = b)) < (bestR W s L F).length) := by
  have hb := rs_bst (can := canT (cutA (agF W L F) a b) (slF W L F) s) (t := cutA (agF W L F) a b) (m := F.length) L.length 0 0
  obtain ⟨q1, q2, q3⟩ := bl_best (can := canT (cutA (agF W L F) a b) (slF W L F) s) (t := cutA (agF W L F) a b) (m := F.length) L.length 0 0
  have hm := mem_joinsL.2 ⟨q2, q1⟩
  obtain ⟨m1, m2⟩ := (cut_mem ha).1 hm
  have hv : valJ (agF W L F) 0 (blR (canT (cutA (agF W L F) a b) (slF W L F) s) (cutA (agF W L F) a b) F.length L.length 0 0) = (rsR (canT (cutA (agF W L F) a b) (slF W L F) s) (cutA (agF W L F) a b) F.length L.length 0 0).2.1 := by
    rw [← q3, cut_val q2 m2 (joins_bd m1)]
  have hle := best_le m1
  rw [hv] at hle
  -- best joins without the pair
  have hsplit : (bestR W s L F).length = (bestR W s L F).countP (fun l => decide (fnJ l a = b)) + (bestR W s L F).countP (fun l => !decide (fnJ l a = b)) := by
    have := List.length_eq_countP_add_countP (fun l => decide (fnJ l a = b)) (l := bestR W s L F)
    rw [this]
    congr 1
    refine List.countP_congr fun l _ => ?_
    by_cases e : fnJ l a = b <;> simp [e]
  have hwo : ∀ l ∈ bestR W s L F, fnJ l a ≠ b → bestV W s L F ≤ (rsR (canT (cutA (agF W L F) a b) (slF W L F) s) (cutA (agF W L F) a b) F.length L.length 0 0).2.1 := fun l hl hne => by
    obtain ⟨l1, l2⟩ := mem_bestR.1 hl
    have := hb.le l ((cut_mem ha).2 ⟨l1, hne⟩)
    rw [cut_val (joins_all l1).1 hne (joins_bd l1), l2] at this
    exact this
  by_cases c : (rsR (canT (cutA (agF W L F) a b) (slF W L F) s) (cutA (agF W L F) a b) F.length L.length 0 0).2.1 < bestV W s L F
  · refine .inl ⟨c, ?_⟩
    rw [List.countP_eq_length]
    intro l hl
    rw [decide_eq_true_eq]
    by_cases e : fnJ l a = b
    · exact e
    · have := hwo l hl e; omega
  · have hV : (rsR (canT (cutA (agF W L F) a b) (slF W L F) s) (cutA (agF W L F) a b) F.length L.length 0 0).2.1 = bestV W s L F := by omega
    have hways := hb.ways
    have hc : (joinsL (canT (cutA (agF W L F) a b) (slF W L F) s) F.length L.length 0 0).countP (fun l => decide (valJ (cutA (agF W L F) a b) 0 l = (rsR (canT (cutA (agF W L F) a b) (slF W L F) s) (cutA (agF W L F) a b) F.length L.length 0 0).2.1)) = (bestR W s L F).countP (fun l => !decide (fnJ l a = b)) := by
      rw [hV]
      unfold bestR
      rw [List.countP_filter]
      rw [List.countP_eq_length_filter, List.countP_eq_length_filter]
      refine ((List.perm_ext_iff_of_nodup (List.Pairwise.filter _ (nodup_joinsL _ _ _)) (List.Pairwise.filter _ nodup_allR)).2 fun l => ?_).length_eq
      rw [List.mem_filter, List.mem_filter, mem_allR, cut_mem ha, decide_eq_true_eq, Bool.and_eq_true, Bool.not_eq_true', decide_eq_false_iff_not, decide_eq_true_eq]
      constructor
      · rintro ⟨⟨x1, x2⟩, x3⟩
        rw [cut_val (joins_all x1).1 x2 (joins_bd x1)] at x3
        exact ⟨x1, x2, x3⟩
      · rintro ⟨x1, x2, x3⟩
        exact ⟨⟨x1, x2⟩, by rw [cut_val (joins_all x1).1 x2 (joins_bd x1)]; exact x3⟩
    rw [hc] at hways
    refine .inr ⟨hV, by omega, ?_⟩
    have : 0 < (bestR W s L F).countP (fun l => !decide (fnJ l a = b)) := by
      rw [List.countP_pos_iff]
      exact ⟨_, mem_bestR.2 ⟨m1, by rw [hv, hV]⟩, by rw [Bool.not_eq_true', decide_eq_false_iff_not]; exact m2⟩
    omega
theorem fates_v (hN : 110 ≤ N) (h : Sm W L F R) (a b : Int) : fates_S N W s L F R a b = some (if errD W s L F R = 0 then if ¬ (0 ≤ a ∧ a ≤ (L.length : Int) - 1) then (0, 1) else if ¬ (0 ≤ b ∧ b ≤ (F.length : Int) - 1) then (0, 1) else (fateR W s L F a.toNat b.toNat, 0) else (0, errD W s L F R)) := by
  unfold fates_S
  rw [opened_v hN h]
  by_cases c : errD W s L F R = 0
  rotate_left
  · rw [if_neg c, if_neg c]
    simp only [Option.bind_some]
    rw [br_nnd c]
  have hF := errD_iff.1 c
  have hl6 := hF.l6; have hf6 := hF.f6
  rw [if_pos c, if_pos c]
  simp only [Option.bind_some]
  rw [br_nd (by first | trivial | rfl)]
  unfold dkO
  rw [dlost_v (by omega), dfound_v (by omega)]
  simp only [Option.bind_some]
  by_cases c1 : 0 ≤ a ∧ a ≤ (L.length : Int) - 1
  rotate_left
  · rw [br_nnd c1, if_pos c1]
  rw [br_nd c1, if_neg (not_not_intro c1)]
  by_cases c2 : 0 ≤ b ∧ b ≤ (F.length : Int) - 1
  rotate_left
  · rw [br_nnd c2, if_pos c2]
  rw [br_nd c2, if_neg (not_not_intro c2)]
  obtain ⟨i, rfl⟩ : ∃ i : Nat, a = i := ⟨a.toNat, (Int.toNat_of_nonneg c1.1).symm⟩
  obtain ⟨k, rfl⟩ : ∃ k : Nat, b = k := ⟨b.toNat, (Int.toNat_of_nonneg c2.1).symm⟩
  have e0 := first_v (N := N) (W := W) (s := s) (R := R) (B := slF W L F) hN hf6 hl6 (agF_bound hF) (u := 0) (by omega)
  have e1 := first_v (N := N) (W := W) (s := s) (R := R) (A := cutA (agF W L F) i k) (B := slF W L F) hN hf6 hl6 (cut_bound (agF_bound hF) i k) (u := 0) (by omega)
  rw [show ((0 : Nat) : Int) = 0 from rfl] at e0 e1
  rw [e0]
  simp only [Option.bind_some]
  rw [rng_eq (by omega), rng_eq (by omega)]
  simp only [Int.toNat_natCast]
  rw [get_T (by omega) (by omega)]
  have ed : (((dkT W s L F R (agF W L F) (slF W L F)).1, (dkT W s L F R (agF W L F) (slF W L F)).2.1, (dkT W s L F R (agF W L F) (slF W L F)).2.2.1, (dkT W s L F R (agF W L F) (slF W L F)).2.2.2.1, (dkT W s L F R (agF W L F) (slF W L F)).2.2.2.2.1, (dkT W s L F R (agF W L F) (slF W L F)).2.2.2.2.2.1.set (i * 6 + k) 0, (dkT W s L F R (agF W L F) (slF W L F)).2.2.2.2.2.2.1, ()) : Dk) = dkT W s L F R (cutA (agF W L F) i k) (slF W L F) := by
    unfold dkT
    dsimp only
    rw [cut_tab (by omega) (by omega)]
  rw [ed, e1]
  simp only [Option.bind_some]
  have ev : (rsR (canT (agF W L F) (slF W L F) s) (agF W L F) F.length L.length 0 0).2.1 = bestV W s L F := rfl
  have en : (rsR (canT (agF W L F) (slF W L F) s) (agF W L F) F.length L.length 0 0).2.2 = bestN W s L F := rfl
  rw [ev, en, ← bestR_len]
  have hpos := bestR_pos (W := W) (s := s) (L := L) (F := F)
  unfold fateR
  rcases cut_facts (W := W) (s := s) (L := L) (F := F) (a := i) (b := k) (by omega) with ⟨f1, f2⟩ | ⟨f1, f2, f3⟩
  · rw [br_dec f1, if_pos f2]
  · have hn : ¬ ((rsR (canT (cutA (agF W L F) i k) (slF W L F) s) (cutA (agF W L F) i k) F.length L.length 0 0).2.1 < bestV W s L F) := by omega
    rw [br_ndec hn, f2, if_neg (by omega)]
    by_cases d : (bestR W s L F).countP (fun l => decide (fnJ l i = (k : Int))) = 0
    · rw [if_pos d, d, br_dec (by omega)]
    · rw [if_neg d, br_ndec (by omega)]
theorem countP_succ {α : Type} {p : α → Bool} {l : List α} {k : Nat} (c : k < l.length) (d : α) : (l.take (k + 1)).countP p = (l.take k).countP p + (if p (l.getD k d) = true then 1 else 0) := by
  rw [take_succ' c d, List.countP_append, List.countP_cons, List.countP_nil, Nat.zero_add]
theorem rfates_l1_p {l : List (List Int)} (hl : l.length ≤ 100000) {a b : Nat} (ha : ∀ r ∈ l, a < r.length) : ∀ (n k : Nat), l.length < n + k → k ≤ l.length → rfates_l1 N n l a b ((l.take k).countP (fun r => decide (fnJ r a = b)) : Nat) k = some (l, ((l.countP (fun r => decide (fnJ r a = b)) : Nat) : Int))
  | 0, k, h, _ => by omega
  | n + 1, k, hn, hk => by
    unfold rfates_l1
    by_cases c : k < l.length
    · have ih := rfates_l1_p hl ha (b := b) n (k + 1) (by omega) (by omega)
      rw [nat_succ, countP_succ c []] at ih
      have hlen := List.countP_le_length (p := fun r => decide (fnJ r a = b)) (l := l.take k)
      rw [List.length_take] at hlen
      have hx := ha _ (getD_mem (d := []) c)
      rw [br_dec (by omega), idx_eq (by omega) (gets c []), idx_eq (by omega) (gets hx 0), getD_01 hx]
      unfold rfates_j1
      by_cases e : fnJ (l.getD k []) a = b
      · rw [if_pos (decide_eq_true e)] at ih
        rw [br_dec e, chk_eq (by omega), chk_eq (by omega), ← ih]
        congr 1
      · rw [if_neg (by rw [decide_eq_true_eq]; exact e), Nat.add_zero] at ih
        rw [br_ndec e, chk_eq (by omega), ih]
    · rw [br_ndec (by omega), List.take_of_length_le (by omega)]
theorem rfates_v (hlen : (bestR W s L F).length ≤ 100000) (hlN : (bestR W s L F).length < N) {a b : Nat} (ha : a < L.length) : rfates_S N (bestR W s L F) a b = some (fateR W s L F a b) := by
  have e := rfates_l1_p (N := N) (l := bestR W s L F) hlen (a := a) (b := b) (fun r hr => by have := (joins_all (mem_bestR.1 hr).1).1; omega) N 0 (by omega) (by omega)
  rw [List.take_zero, List.countP_nil, show ((0 : Nat) : Int) = 0 from rfl] at e
  unfold rfates_S
  rw [e]
  simp only [Option.bind_some]
  unfold fateR
  by_cases c1 : (bestR W s L F).countP (fun r => decide (fnJ r a = (b : Int))) = (bestR W s L F).length
  · rw [br_dec (by omega), if_pos c1]
  · rw [br_ndec (by omega), if_neg c1]
    by_cases c2 : (bestR W s L F).countP (fun r => decide (fnJ r a = (b : Int))) = 0
    · rw [br_dec (by omega), if_pos c2]
    · rw [br_ndec (by omega), if_neg c2]
/-! ### What is spare -/
/-- The desk without a found thing. -/
def rmF (F : List (List Int)) (k : Nat) : List (List Int) := F.take k ++ F.drop (k + 1)
theorem rmF_len {k : Nat} (hk : k < F.length) : (rmF F k).length = F.length - 1 := by
  unfold rmF
  rw [List.length_append, List.length_take, List.length_drop]; omega
theorem rmF_get {k : Nat} (hk : k < F.length) (y : Nat) : (rmF F k).getD y [] = F.getD (up k y) [] := by
  unfold rmF up
  by_cases h : y < k
  · rw [if_pos h]
    simp [List.getD, List.getElem?_append_left (show y < (F.take k).length by simp; omega), List.getElem?_take_of_lt h]
  · rw [if_neg h]
    simp only [List.getD]
    rw [List.getElem?_append_right (by simp; omega), List.getElem?_drop]
    congr 2
    simp; omega
theorem rmF_sub {k : Nat} : ∀ r ∈ rmF F k, r ∈ F := fun r hr => by
  unfold rmF at hr
  rcases List.mem_append.1 hr with h | h
  · exact List.mem_of_mem_take h
  · exact List.mem_of_mem_drop h
theorem Fine.rmF (h : Fine W s L F R) {k : Nat} (hk : k < F.length) : Fine W s L (Proofs.Ythncjilcflilcaa.rmF F k) R := by
  have := rmF_len hk
  have hf := h.f6
  exact ⟨h.w1, h.w5, h.l6, by omega, h.lw, fun x hx => h.fw x (rmF_sub x hx), h.rl, h.w, h.s, h.r, h.lv, fun r hr => h.fv r (rmF_sub r hr)⟩
theorem up_lt_iff {k y n : Nat} (hk : k < n) : y < n - 1 ↔ up k y < n := by unfold up; split <;> omega
theorem agF_rm {k : Nat} (hk : k < F.length) : agF W L (rmF F k) = fun i y => agF W L F i (up k y) := by
  funext i y
  unfold agF
  rw [rmF_len hk, rmF_get hk]
  by_cases c : i < L.length ∧ y < F.length - 1
  · rw [if_pos c, if_pos ⟨c.1, (up_lt_iff hk).1 c.2⟩]
  · rw [if_neg c, if_neg (fun h => c ⟨h.1, (up_lt_iff hk).2 h.2⟩)]
theorem slF_rm {k : Nat} (hk : k < F.length) : slF W L (rmF F k) = fun i y => slF W L F i (up k y) := by
  funext i y
  unfold slF
  rw [rmF_len hk, rmF_get hk]
  by_cases c : i < L.length ∧ y < F.length - 1
  · rw [if_pos c, if_pos ⟨c.1, (up_lt_iff hk).1 c.2⟩]
  · rw [if_neg c, if_neg (fun h => c ⟨h.1, (up_lt_iff hk).2 h.2⟩)]
theorem canF_rm {k : Nat} (hk : k < F.length) : canF W s L (rmF F k) = fun i y => canF W s L F i (up k y) := by
  funext i y
  unfold canF canT
  rw [agF_rm hk, slF_rm hk]
theorem bestV_rm {k : Nat} (hk : k < F.length) : bestV W s L (rmF F k) = vK W s L F k := by
  have h1 := isMaxV (W := W) (s := s) (L := L) (F := rmF F k)
  rw [agF_rm hk, canF_rm hk, rmF_len hk] at h1
  exact (IsMax.rmF hk h1).uniq (isMaxK k)
/-- What is spare. -/
def spareR (W : List Int) (s : Int) (L F : List (List Int)) (n : Nat) : List Int := ((List.range n).filter fun k => decide (vK W s L F k = bestV W s L F)).map fun (k : Nat) => (k : Int)
theorem spareR_succ (n : Nat) : spareR W s L F (n + 1) = spareR W s L F n ++ (if vK W s L F n = bestV W s L F then [(n : Int)] else []) := by
  unfold spareR
  rw [List.range_succ, List.filter_append, List.map_append]
  congr 1
  rw [List.filter_cons]
  by_cases h : vK W s L F n = bestV W s L F
  · rw [if_pos (decide_eq_true h), if_pos h]; rfl
  · rw [if_neg (by rw [decide_eq_true_eq]; exact h), if_neg h]; rfl
theorem spareR_len (n : Nat) : (spareR W s L F n).length ≤ n := by
  have := List.length_filter_le (fun k => decide (vK W s L F k = bestV W s L F)) (List.range n)
  simpa [spareR] using this
theorem spare_l1_p (hN : 110 ≤ N) (h : Fine W s L F R) : ∀ n k : Nat, F.length < n + k → k ≤ F.length → spare_l1 N n (dkO W s L F R) F.length k (spareR W s L F k) = some (spareR W s L F F.length)
  | 0, k, hn, _ => by omega
  | n + 1, k, hn, hk => by
    unfold spare_l1
    have hf6 := h.f6; have hl6 := h.l6
    by_cases c : k < F.length
    · have ih := spare_l1_p hN h n (k + 1) (by omega) (by omega)
      rw [nat_succ, spareR_succ] at ih
      obtain ⟨q, hq, p1, p2⟩ := pow_small (k := k) (by omega)
      have hlen := spareR_len (W := W) (s := s) (L := L) (F := F) k
      have e1 := first_v (N := N) (W := W) (s := s) (R := R) (B := slF W L F) hN hf6 hl6 (agF_bound h) (u := q) p2
      have e0 := first_v (N := N) (W := W) (s := s) (R := R) (B := slF W L F) hN hf6 hl6 (agF_bound h) (u := 0) (by omega)
      rw [show ((0 : Nat) : Int) = 0 from rfl] at e0
      rw [br_dec (by omega), grd_eq (by rw [decide_eq_true_eq]; omega), p1, chk_eq (by omega), show first_S N (dkO W s L F R) (q : Int) = _ from e1]
      simp only [Option.bind_some]
      rw [show first_S N (dkO W s L F R) 0 = _ from e0]
      simp only [Option.bind_some]
      subst hq
      have ev : (rsR (canT (agF W L F) (slF W L F) s) (agF W L F) F.length L.length 0 0).2.1 = bestV W s L F := rfl
      have ek : (rsR (canT (agF W L F) (slF W L F) s) (agF W L F) F.length L.length 0 (2 ^ k)).2.1 = vK W s L F k := rfl
      rw [ev, ek]
      unfold spare_j1
      by_cases d : vK W s L F k = bestV W s L F
      · rw [if_pos d] at ih
        rw [br_dec d, lim_eq (by simp; omega), chk_eq (by omega), ih]
      · rw [if_neg d, List.append_nil] at ih
        rw [br_ndec d, chk_eq (by omega), ih]
    · obtain rfl : k = F.length := by omega
      rw [br_ndec (by omega)]
theorem spare_v (hN : 110 ≤ N) (h : Sm W L F R) : spare_S N W s L F R = some (if errD W s L F R = 0 then (spareR W s L F F.length, 0) else ([], errD W s L F R)) := by
  unfold spare_S
  rw [opened_v hN h]
  by_cases c : errD W s L F R = 0
  rotate_left
  · rw [if_neg c, if_neg c]
    simp only [Option.bind_some]
    rw [br_nnd c]
  have hF := errD_iff.1 c
  have e := spare_l1_p hN hF N 0 (by have := hF.f6; omega) (by omega)
  rw [show ((0 : Nat) : Int) = 0 from rfl, show spareR W s L F 0 = [] from rfl] at e
  rw [if_pos c, if_pos c]
  simp only [Option.bind_some]
  rw [br_nd (by first | trivial | rfl), e]; rfl
theorem rspare_l1_p (hN : 110 ≤ N) (h : Fine W s L F R) (hp : (F.length + 1) ^ L.length < N) (hp2 : (F.length + 1) ^ L.length ≤ 100000) : ∀ n k : Nat, F.length < n + k → k ≤ F.length → rspare_l1 N n (bestV W s L F) k W s L F R (spareR W s L F k) = some (spareR W s L F F.length)
  | 0, k, hn, _ => by omega
  | n + 1, k, hn, hk => by
    unfold rspare_l1
    have hf6 := h.f6; have hl6 := h.l6
    by_cases c : k < F.length
    · have ih := rspare_l1_p hN h hp hp2 n (k + 1) (by omega) (by omega)
      rw [nat_succ, spareR_succ] at ih
      have hlen := spareR_len (W := W) (s := s) (L := L) (F := F) k
      have hpow : ((rmF F k).length + 1) ^ L.length ≤ (F.length + 1) ^ L.length := Nat.pow_le_pow_left (by rw [rmF_len c]; omega) _
      have er : (([] : List (List Int)) ++ F.take k) ++ F.drop (k + 1) = rmF F k := rfl
      rw [br_dec (by omega), grd_eq (by rw [decide_eq_true_eq]; omega), lim_eq (by simp; omega), chk_eq (by omega), grd_eq (by rw [decide_eq_true_eq]; omega), lim_eq (by simp; omega)]
      simp only [Int.toNat_natCast, show ((k : Int) + 1).toNat = k + 1 by omega]
      rw [er, rbest_v hN (h.rmF c) (by omega) (by omega)]
      simp only [Option.bind_some]
      rw [bestV_rm c]
      unfold rspare_j1
      by_cases d : vK W s L F k = bestV W s L F
      · rw [if_pos d] at ih
        rw [br_dec d, lim_eq (by simp; omega), chk_eq (by omega), ih]
      · rw [if_neg d, List.append_nil] at ih
        rw [br_ndec d, chk_eq (by omega), ih]
    · obtain rfl : k = F.length := by omega
      rw [br_ndec (by omega)]
theorem rspare_v (hN : 110 ≤ N) (h : Sm W L F R) (hp : (F.length + 1) ^ L.length < N ∨ ¬ errD W s L F R = 0) (hp2 : (F.length + 1) ^ L.length ≤ 100000 ∨ ¬ errD W s L F R = 0) : rspare_S N W s L F R = some (if errD W s L F R = 0 then (spareR W s L F F.length, 0) else ([], errD W s L F R)) := by
  unfold rspare_S
  rw [rcheck_v hN h]
  simp only [Option.bind_some]
  by_cases c : errD W s L F R = 0
  rotate_left
  · rw [br_nnd c, if_neg c]
  have hF := errD_iff.1 c
  have hp' := hp.resolve_right (fun h => h c)
  have hp2' := hp2.resolve_right (fun h => h c)
  have e := rspare_l1_p hN hF hp' hp2' N 0 (by have := hF.f6; omega) (by omega)
  rw [show ((0 : Nat) : Int) = 0 from rfl, show spareR W s L F 0 = [] from rfl] at e
  rw [br_nd c, if_pos c, rbest_v hN hF hp' hp2']
  simp only [Option.bind_some]
  rw [e]; rfl
theorem ragree_v (hN : 110 ≤ N) (h : Sm W L F R) (a b : Int) : ragree_S N W s L F R a b = some (if errD W s L F R = 0 then if ¬ (0 ≤ a ∧ a ≤ (L.length : Int) - 1) then (0, 0, false, 1) else if ¬ (0 ≤ b ∧ b ≤ (F.length : Int) - 1) then (0, 0, false, 1) else (agF W L F a.toNat b.toNat, slF W L F a.toNat b.toNat, canF W s L F a.toNat b.toNat, 0) else (0, 0, false, errD W s L F R)) := by
  have hl := h.l; have hf := h.f
  unfold ragree_S
  rw [rcheck_v hN h]
  simp only [Option.bind_some]
  by_cases c : errD W s L F R = 0
  rotate_left
  · rw [br_nnd c, if_neg c]
  have hF := errD_iff.1 c
  rw [br_nd c, if_pos c, chk_eq (by omega), off_v]
  simp only [Option.bind_some]
  by_cases c1 : 0 ≤ a ∧ a ≤ (L.length : Int) - 1
  rotate_left
  · rw [br_nnd c1, if_pos c1]
  rw [br_nd c1, if_neg (not_not_intro c1), chk_eq (by omega), off_v]
  simp only [Option.bind_some]
  by_cases c2 : 0 ≤ b ∧ b ≤ (F.length : Int) - 1
  rotate_left
  · rw [br_nnd c2, if_pos c2]
  rw [br_nd c2, if_neg (not_not_intro c2)]
  obtain ⟨i, rfl⟩ : ∃ i : Nat, a = i := ⟨a.toNat, (Int.toNat_of_nonneg c1.1).symm⟩
  obtain ⟨k, rfl⟩ : ∃ k : Nat, b = k := ⟨b.toNat, (Int.toNat_of_nonneg c2.1).symm⟩
  rw [rpair_v hN hF (by omega) (by omega)]; rfl
end
end Go.Proofs.Ythncjilcflilcaa

namespace Go.Proofs.Ythncjilcflilcaa
set_option linter.all false
open Go
theorem awake_v : awake_S 1100 = some true := by kernel_rfl
end Go.Proofs.Ythncjilcflilcaa

namespace Go.Proofs.Ythncjilcflilcaa
set_option linter.all false
open Go

theorem fchange_true {W : List Int} {s : Int} {L F : List (List Int)} {R : List Int} {J : List Int} {a b : Int} (_ : Ty.inB (.pair (.sl (.int .i64)) (.pair (.int .i64) (.pair (.sl (.sl (.int .i64))) (.pair (.sl (.sl (.int .i64))) (.sl (.int .i64)))))) (W, s, L, F, R)) (_ : Ty.inB (.sl (.int .i64)) J) (_ : Ty.inB (.int .i64) a) (_ : Ty.inB (.int .i64) b) : fchange_S 1100 W s L F R J a b = some true := by
  have aw : ((awake_S 1100).bind fun x => some x) = some true := by rw [awake_v]; rfl
  unfold fchange_S
  rcases great_v (N := 1100) (W := W) (s := s) (L := L) (F := F) (R := R) (by omega) with h | ⟨h, hs⟩
  · rw [h]
    simp only [Option.bind_some]
    rw [br_true]; exact aw
  rw [h]
  simp only [Option.bind_some]
  rw [br_false]
  rcases wide_v (N := 1100) (W := W) (s := s) (L := L) (F := F) (R := R) 4 with h2 | ⟨h2, w1, w2⟩
  · rw [h2]
    simp only [Option.bind_some]
    rw [br_true]; exact aw
  rw [h2]
  simp only [Option.bind_some]
  rw [br_false]
  by_cases cj : 12 < (J.length : Int)
  · rw [br_dec cj]; exact aw
  rw [br_ndec cj, copyd_v (by omega) hs, copyi_v (by omega)]
  simp only [Option.bind_some]
  have hpow : errD W s L F R = 0 → (F.length + 1) ^ L.length ≤ 625 := fun d => by
    have hF := errD_iff.1 d
    have hl6 := hF.l6; have hf6 := hF.f6
    exact pow_bound (by omega) (by omega)
  have hp1 : (F.length + 1) ^ L.length < 1100 ∨ ¬ errD W s L F R = 0 := by
    by_cases d : errD W s L F R = 0
    · have := hpow d; omega
    · exact .inr d
  have hp2 : (F.length + 1) ^ L.length ≤ 100000 ∨ ¬ errD W s L F R = 0 := by
    by_cases d : errD W s L F R = 0
    · have := hpow d; omega
    · exact .inr d
  have fin : fchange_j1 1100 J J W s L F R W s L F R W s L F R = some true := by
    unfold fchange_j1
    rw [spare_v (by omega) hs, rspare_v (by omega) hs hp1 hp2]
    simp only [Option.bind_some]
    have hlen : (if errD W s L F R = 0 then (spareR W s L F F.length, (0 : Int)) else ([], errD W s L F R)).1.length ≤ 100 := by
      have := spareR_len (W := W) (s := s) (L := L) (F := F) F.length
      have := hs.f
      split
      · dsimp only; omega
      · simp
    rw [br_dec (by first | trivial | rfl), likei_v (by omega) (by omega)]
    simp only [Option.bind_some]
    rw [br_true, same_v (by omega) hs]
    simp only [Option.bind_some]
    rw [br_true, likei_v (by omega) (by omega)]
    simp only [Option.bind_some]
    rw [br_true]; exact aw
  obtain ⟨r, r1, r2⟩ := change_v (N := 1100) (by omega) hs (J := J) (by omega)
  obtain ⟨q, q1, q2⟩ := rchange_v (N := 1100) (by omega) hs hp1 hp2 (J := J) (by omega)
  rw [r1, q1]
  simp only [Option.bind_some]
  have hbad : ∀ e : Int, e ≠ 0 → r = ([], e) → q = (0, e) → (r.2 = q.2 ∧ ¬ r.2 = 0 ∧ ¬ 0 < (r.1.length : Int)) := fun e he h1 h2 => by
    subst h1; subst h2
    exact ⟨rfl, he, by simp⟩
  have hcase : (r.2 = q.2 ∧ ¬ r.2 = 0 ∧ ¬ 0 < (r.1.length : Int)) ∨ (r.2 = 0 ∧ q.2 = 0 ∧ errJ (errD W s L F R) L.length F.length (canF W s L F) J = 0 ∧ Better (canF W s L F) (agF W L F) F.length J r.1 ∧ apL r.1 J = q.1) := by
    rcases r2 with ⟨x1, x2⟩ | ⟨x1, x2⟩
    · rcases q2 with ⟨_, y2⟩ | ⟨y1, _⟩
      · exact .inl (hbad _ x1 x2 y2)
      · exact absurd y1 x1
    · rcases q2 with ⟨y1, _⟩ | ⟨_, y2⟩
      · exact absurd x1 y1
      have hJ : J.length = L.length := (errJ_fine x1).2.1
      rcases x2 with ⟨v1, v2⟩ | ⟨v1, v2, v3, v4⟩
      · rcases y2 with ⟨u1, u2⟩ | ⟨_, ⟨l, u1, _⟩, _⟩
        · exact .inl (hbad 6 (by decide) v2 u2)
        · have h1 := u1.more
          have h2 := best_le (W := W) (s := s) (L := L) (F := F) (l := l) (by have := u1.mem; rw [hJ] at this; exact this)
          omega
      · rcases y2 with ⟨u1, _⟩ | ⟨u0, ⟨l, u1, u2⟩, u3⟩
        · exact absurd v3 (u1 _)
        · refine .inr ⟨v2, u0, x1, v3, ?_⟩
          have h1 := v4 l u1
          have h2 := u3 _ v3
          rw [apL_comm]; omega
  rcases hcase with ⟨z1, z2, z3⟩ | ⟨z1, z2, z3, z4, z5⟩
  · rw [br_nd z1, br_nnd z2, br_ndec z3, br_ndec z2]
    rw [fates_v (by omega) hs, ragree_v (by omega) hs]
    simp only [Option.bind_some]
    by_cases d : errD W s L F R = 0
    rotate_left
    · rw [if_neg d, if_neg d, br_nd (by first | trivial | rfl), br_nnd d, br_nd (by first | trivial | rfl), br_ndec d]
      exact fin
    rw [if_pos d, if_pos d]
    by_cases d1 : 0 ≤ a ∧ a ≤ (L.length : Int) - 1
    rotate_left
    · rw [if_pos d1, if_pos d1, br_nd (by first | trivial | rfl), br_nnd (by decide), br_nd (by first | trivial | rfl), br_ndec (by decide)]
      exact fin
    rw [if_neg (not_not_intro d1), if_neg (not_not_intro d1)]
    by_cases d2 : 0 ≤ b ∧ b ≤ (F.length : Int) - 1
    rotate_left
    · rw [if_pos d2, if_pos d2, br_nd (by first | trivial | rfl), br_nnd (by decide), br_nd (by first | trivial | rfl), br_ndec (by decide)]
      exact fin
    have hF := errD_iff.1 d
    have hp := hpow d
    have hlen : (bestR W s L F).length ≤ (F.length + 1) ^ L.length := by
      rw [← listsR_len]; exact Nat.le_trans (List.length_filter_le _ _) (List.length_filter_le _ _)
    have hrf := rfates_v (N := 1100) (W := W) (s := s) (L := L) (F := F) (by omega) (by omega) (a := a.toNat) (b := b.toNat) (by omega)
    rw [Int.toNat_of_nonneg d1.1, Int.toNat_of_nonneg d2.1] at hrf
    rw [if_neg (not_not_intro d2), if_neg (not_not_intro d2), br_nd (by first | trivial | rfl), br_nd (by first | trivial | rfl), br_dec (by first | trivial | rfl), rbest_v (by omega) hF (by omega) (by omega)]
    simp only [Option.bind_some]
    rw [hrf]
    simp only [Option.bind_some]
    rw [br_nd (by first | trivial | rfl)]
    exact fin
  · obtain ⟨c1, c2, c3, _⟩ := errJ_fine z3
    have hF0 := errD_iff.1 c1
    have hl6 := hF0.l6
    have hm : J ∈ joinsL (canF W s L F) F.length L.length 0 0 := by rw [c1] at z3; exact errJ_mt.1 z3
    have hm2 : r.1 ∈ joinsL (canF W s L F) F.length L.length 0 0 := by have := z4.mem; rw [c2] at this; exact this
    obtain ⟨j1, j2⟩ := joins_facts hm2
    have hmore := z4.more
    rw [br_nd (z1.trans z2.symm), br_nd z1, br_dec z1, rjoins_v (by omega) hs (by omega), c1, errJ_mt.2 hm2]
    simp only [Option.bind_some]
    rw [br_nd (by first | trivial | rfl), rworth_j (by omega) hF0 hm2, rworth_j (by omega) hF0 hm]
    simp only [Option.bind_some]
    rw [br_ndec (by omega), apart_v (by omega) (by omega) (by omega)]
    simp only [Option.bind_some]
    rw [br_nd z5]
    rw [fates_v (by omega) hs, ragree_v (by omega) hs]
    simp only [Option.bind_some]
    by_cases d : errD W s L F R = 0
    rotate_left
    · rw [if_neg d, if_neg d, br_nd (by first | trivial | rfl), br_nnd d, br_nd (by first | trivial | rfl), br_ndec d]
      exact fin
    rw [if_pos d, if_pos d]
    by_cases d1 : 0 ≤ a ∧ a ≤ (L.length : Int) - 1
    rotate_left
    · rw [if_pos d1, if_pos d1, br_nd (by first | trivial | rfl), br_nnd (by decide), br_nd (by first | trivial | rfl), br_ndec (by decide)]
      exact fin
    rw [if_neg (not_not_intro d1), if_neg (not_not_intro d1)]
    by_cases d2 : 0 ≤ b ∧ b ≤ (F.length : Int) - 1
    rotate_left
    · rw [if_pos d2, if_pos d2, br_nd (by first | trivial | rfl), br_nnd (by decide), br_nd (by first | trivial | rfl), br_ndec (by decide)]
      exact fin
    have hF := errD_iff.1 d
    have hp := hpow d
    have hlen : (bestR W s L F).length ≤ (F.length + 1) ^ L.length := by
      rw [← listsR_len]; exact Nat.le_trans (List.length_filter_le _ _) (List.length_filter_le _ _)
    have hrf := rfates_v (N := 1100) (W := W) (s := s) (L := L) (F := F) (by omega) (by omega) (a := a.toNat) (b := b.toNat) (by omega)
    rw [Int.toNat_of_nonneg d1.1, Int.toNat_of_nonneg d2.1] at hrf
    rw [if_neg (not_not_intro d2), if_neg (not_not_intro d2), br_nd (by first | trivial | rfl), br_nd (by first | trivial | rfl), br_dec (by first | trivial | rfl), rbest_v (by omega) hF (by omega) (by omega)]
    simp only [Option.bind_some]
    rw [hrf]
    simp only [Option.bind_some]
    rw [br_nd (by first | trivial | rfl)]
    exact fin
end Go.Proofs.Ythncjilcflilcaa

/-
  Parts of a proof, put together: FD4, FD5, FD6, FD7, FD8, FAw, FL2.
  Conditions: none.
-/
import Derived.Test.YthncjilcflilcaaZd
import Derived.Test.YthncjilcflilcaaZf
import Derived.Test.YthncjilcflilcaaZg
namespace Go.Proofs.Ythncjilcflilcaa
set_option linter.all false
open Go

section
variable {N : Nat}
theorem sum_l1_p {l : List Int} {m : Int} (hl : l.length ≤ 1000) (hm : 0 ≤ m ∧ m ≤ 1000) (hr : ∀ x ∈ l, -m ≤ x ∧ x ≤ m) : ∀ (n k : Nat) (s : Int), l.length < n + k → k ≤ l.length → (-(m * k) ≤ s ∧ s ≤ m * k) → sum_l1 N n s l l.length k = some (s + (l.drop k).sum)
  | 0, k, s, h, _, _ => by omega
  | n + 1, k, s, h, hk, hs => by
    unfold sum_l1
    have hmk : m * (k : Int) ≤ 1000 * 1000 := Int.mul_le_mul hm.2 (by omega) (by omega) (by omega)
    by_cases c : k < l.length
    · have hx := hr _ (getD_mem (d := 0) c)
      have g := gets c 0
      rw [drop_cons c 0]
      generalize l.getD k 0 = x at *
      have e : m * ((k + 1 : Nat) : Int) = m * k + m := by rw [Int.natCast_add, Int.mul_add]; simp
      have ih := sum_l1_p hl hm hr n (k + 1) (s + x) (by omega) (by omega) (by omega)
      rw [nat_succ] at ih
      rw [br_dec (by omega), idx_eq (by omega) g, chk_eq (by omega), chk_eq (by omega), ih, List.sum_cons]
      congr 1; omega
    · rw [br_ndec (by omega), List.drop_of_length_le (by omega)]; simp
theorem sum_v {l : List Int} {m : Int} (hl : l.length ≤ 1000) (hN : l.length < N) (hm : 0 ≤ m ∧ m ≤ 1000) (hr : ∀ x ∈ l, -m ≤ x ∧ x ≤ m) : sum_S N l = some l.sum := by
  unfold sum_S
  have := sum_l1_p (N := N) hl hm hr N 0 0 (by omega) (by omega) (by simp)
  simp only [Int.natCast_zero, List.drop_zero, Int.zero_add] at this
  rw [this]; rfl
end
/-- What joins count, one by one. -/
def wlJ (t : Nat → Nat → Int) : Nat → List Int → List Int
  | _, [] => []
  | i, x :: l => (if x = -1 then [] else [t i x.toNat]) ++ wlJ t (i + 1) l
theorem wlJ_sum (t : Nat → Nat → Int) : ∀ (l : List Int) (i : Nat), (wlJ t i l).sum = valJ t i l
  | [], _ => rfl
  | x :: l, i => by
    rw [wlJ, valJ, List.sum_append, wlJ_sum t l (i + 1)]
    unfold pv
    split <;> simp
theorem wlJ_len (t : Nat → Nat → Int) : ∀ (l : List Int) (i : Nat), (wlJ t i l).length ≤ l.length
  | [], _ => Nat.le_refl _
  | x :: l, i => by
    have := wlJ_len t l (i + 1)
    rw [wlJ, List.length_append, List.length_cons]
    split <;> simp <;> omega
theorem wlJ_bound {t : Nat → Nat → Int} {m : Int} (h : ∀ i k, 0 ≤ t i k ∧ t i k ≤ m) : ∀ (l : List Int) (i : Nat), ∀ x ∈ wlJ t i l, 0 ≤ x ∧ x ≤ m
  | [], _, x, hx => by cases hx
  | y :: l, i, x, hx => by
    rw [wlJ, List.mem_append] at hx
    rcases hx with hx | hx
    · split at hx
      · cases hx
      · simp only [List.mem_singleton] at hx
        subst hx; exact h _ _
    · exact wlJ_bound h l (i + 1) x hx
theorem valJ_bound {t : Nat → Nat → Int} {m : Int} (h : ∀ i k, 0 ≤ t i k ∧ t i k ≤ m) (hm : 0 ≤ m) : ∀ (l : List Int) (i : Nat), 0 ≤ valJ t i l ∧ valJ t i l ≤ m * l.length
  | [], _ => by simp [valJ]
  | x :: l, i => by
    have h1 := valJ_bound h hm l (i + 1)
    have h2 := h i x.toNat
    rw [valJ, List.length_cons, Int.natCast_add, Int.mul_add]
    unfold pv
    split <;> simp <;> omega
section
variable {W : List Int} {s : Int} {L F : List (List Int)} {R : List Int} {A B : Nat → Nat → Int} {N : Nat}
theorem dworth_l1_p {l : List Int} (hl : l.length ≤ 6) (hF : F.length ≤ 6) (hm : l.all (inm F.length) = true) : ∀ (n k : Nat) (acc : List Int), l.length < n + k → k ≤ l.length → acc.length ≤ k → dworth_l1 N n (dkT W s L F R A B) l l.length k acc = some (acc ++ wlJ A k (l.drop k))
  | 0, k, _, h, _, _ => by omega
  | n + 1, k, acc, h, hk, ha => by
    unfold dworth_l1
    by_cases c : k < l.length
    · have hx := List.all_eq_true.1 hm _ (getD_mem (d := 0) c)
      unfold inm at hx
      rw [decide_eq_true_eq] at hx
      have hj : ∀ acc, acc.length ≤ k + 1 → dworth_j1 N (dworth_l1 N n) (dkT W s L F R A B) l l.length k acc = some (acc ++ wlJ A (k + 1) (l.drop (k + 1))) := fun acc ha => by
        have ih := dworth_l1_p hl hF hm n (k + 1) acc (by omega) (by omega) ha
        rw [nat_succ] at ih
        unfold dworth_j1
        rw [chk_eq (by omega), ih]
      rw [br_dec (by omega), idx_eq (by omega) (gets c 0), drop_cons c 0, wlJ]
      by_cases c1 : l.getD k 0 = -1
      · rw [br_nd c1, hj _ (by omega), if_pos c1, List.nil_append]
      · obtain ⟨q, hq⟩ : ∃ q : Nat, l.getD k 0 = q := ⟨(l.getD k 0).toNat, by omega⟩
        rw [br_nnd c1, if_neg c1]
        rw [hq] at hx ⊢
        rw [rng_eq (by omega), rng_eq (by omega)]
        simp only [Int.toNat_natCast]
        rw [get_T (by omega) (by omega), lim_eq (by simp; omega), hj _ (by simp; omega), List.append_assoc]
    · rw [br_ndec (by omega), List.drop_of_length_le (by omega)]
      simp [wlJ]
theorem dworth_v (hN : 110 ≤ N) (hA : ∀ i k, 0 ≤ A i k ∧ A i k ≤ 50) {l : List Int} (hl : l.length ≤ 6) (hF : F.length ≤ 6) (hm : l.all (inm F.length) = true) : dworth_S N (dkT W s L F R A B) l = some (valJ A 0 l) := by
  have e := dworth_l1_p (N := N) (W := W) (s := s) (L := L) (F := F) (R := R) (A := A) (B := B) hl hF hm N 0 [] (by omega) (by omega) (by simp)
  have h1 := wlJ_len A l 0
  rw [show ((0 : Nat) : Int) = 0 from rfl, List.drop_zero, List.nil_append] at e
  unfold dworth_S
  rw [e]
  simp only [Option.bind_some]
  rw [sum_v (m := 1000) (by omega) (by omega) (by omega) (fun x hx => by have := wlJ_bound hA l 0 x hx; omega), wlJ_sum]; rfl
theorem dreward_l1_p {l : List Int} (hl : l.length ≤ 6) (hR : l.length ≤ R.length) : ∀ (n k : Nat) (acc : List Int), l.length < n + k → k ≤ l.length → acc.length ≤ k → dreward_l1 N n (dkT W s L F R A B) l l.length k acc = some (acc ++ wlJ (fun i _ => R.getD i 0) k (l.drop k))
  | 0, k, _, h, _, _ => by omega
  | n + 1, k, acc, h, hk, ha => by
    unfold dreward_l1
    by_cases c : k < l.length
    · have hj : ∀ acc, acc.length ≤ k + 1 → dreward_j1 N (dreward_l1 N n) (dkT W s L F R A B) l l.length k acc = some (acc ++ wlJ (fun i _ => R.getD i 0) (k + 1) (l.drop (k + 1))) := fun acc ha => by
        have ih := dreward_l1_p hl hR n (k + 1) acc (by omega) (by omega) ha
        rw [nat_succ] at ih
        unfold dreward_j1
        rw [chk_eq (by omega), ih]
      rw [br_dec (by omega), idx_eq (by omega) (gets c 0), drop_cons c 0, wlJ]
      by_cases c1 : l.getD k 0 = -1
      · rw [br_nd c1, hj _ (by omega), if_pos c1, List.nil_append]
      · rw [br_nnd c1, if_neg c1, idx_eq (by omega) (show (dkT W s L F R A B).2.2.2.2.1[((k : Nat) : Int).toNat]? = some (R.getD k 0) from gets (l := R) (by omega) 0), lim_eq (by simp; omega), hj _ (by simp; omega), List.append_assoc]
    · rw [br_ndec (by omega), List.drop_of_length_le (by omega)]
      simp [wlJ]
theorem getD_R (hr : ∀ x ∈ R, 0 ≤ x ∧ x ≤ 99) (t : Nat) : 0 ≤ R.getD t 0 ∧ R.getD t 0 ≤ 99 := by
  by_cases h : t < R.length
  · exact hr _ (getD_mem (d := 0) h)
  · have : R.getD t 0 = 0 := by simp [List.getD, List.getElem?_eq_none (show R.length ≤ t by omega)]
    omega
theorem dreward_v (hN : 110 ≤ N) (hr : ∀ x ∈ R, 0 ≤ x ∧ x ≤ 99) {l : List Int} (hl : l.length ≤ 6) (hR : l.length ≤ R.length) : dreward_S N (dkT W s L F R A B) l = some (valJ (fun i _ => R.getD i 0) 0 l) := by
  have e := dreward_l1_p (N := N) (W := W) (s := s) (L := L) (F := F) (R := R) (A := A) (B := B) hl hR N 0 [] (by omega) (by omega) (by simp)
  have h1 := wlJ_len (fun i _ => R.getD i 0) l 0
  rw [show ((0 : Nat) : Int) = 0 from rfl, List.drop_zero, List.nil_append] at e
  unfold dreward_S
  rw [e]
  simp only [Option.bind_some]
  rw [sum_v (m := 1000) (by omega) (by omega) (by omega) (fun x hx => by have := wlJ_bound (t := fun i _ => R.getD i 0) (fun i _ => getD_R hr i) l 0 x hx; omega), wlJ_sum]; rfl
theorem rworth_l1_p (hN : 110 ≤ N) (h : Fine W s L F R) {l : List Int} (hl : l.length ≤ L.length) (hm : l.all (inm F.length) = true) : ∀ (n k : Nat) (x : Int), l.length < n + k → k ≤ l.length → 0 ≤ x ∧ x ≤ 50 * k → rworth_l1 N n l x k W s L F R = some (x + valJ (agF W L F) k (l.drop k))
  | 0, k, _, h, _, _ => by omega
  | n + 1, k, x, hn, hk, hx0 => by
    unfold rworth_l1
    have hl6 := h.l6
    by_cases c : k < l.length
    · have hx := List.all_eq_true.1 hm _ (getD_mem (d := 0) c)
      unfold inm at hx
      rw [decide_eq_true_eq] at hx
      have hj : ∀ x, 0 ≤ x ∧ x ≤ 50 * ((k : Int) + 1) → rworth_j1 N (rworth_l1 N n) l x k W s L F R = some (x + valJ (agF W L F) (k + 1) (l.drop (k + 1))) := fun x hx0 => by
        have ih := rworth_l1_p hN h hl hm n (k + 1) x (by omega) (by omega) (by omega)
        rw [nat_succ] at ih
        unfold rworth_j1
        rw [chk_eq (by omega), ih]
      rw [br_dec (by omega), idx_eq (by omega) (gets c 0), drop_cons c 0, valJ]
      by_cases c1 : l.getD k 0 = -1
      · rw [br_ndec (by omega), hj _ (by omega), c1, pv_none, Int.zero_add]
      · obtain ⟨q, hq⟩ : ∃ q : Nat, l.getD k 0 = q := ⟨(l.getD k 0).toNat, by omega⟩
        rw [br_dec (by omega), idx_eq (by omega) (gets c 0)]
        rw [hq] at hx ⊢
        have hb := agF_bound h k q
        rw [rpair_v hN h (by omega) (by omega), pv_some]
        simp only [Option.bind_some]
        rw [chk_eq (by omega), hj _ (by omega)]
        congr 1; omega
    · rw [br_ndec (by omega), List.drop_of_length_le (by omega)]
      simp [valJ]
theorem rworth_v (hN : 110 ≤ N) (h : Fine W s L F R) {l : List Int} (hl : l.length ≤ L.length) (hm : l.all (inm F.length) = true) : rworth_S N W s L F R l = some (valJ (agF W L F) 0 l) := by
  have e := rworth_l1_p hN h hl hm N 0 0 (by have := h.l6; omega) (by omega) (by omega)
  rw [show ((0 : Nat) : Int) = 0 from rfl, List.drop_zero, Int.zero_add] at e
  unfold rworth_S
  rw [e]; rfl
theorem rreward_l1_p (h : Fine W s L F R) {l : List Int} (hl : l.length ≤ L.length) (hm : l.all (inm F.length) = true) : ∀ (n k : Nat) (x : Int), l.length < n + k → k ≤ l.length → 0 ≤ x ∧ x ≤ 99 * k → rreward_l1 N n l x k W s L F R = some (x + valJ (fun i _ => R.getD i 0) k (l.drop k))
  | 0, k, _, h, _, _ => by omega
  | n + 1, k, x, hn, hk, hx0 => by
    unfold rreward_l1
    have hl6 := h.l6; have hrl := h.rl
    by_cases c : k < l.length
    · have hx := List.all_eq_true.1 hm _ (getD_mem (d := 0) c)
      unfold inm at hx
      rw [decide_eq_true_eq] at hx
      have hj : ∀ x, 0 ≤ x ∧ x ≤ 99 * ((k : Int) + 1) → rreward_j1 N (rreward_l1 N n) l x k W s L F R = some (x + valJ (fun i _ => R.getD i 0) (k + 1) (l.drop (k + 1))) := fun x hx0 => by
        have ih := rreward_l1_p h hl hm n (k + 1) x (by omega) (by omega) (by omega)
        rw [nat_succ] at ih
        unfold rreward_j1
        rw [chk_eq (by omega), ih]
      rw [br_dec (by omega), idx_eq (by omega) (gets c 0), drop_cons c 0, valJ]
      by_cases c1 : l.getD k 0 = -1
      · rw [br_ndec (by omega), hj _ (by omega), c1, pv_none, Int.zero_add]
      · have hb := getD_R h.r k
        have e : pv (fun i _ => R.getD i 0) k (l.getD k 0) = R.getD k 0 := if_neg c1
        rw [br_dec (by omega), idx_eq (by omega) (gets (by omega) 0), chk_eq (by omega), hj _ (by omega), e]
        congr 1; omega
    · rw [br_ndec (by omega), List.drop_of_length_le (by omega)]
      simp [valJ]
theorem rreward_v (hN : 110 ≤ N) (h : Fine W s L F R) {l : List Int} (hl : l.length ≤ L.length) (hm : l.all (inm F.length) = true) : rreward_S N W s L F R l = some (valJ (fun i _ => R.getD i 0) 0 l) := by
  have e := rreward_l1_p (N := N) h hl hm N 0 0 (by have := h.l6; omega) (by omega) (by omega)
  rw [show ((0 : Nat) : Int) = 0 from rfl, List.drop_zero, Int.zero_add] at e
  unfold rreward_S
  rw [e]; rfl
/-- What joins without an error are. -/
theorem errJ_fine {e : Int} {n m : Nat} {can : Nat → Nat → Bool} {l : List Int} (h : errJ e n m can l = 0) : e = 0 ∧ l.length = n ∧ l.all (inm m) = true ∧ alI (dupI l) l.length = true ∧ alI (cnI can l) l.length = true := by
  unfold errJ at h
  split at h
  · rename_i c; exact absurd h c
  rename_i c
  split at h
  · cases h
  rename_i c1
  split at h
  · cases h
  rename_i c2
  split at h
  · cases h
  rename_i c3
  split at h
  · cases h
  rename_i c4
  exact ⟨by omega, by omega, by simpa using c2, by simpa using c3, by simpa using c4⟩
/-! ### What may be joined -/
def mayE (can : Nat → Nat → Bool) (m i : Nat) : List (Int × Unit) := (mayL can m i).map fun (j : Nat) => ((j : Int), ())
theorem mayR_T (hF : F.length ≤ 6) {i : Nat} (hi : i < 6) : mayR (dkT W s L F R A B) (dkT W s L F R A B) i = some (mayE (canT A B s) F.length i) := by
  unfold mayR mayE mayL mayF
  rw [if_pos ⟨⟨by omega, by omega⟩, hF, tabA_len _, tabA_len _⟩]
  congr 2
  simp only [Int.toNat_natCast, Nat.sub_zero]
  rw [← List.range_eq_range']
  refine List.filter_congr fun k hk => ?_
  have hk : k < F.length := by simpa [dkT] using hk
  unfold canD canT
  rw [agD_T hi (by omega), slD_T hi (by omega)]; rfl
end
end Go.Proofs.Ythncjilcflilcaa

namespace Go.Proofs.Ythncjilcflilcaa
set_option linter.all false
open Go

section
variable {W : List Int} {s : Int} {L F : List (List Int)} {R : List Int} {A B : Nat → Nat → Int} {N : Nat}
/-- Prices hold for a lost thing. -/
def okS (can : Nat → Nat → Bool) (A : Nat → Nat → Int) (m : Nat) (p q : List Int) (i : Nat) : Bool := (mayL can m i).all fun k => decide (A i k ≤ p.getD i 0 + q.getD k 0)
/-- What prices show. -/
def shR (e : Int) (n m : Nat) (can : Nat → Nat → Bool) (A : Nat → Nat → Int) (p q : List Int) : Int × Int :=
  if ¬ e = 0 then (0, e) else if ¬ (p.length : Int) = (n : Int) then (0, 2) else if ¬ (q.length : Int) = (m : Int) then (0, 2) else if p.all okp = false then (0, 3) else if q.all okp = false then (0, 3) else
  if alI (okS can A m p q) p.length = false then (0, 8) else (p.sum + q.sum, 0)
theorem okp_iff {l : List Int} (h : l.all okp = true) : ∀ x ∈ l, 0 ≤ x ∧ x ≤ 999 := by simpa [okp] using h
theorem rshows_l1_p {p q l : List Int} (hl : l.length ≤ 1000) : ∀ (n k : Nat) (x : Int), l.length < n + k → k ≤ l.length → 0 ≤ x ∧ x ≤ 999 * k → rshows_l1 N n p q x k W s L F R l = some (if (l.drop k).all okp then .inr (p, q, x + (l.drop k).sum, W, s, L, F, R) else .inl ())
  | 0, k, x, h, _, _ => by omega
  | n + 1, k, x, h, hk, hx => by
    unfold rshows_l1
    by_cases c : k < l.length
    · rw [br_dec (by omega), rng_eq (by omega)]
      simp only [Int.toNat_natCast]
      rw [get_get 0 c, off_v, drop_cons c 0, List.all_cons, List.sum_cons]
      simp only [Option.bind_some]
      have eo : okp (l.getD k 0) = decide (0 ≤ l.getD k 0 ∧ l.getD k 0 ≤ 999) := rfl
      by_cases c1 : 0 ≤ l.getD k 0 ∧ l.getD k 0 ≤ 999
      · have ih := rshows_l1_p (p := p) (q := q) hl n (k + 1) (x + l.getD k 0) (by omega) (by omega) (by omega)
        rw [nat_succ] at ih
        rw [br_nd c1, rng_eq (by omega)]
        rw [get_get 0 c, chk_eq (by omega), chk_eq (by omega), ih, eo, decide_eq_true c1, Bool.true_and, Int.add_assoc]
      · rw [br_nnd c1, eo, decide_eq_false c1, Bool.false_and]; rfl
    · rw [br_ndec (by omega), List.drop_of_length_le (by omega)]
      simp
def okQ (can : Nat → Nat → Bool) (A : Nat → Nat → Int) (p q : List Int) (i k : Nat) : Bool := !can i k || decide (A i k ≤ p.getD i 0 + q.getD k 0)
theorem okQ_S (can : Nat → Nat → Bool) (A : Nat → Nat → Int) (m : Nat) (p q : List Int) (i : Nat) : alI (okQ can A p q i) m = okS can A m p q i := by
  rw [Bool.eq_iff_iff, alI_iff]
  unfold okS okQ
  rw [List.all_eq_true]
  simp only [mem_mayL, Bool.or_eq_true, Bool.not_eq_true', decide_eq_true_eq]
  constructor
  · rintro h k ⟨hk, hc⟩
    rcases h k hk with h | h
    · rw [hc] at h; cases h
    · exact h
  · intro h k hk
    cases hc : can i k
    · exact .inl rfl
    · exact .inr (h k ⟨hk, hc⟩)
theorem rshows_l3_p (hN : 110 ≤ N) (h : Fine W s L F R) {p q : List Int} (hp : p.length = L.length) (hq : q.length = F.length) (hpo : ∀ x ∈ p, 0 ≤ x ∧ x ≤ 999) (hqo : ∀ x ∈ q, 0 ≤ x ∧ x ≤ 999) {x : Int} {i : Nat} (hi : i < L.length) :
    ∀ n k : Nat, q.length < n + k → k ≤ q.length → rshows_l3 N n p q x i k W s L F R = allI (okQ (canF W s L F) (agF W L F) p q i) q.length k (p, q, x, (i : Int), W, s, L, F, R)
  | 0, k, hn, _ => by omega
  | n + 1, k, hn, hk => by
    unfold rshows_l3
    have hl6 := h.l6; have hf6 := h.f6
    by_cases c : k < q.length
    · have ih := rshows_l3_p hN h hp hq hpo hqo (x := x) hi n (k + 1) (by omega) (by omega)
      rw [nat_succ] at ih
      have ec : okQ (canF W s L F) (agF W L F) p q i k = (!canF W s L F i k || decide (agF W L F i k ≤ p.getD i 0 + q.getD k 0)) := rfl
      have b1 := hpo _ (getD_mem (d := 0) (show i < p.length by omega))
      have b2 := hqo _ (getD_mem (d := 0) c)
      rw [br_dec (by omega), rpair_v hN h hi (by omega)]
      simp only [Option.bind_some]
      cases hb : canF W s L F i k
      · rw [br_false, chk_eq (by omega), ih, allI_yes c (by rw [ec, hb]; rfl)]
      · rw [br_true, idx_eq (by omega) (gets (by omega) 0), idx_eq (by omega) (gets c 0), chk_eq (by omega)]
        by_cases d : p.getD i 0 + q.getD k 0 < agF W L F i k
        · rw [br_dec d, allI_no c (by rw [ec, hb, decide_eq_false (by omega)]; rfl)]
        · rw [br_ndec d, chk_eq (by omega), ih, allI_yes c (by rw [ec, decide_eq_true (by omega)]; simp)]
    · rw [br_ndec (by omega), allI_end (by omega)]
theorem rshows_l2_p (hN : 110 ≤ N) (h : Fine W s L F R) {p q : List Int} (hp : p.length = L.length) (hq : q.length = F.length) (hpo : ∀ x ∈ p, 0 ≤ x ∧ x ≤ 999) (hqo : ∀ x ∈ q, 0 ≤ x ∧ x ≤ 999) {x : Int} :
    ∀ n k : Nat, p.length < n + k → k ≤ p.length → rshows_l2 N n p q x k W s L F R = allI (okS (canF W s L F) (agF W L F) F.length p q) p.length k x
  | 0, k, hn, _ => by omega
  | n + 1, k, hn, hk => by
    unfold rshows_l2
    have hl6 := h.l6; have hf6 := h.f6
    by_cases c : k < p.length
    · have ih := rshows_l2_p hN h hp hq hpo hqo (x := x) n (k + 1) (by omega) (by omega)
      rw [nat_succ] at ih
      have e := rshows_l3_p hN h hp hq hpo hqo (x := x) (i := k) (by omega) N 0 (by omega) (by omega)
      rw [show ((0 : Nat) : Int) = 0 from rfl, allI_0, hq, okQ_S] at e
      rw [br_dec (by omega), e]
      cases hb : okS (canF W s L F) (agF W L F) F.length p q k
      · rw [allI_no c hb]; rfl
      · rw [allI_yes c hb, if_pos rfl, ← ih]
        simp only [Option.bind_some]
        rw [chk_eq (by omega)]
    · rw [br_ndec (by omega), allI_end (by omega)]
theorem rshows_v (hN : 220 ≤ N) (h : Sm W L F R) {p q : List Int} (hp : p.length ≤ 100) (hq : q.length ≤ 100) : rshows_S N W s L F R p q = some (shR (errD W s L F R) L.length F.length (canF W s L F) (agF W L F) p q) := by
  unfold rshows_S shR
  rw [rcheck_v (by omega) h]
  simp only [Option.bind_some]
  by_cases c : errD W s L F R = 0
  rotate_left
  · rw [br_nnd c, if_pos c]
  have hF := errD_iff.1 c
  have hl6 := hF.l6; have hf6 := hF.f6
  rw [br_nd c, if_neg (not_not_intro c)]
  by_cases c1 : (p.length : Int) = (L.length : Int)
  rotate_left
  · rw [br_nnd c1, if_pos c1]
  rw [br_nd c1, if_neg (not_not_intro c1)]
  by_cases c2 : (q.length : Int) = (F.length : Int)
  rotate_left
  · rw [br_nnd c2, if_pos c2]
  rw [br_nd c2, if_neg (not_not_intro c2), lim_eq (by simp; omega), lim_eq (by simp; omega), List.nil_append]
  have e := rshows_l1_p (N := N) (W := W) (s := s) (L := L) (F := F) (R := R) (p := p) (q := q) (l := p ++ q) (by simp; omega) N 0 0 (by simp; omega) (by omega) (by omega)
  rw [show ((0 : Nat) : Int) = 0 from rfl, List.drop_zero, List.all_append, Int.zero_add, List.sum_append] at e
  rw [e]
  by_cases c3 : p.all okp = true
  rotate_left
  · rw [if_neg (by rw [Bool.eq_false_iff.2 c3]; simp), if_pos (Bool.eq_false_iff.2 c3)]; rfl
  by_cases c4 : q.all okp = true
  rotate_left
  · rw [if_neg (by rw [Bool.eq_false_iff.2 c4]; simp), if_neg (by rw [c3]; simp), if_pos (Bool.eq_false_iff.2 c4)]; rfl
  rw [if_pos (by rw [c3, c4]; rfl), if_neg (by rw [c3]; simp), if_neg (by rw [c4]; simp)]
  simp only [Option.bind_some]
  have e2 := rshows_l2_p (N := N) (by omega) hF (p := p) (q := q) (by omega) (by omega) (okp_iff c3) (okp_iff c4) (x := p.sum + q.sum) N 0 (by omega) (by omega)
  rw [show ((0 : Nat) : Int) = 0 from rfl, allI_0] at e2
  rw [e2]
  by_cases c5 : alI (okS (canF W s L F) (agF W L F) F.length p q) p.length = true
  rotate_left
  · rw [if_neg c5, if_pos (Bool.eq_false_iff.2 c5)]; rfl
  rw [if_pos c5, if_neg (by rw [c5]; simp)]; rfl
/-! ### Copies -/
theorem copyr_l1_p {l : List (List Int)} (hl : l.length ≤ 1000000) (hr : ∀ x ∈ l, x.length ≤ 1000000) : ∀ n k : Nat, l.length < n + k → k ≤ l.length → copyr_l1 N n l l.length k (l.take k ++ List.replicate (l.length - k) []) = some l
  | 0, k, h, _ => by omega
  | n + 1, k, h, hk => by
    unfold copyr_l1
    by_cases c : k < l.length
    · have ih := copyr_l1_p hl hr n (k + 1) (by omega) (by omega)
      rw [nat_succ, take_succ' c []] at ih
      rw [br_dec (by omega), idx_eq (by omega) (gets c []), copyi_v (hr _ (getD_mem c))]
      simp only [Option.bind_some, Int.toNat_natCast]
      have hlen : (l.take k ++ List.replicate (l.length - k) ([] : List Int)).length = l.length := by simp; omega
      rw [rng_eq (by rw [hlen]; omega), get_get [] (by rw [hlen]; exact c), chk_eq (by omega), ← ih]
      congr 1
      rw [List.set_append_right _ _ (by simp; omega), show k - (l.take k).length = 0 by simp; omega, show l.length - k = (l.length - (k + 1)) + 1 by omega, List.replicate_succ]
      simp
    · rw [br_ndec (by omega), List.take_of_length_le (by omega), show l.length - k = 0 by omega]; simp
theorem copyr_v {l : List (List Int)} (hl : l.length ≤ 1000000) (hN : l.length < N) (hr : ∀ x ∈ l, x.length ≤ 1000000) : copyr_S N l = some l := by
  unfold copyr_S
  have e := copyr_l1_p (N := N) hl hr N 0 (by omega) (by omega)
  simp only [List.take_zero, List.nil_append, Nat.sub_zero, Int.natCast_zero] at e
  rw [grd_eq (lmI_iff.2 (by omega)), Int.toNat_natCast, e]; rfl
theorem copyd_v (hN : 110 ≤ N) (h : Sm W L F R) : copyd_S N W s L F R = some (W, s, L, F, R) := by
  obtain ⟨hw, hl, hf, hr, hlr, hfr⟩ := h
  unfold copyd_S
  rw [copyi_v (by omega), copyr_v (by omega) (by omega) (fun x hx => by have := hlr x hx; omega), copyr_v (by omega) (by omega) (fun x hx => by have := hfr x hx; omega), copyi_v (by omega)]; rfl
theorem equali_v {l : List Int} (h : l.length ≤ 1000) (hN : l.length < N) : equali_S N l l = some true := by
  have := likei_v h hN
  unfold likei_S at this
  cases e : equali_S N l l with
  | none => rw [e] at this; cases this
  | some b => rw [e] at this; exact this
theorem liker_v {l : List (List Int)} (hl : l.length ≤ 1000) (hN : l.length < N) (hr : ∀ x ∈ l, x.length ≤ 1000 ∧ x.length < N) : liker_S N l l = some true := by
  have e : ∀ (n k : Nat), l.length < n + k → k ≤ l.length → equalf_l1 N n l l l.length k = some (.inr ()) := by
    intro n
    induction n with
    | zero => intro k h _; omega
    | succ n ih =>
      intro k h2 hk
      unfold equalf_l1
      by_cases c : k < l.length
      · have := ih (k + 1) (by omega) (by omega)
        rw [nat_succ] at this
        have hx := hr _ (getD_mem (d := []) c)
        rw [br_dec (by omega), idx_eq (by omega) (gets c []), idx_eq (by omega) (gets c []), equali_v hx.1 hx.2]
        simp only [Option.bind_some]
        rw [Bool.not_true, br_false, chk_eq (by omega), this]
      · rw [br_ndec (by omega)]
  have e0 := e N 0 (by omega) (by omega)
  simp only [Int.natCast_zero] at e0
  unfold liker_S equalf_S
  rw [br_nd rfl, e0]; rfl
theorem same_v (hN : 110 ≤ N) (h : Sm W L F R) : same_S N W s L F R W s L F R = some true := by
  obtain ⟨hw, hl, hf, hr, hlr, hfr⟩ := h
  unfold same_S
  rw [likei_v (by omega) (by omega), likei_v (by omega) (by omega), liker_v (by omega) (by omega) (fun x hx => ⟨by have := hlr x hx; omega, by have := hlr x hx; omega⟩), liker_v (by omega) (by omega) (fun x hx => ⟨by have := hfr x hx; omega, by have := hfr x hx; omega⟩)]
  simp [br]
theorem great_l2_p {u u2 : Int} {g : List (List (List Int))} {l : List (List Int)} (hl : l.length ≤ 1000000) : ∀ n k : Nat, l.length < n + k → k ≤ l.length → great_l2 N n u u2 l l.length k g = alls (fun r => decide ((r.length : Int) ≤ 12)) l k (u, u2, g)
  | 0, k, h, _ => by omega
  | n + 1, k, h, hk => by
    unfold great_l2
    by_cases c : k < l.length
    · have ih := great_l2_p (u := u) (u2 := u2) (g := g) hl n (k + 1) (by omega) (by omega)
      rw [nat_succ] at ih
      rw [br_dec (by omega), idx_eq (by omega) (gets c [])]
      by_cases d : 12 < ((l.getD k []).length : Int)
      · rw [br_dec d, alls_no [] c (by rw [decide_eq_false (by omega)])]
      · rw [br_ndec d, chk_eq (by omega), ih, alls_yes [] c (by rw [decide_eq_true (by omega)])]
    · rw [br_ndec (by omega), alls_end (by omega)]
theorem great_v (hN : 110 ≤ N) : great_S N W s L F R = some true ∨ great_S N W s L F R = some false ∧ Sm W L F R := by
  unfold great_S
  by_cases c1 : 10 < (W.length : Int)
  · rw [br_dec c1]; exact .inl rfl
  rw [br_ndec c1]
  by_cases c2 : 10 < (L.length : Int)
  · rw [br_dec c2]; exact .inl rfl
  rw [br_ndec c2]
  by_cases c3 : 10 < (F.length : Int)
  · rw [br_dec c3]; exact .inl rfl
  rw [br_ndec c3]
  by_cases c4 : 12 < (R.length : Int)
  · rw [br_dec c4]; exact .inl rfl
  rw [br_ndec c4]
  obtain ⟨n, rfl⟩ : ∃ n, N = n + 3 := ⟨N - 3, by omega⟩
  have e1 := great_l2_p (N := n + 3) (u := 2) (u2 := 0) (g := [L, F]) (l := L) (by omega) (n + 3) 0 (by omega) (by omega)
  have e2 := great_l2_p (N := n + 3) (u := 2) (u2 := 1) (g := [L, F]) (l := F) (by omega) (n + 3) 0 (by omega) (by omega)
  unfold alls at e1 e2
  simp only [List.drop_zero, Int.natCast_zero] at e1 e2
  have hl : (([L, F] : List (List (List Int))).length : Int) = 2 := rfl
  rw [hl]
  rw [great_l1, br_dec (by omega), rng_eq (by simp)]
  rw [show get [L, F] (0 : Int).toNat = fun f => f L from rfl]
  dsimp only
  rw [e1]
  by_cases d1 : L.all (fun r => decide ((r.length : Int) ≤ 12)) = true
  rotate_left
  · rw [if_neg d1]; exact .inl rfl
  rw [if_pos d1]
  simp only [Option.bind_some]
  rw [chk_eq (by omega), great_l1, br_dec (by omega), rng_eq (by simp)]
  rw [show get [L, F] ((0 : Int) + 1).toNat = fun f => f F from rfl]
  dsimp only
  rw [show ((0 : Int) + 1) = 1 from rfl, e2]
  by_cases d2 : F.all (fun r => decide ((r.length : Int) ≤ 12)) = true
  rotate_left
  · rw [if_neg d2]; exact .inl rfl
  rw [if_pos d2]
  simp only [Option.bind_some]
  rw [chk_eq (by omega), great_l1, br_ndec (by omega)]
  simp only [List.all_eq_true, decide_eq_true_eq] at d1 d2
  exact .inr ⟨rfl, by omega, by omega, by omega, by omega, fun x hx => by have := d1 x hx; omega, fun x hx => by have := d2 x hx; omega⟩
end
end Go.Proofs.Ythncjilcflilcaa

namespace Go.Proofs.Ythncjilcflilcaa
set_option linter.all false
open Go

abbrev MK := List ((Int × Int) × (Int × (Int × Int)))
def lkM (g : MK) (i u : Int) : Option (Int × (Int × Int)) := (g.find? fun (y : (Int × Int) × (Int × (Int × Int))) => Ty.beq (.pair (.int .i64) (.int .i64)) y.1 (i, u)).map (·.2)
theorem lkM_cons (a b : Int) (v : Int × (Int × Int)) (g : MK) (i u : Int) : lkM (((a, b), v) :: g) i u = if a = i ∧ b = u then some v else lkM g i u := by
  have e : Ty.beq (.pair (.int .i64) (.int .i64)) (a, b) (i, u) = decide (a = i ∧ b = u) := by
    show (decide (a = i) && decide (b = u)) = _
    by_cases h1 : a = i <;> by_cases h2 : b = u <;> simp [h1, h2]
  unfold lkM
  rw [List.find?_cons]
  by_cases h : a = i ∧ b = u
  · rw [if_pos h, show (Ty.beq (.pair (.int .i64) (.int .i64)) (((a, b), v) : (Int × Int) × (Int × (Int × Int))).1 (i, u)) = true by rw [e, decide_eq_true h]]; rfl
  · rw [if_neg h, show (Ty.beq (.pair (.int .i64) (.int .i64)) (((a, b), v) : (Int × Int) × (Int × (Int × Int))).1 (i, u)) = false by rw [e, decide_eq_false h]]
theorem lkM_some (g : MK) (i u : Int) : (g.find? fun (y : (Int × Int) × (Int × (Int × Int))) => Ty.beq (.pair (.int .i64) (.int .i64)) y.1 (i, u)).isSome = (lkM g i u).isSome := by
  unfold lkM; rw [Option.isSome_map]
def hasM (g : MK) (i u : Nat) : Prop := (lkM g i u).isSome = true
def subM (g g' : MK) : Prop := ∀ i u : Nat, hasM g i u → hasM g' i u
theorem subM.refl (g : MK) : subM g g := fun _ _ h => h
theorem subM.trans {a b c : MK} (h : subM a b) (k : subM b c) : subM a c := fun i u x => k i u (h i u x)
/-- What is remembered is right, and so is what follows from it. -/
structure MOK (can : Nat → Nat → Bool) (t : Nat → Nat → Int) (m n : Nat) (g : MK) : Prop where
  val : ∀ (i u : Nat) v, lkM g i u = some v → v = rsR can t m (n - i) i u
  clo : ∀ i u : Nat, hasM g i u → i + 1 < n → hasM g (i + 1) u ∧ ∀ k ∈ mayL can m i, u.testBit k = false → hasM g (i + 1) (u ||| 2 ^ k)
theorem MOK.nil {can : Nat → Nat → Bool} {t : Nat → Nat → Int} {m n : Nat} : MOK can t m n [] := ⟨fun i u v h => by simp [lkM] at h, fun i u h => by simp [hasM, lkM] at h⟩
theorem MOK.cons {can : Nat → Nat → Bool} {t : Nat → Nat → Int} {m n : Nat} {g : MK} (h : MOK can t m n g) {i u : Nat} (h1 : i + 1 < n → hasM g (i + 1) u ∧ ∀ k ∈ mayL can m i, u.testBit k = false → hasM g (i + 1) (u ||| 2 ^ k)) :
    MOK can t m n ((((i : Int), (u : Int)), rsR can t m (n - i) i u) :: g) ∧ subM g ((((i : Int), (u : Int)), rsR can t m (n - i) i u) :: g) ∧ hasM ((((i : Int), (u : Int)), rsR can t m (n - i) i u) :: g) i u := by
  have hsub : subM g ((((i : Int), (u : Int)), rsR can t m (n - i) i u) :: g) := fun i' u' hh => by
    unfold hasM at *
    rw [lkM_cons]
    split
    · rfl
    · exact hh
  refine ⟨⟨fun i' u' v hv => ?_, fun i' u' hh hi => ?_⟩, hsub, ?_⟩
  · rw [lkM_cons] at hv
    split at hv
    · rename_i e
      obtain rfl : i = i' := by omega
      obtain rfl : u = u' := by omega
      simp only [Option.some.injEq] at hv
      exact hv.symm
    · exact h.val i' u' v hv
  · unfold hasM at hh
    rw [lkM_cons] at hh
    split at hh
    · rename_i e
      obtain rfl : i = i' := by omega
      obtain rfl : u = u' := by omega
      exact ⟨hsub _ _ (h1 hi).1, fun k hk hb => hsub _ _ ((h1 hi).2 k hk hb)⟩
    · obtain ⟨x, y⟩ := h.clo i' u' hh hi
      exact ⟨hsub _ _ x, fun k hk hb => hsub _ _ (y k hk hb)⟩
  · unfold hasM
    rw [lkM_cons, if_pos ⟨rfl, rfl⟩]; rfl
theorem MOK.get {can : Nat → Nat → Bool} {t : Nat → Nat → Int} {m n : Nat} {g : MK} (h : MOK can t m n g) {i u : Nat} (hh : hasM g i u) : lkM g i u = some (rsR can t m (n - i) i u) := by
  unfold hasM at hh
  cases e : lkM g i u with
  | none => rw [e] at hh; cases hh
  | some v => rw [h.val i u v e]
/-! ### Bounds -/
theorem flatMap_len {α β : Type} {f : α → List β} {B : Nat} : ∀ {l : List α}, (∀ x ∈ l, (f x).length ≤ B) → (l.flatMap f).length ≤ l.length * B
  | [], _ => by simp
  | x :: l, h => by
    have h1 := h x (by simp)
    have h2 := flatMap_len (l := l) (fun y hy => h y (by simp [hy]))
    rw [List.flatMap_cons, List.length_append, List.length_cons, Nat.add_mul]; omega
theorem mayL_len (can : Nat → Nat → Bool) (m i : Nat) : (mayL can m i).length ≤ m := by
  have := List.length_filter_le (can i) (List.range m)
  simpa [mayL] using this
theorem joinsL_len {can : Nat → Nat → Bool} {m : Nat} (hm : m ≤ 6) : ∀ d i u : Nat, (joinsL can m d i u).length ≤ 7 ^ d
  | 0, _, _ => by simp [joinsL]
  | d + 1, i, u => by
    have h1 := joinsL_len (can := can) hm d (i + 1) u
    have h2 : ((mayL can m i).flatMap fun k => if u.testBit k then [] else (joinsL can m d (i + 1) (u ||| 2 ^ k)).map ((k : Int) :: ·)).length ≤ (mayL can m i).length * 7 ^ d := flatMap_len fun k _ => by
      split
      · simp
      · rw [List.length_map]; exact joinsL_len hm d (i + 1) _
    have h3 := mayL_len can m i
    have h4 : (mayL can m i).length * 7 ^ d ≤ 6 * 7 ^ d := Nat.mul_le_mul_right _ (by omega)
    rw [joinsL, List.length_append, List.length_map, Nat.pow_succ]
    omega
theorem rs_bound {can : Nat → Nat → Bool} {t : Nat → Nat → Int} {m : Nat} (hm : m ≤ 6) {T : Int} (ht : ∀ i k, 0 ≤ t i k ∧ t i k ≤ T) (hT : 0 ≤ T) (d i u : Nat) :
    (0 ≤ (rsR can t m d i u).2.1 ∧ (rsR can t m d i u).2.1 ≤ T * d) ∧ 0 ≤ (rsR can t m d i u).2.2 ∧ (rsR can t m d i u).2.2 ≤ ((7 ^ d : Nat) : Int) := by
  obtain ⟨q1, q2, q3⟩ := bl_best (can := can) (t := t) (m := m) d i u
  have hb := rs_bst (can := can) (t := t) (m := m) d i u
  have h1 := valJ_bound ht hT (blR can t m d i u) i
  rw [q2, q3] at h1
  have h2 := List.countP_le_length (p := fun l => decide (valJ t i l = (rsR can t m d i u).2.1)) (l := joinsL can m d i u)
  have h3 := joinsL_len (can := can) hm d i u
  have h4 := hb.ways
  exact ⟨h1, by omega, by omega⟩
theorem bit_of {u k : Nat} : ((((Int.fdiv (u : Int) (2 ^ ((k : Nat) : Int).toNat)).toNat &&& 1 : Nat) : Int) = 1) ↔ u.testBit k = true := by
  have e : (Int.fdiv (u : Int) (2 ^ ((k : Nat) : Int).toNat)).toNat = u / 2 ^ k := by
    rw [Int.toNat_natCast, Int.fdiv_eq_ediv_of_nonneg _ (by exact Int.le_of_lt (Int.pow_pos (by omega)))]
    rw [show ((2 : Int) ^ k) = ((2 ^ k : Nat) : Int) by simp, ← Int.natCast_ediv, Int.toNat_natCast]
  rw [e, Nat.and_one_is_mod, Nat.testBit_eq_decide_div_mod_eq, decide_eq_true_eq]
  omega
theorem fdiv_nn {u k : Nat} : 0 ≤ Int.fdiv (u : Int) (2 ^ ((k : Nat) : Int).toNat) := Int.fdiv_nonneg (by omega) (Int.le_of_lt (Int.pow_pos (by omega)))
theorem pow_small {k : Nat} (hk : k < 6) : ∃ q : Nat, 2 ^ k = q ∧ ((1 : Int) * 2 ^ ((k : Nat) : Int).toNat) = (q : Int) ∧ q < 64 := by
  refine ⟨_, rfl, by simp, ?_⟩
  have : 2 ^ k < 2 ^ 6 := Nat.pow_lt_pow_right (by omega) hk
  simpa using this
theorem or_small {u k : Nat} (hu : u < 64) (hk : k < 6) : u ||| 2 ^ k < 64 := Nat.or_lt_two_pow (n := 6) hu (by obtain ⟨q, h1, _, h2⟩ := pow_small hk; omega)
section
variable {W : List Int} {s : Int} {L F : List (List Int)} {R : List Int} {A B : Nat → Nat → Int} {N : Nat}
/-- The taste for rewards. -/
def richT (A : Nat → Nat → Int) (R : List Int) (i k : Nat) : Int := 595 * A i k + R.getD i 0
theorem tastep_v {i k : Nat} (hi : i < 6) (hk : k < 6) : tastep_S N i k (dkT W s L F R A B) = some (A i k) := by
  unfold tastep_S
  rw [rng_eq (by omega), rng_eq (by omega)]
  simp only [Int.toNat_natCast]
  rw [get_T hi hk]
theorem taster_v (hA : ∀ i k, 0 ≤ A i k ∧ A i k ≤ 50) (hr : ∀ x ∈ R, 0 ≤ x ∧ x ≤ 99) {i k : Nat} (hi : i < 6) (hk : k < 6) (hR : i < R.length) : taster_S N i k (dkT W s L F R A B) = some (richT A R i k) := by
  have h1 := hA i k
  have h2 := getD_R hr i
  unfold taster_S richT
  rw [rng_eq (by omega), rng_eq (by omega)]
  simp only [Int.toNat_natCast]
  rw [get_T hi hk, chk_eq (by omega), idx_eq (by omega) (show (dkT W s L F R A B).2.2.2.2.1[((i : Nat) : Int).toNat]? = some (R.getD i 0) from gets (l := R) hR 0), chk_eq (by omega)]

theorem restp_l1_p {t : Nat → Nat → Int} (hF : F.length ≤ 6) (hL : L.length ≤ 6) (ht : ∀ i k, 0 ≤ t i k ∧ t i k ≤ 30000) (htv : ∀ i k : Nat, i < L.length → k < F.length → tastep_S N i k (dkT W s L F R A B) = some (t i k)) {self : Int → Int → Dk → Dk → Dk → Dk → MK → Option (Int × Int × Int × Dk × Dk × MK)} {i d u : Nat} (hi : i + 1 + d = L.length) (hu : u < 64)
    (hself : ∀ (u : Nat) g, u < 64 → MOK (canT A B s) t F.length L.length g → ∃ g', self ((i : Int) + 1) u (dkT W s L F R A B) (dkT W s L F R A B) (dkT W s L F R A B) (dkT W s L F R A B) g = some ((rsR (canT A B s) t F.length d (i + 1) u).1, (rsR (canT A B s) t F.length d (i + 1) u).2.1, (rsR (canT A B s) t F.length d (i + 1) u).2.2, dkT W s L F R A B, dkT W s L F R A B, g') ∧ MOK (canT A B s) t F.length L.length g' ∧ subM g g' ∧ (i + 1 < L.length → hasM g' (i + 1) u))
    {x4 : Int} {P : Nat} (hP : 7 ^ d = P) : ∀ (ks : List Nat) (g : MK) (b : Int × Int × Int) (Wb : Nat), (∀ k ∈ ks, k < F.length) → MOK (canT A B s) t F.length L.length g → (0 ≤ b.2.1 ∧ b.2.1 ≤ 30000 * (d + 1)) → 0 ≤ b.2.2 → b.2.2 ≤ Wb → Wb + ks.length * P ≤ 10000000 →
      ∃ g', restp_l1 N self (ks.map fun (j : Nat) => ((j : Int), ())) (dkT W s L F R A B) (dkT W s L F R A B) (dkT W s L F R A B) x4 (dkT W s L F R A B) (dkT W s L F R A B) g i u 0 0 0 b.1 b.2.1 b.2.2 =
        some (dkT W s L F R A B, dkT W s L F R A B, g', (i : Int), (u : Int), 0, 0, 0, (ks.foldl (rsS t (rsR (canT A B s) t F.length d (i + 1)) i u) b).1, (ks.foldl (rsS t (rsR (canT A B s) t F.length d (i + 1)) i u) b).2.1, (ks.foldl (rsS t (rsR (canT A B s) t F.length d (i + 1)) i u) b).2.2) ∧
        MOK (canT A B s) t F.length L.length g' ∧ subM g g' ∧ ∀ k ∈ ks, u.testBit k = false → i + 1 < L.length → hasM g' (i + 1) (u ||| 2 ^ k)
  | [], g, b, Wb, _, hg, _, _, _, _ => ⟨g, rfl, hg, subM.refl g, fun k hk => by cases hk⟩
  | k :: ks, g, b, Wb, hk, hg, hb1, hb2, hb3, hWb => by
    have hk0 := hk k (by simp)
    have hks : ∀ x ∈ ks, x < F.length := fun x hx => hk x (by simp [hx])
    rw [List.length_cons, Nat.add_mul, Nat.one_mul] at hWb
    rw [List.map_cons, List.foldl_cons, restp_l1, restp_l1_b]
    dsimp only
    rw [grd_eq (by rw [decide_eq_true_eq]; omega), grd_eq (by rw [decide_eq_true_eq]; exact ⟨fdiv_nn, by omega⟩)]
    by_cases hbit : u.testBit k = true
    · rw [br_dec (bit_of.2 hbit)]
      obtain ⟨g', e1, e2, e3, e4⟩ := restp_l1_p hF hL ht htv hi hu hself (x4 := x4) hP ks g b Wb hks hg hb1 hb2 hb3 (by omega)
      have es : rsS t (rsR (canT A B s) t F.length d (i + 1)) i u b k = b := by unfold rsS; rw [if_pos hbit]
      rw [es]
      refine ⟨g', e1, e2, e3, fun x hx hxb hi => ?_⟩
      rcases List.mem_cons.1 hx with rfl | hx
      · rw [hbit] at hxb; cases hxb
      · exact e4 x hx hxb hi
    · rw [br_ndec (fun h => hbit (bit_of.1 h))]
      obtain ⟨q, hq, p1, p2⟩ := pow_small (k := k) (by omega)
      rw [chk_eq (by omega), grd_eq (by rw [decide_eq_true_eq]; omega), p1, chk_eq (by omega), grd_eq (by rw [decide_eq_true_eq]; omega)]
      simp only [Int.toNat_natCast]
      subst hq
      have hu' := or_small hu (show k < 6 by omega)
      obtain ⟨g1, e1, e2, e3, e4⟩ := hself (u ||| 2 ^ k) g hu' hg
      rw [e1]
      simp only [Option.bind_some]
      rw [htv i k (by omega) hk0]
      simp only [Option.bind_some]
      obtain ⟨⟨r1, r2⟩, r3, r4⟩ := rs_bound (can := canT A B s) (t := t) hF ht (by omega) d (i + 1) (u ||| 2 ^ k)
      have ht0 := ht i k
      have hd : (d : Int) ≤ 5 := by omega
      rw [hP] at r4
      have hbit' : u.testBit k = false := by simpa using hbit
      have fin : ∀ b', rsS t (rsR (canT A B s) t F.length d (i + 1)) i u b k = b' → (0 ≤ b'.2.1 ∧ b'.2.1 ≤ 30000 * (d + 1)) → 0 ≤ b'.2.2 → b'.2.2 ≤ ((Wb + P : Nat) : Int) → ∃ g', restp_l1 N self (ks.map fun (j : Nat) => ((j : Int), ())) (dkT W s L F R A B) (dkT W s L F R A B) (dkT W s L F R A B) x4 (dkT W s L F R A B) (dkT W s L F R A B) g1 i u 0 0 0 b'.1 b'.2.1 b'.2.2 =
        some (dkT W s L F R A B, dkT W s L F R A B, g', (i : Int), (u : Int), 0, 0, 0, (ks.foldl (rsS t (rsR (canT A B s) t F.length d (i + 1)) i u) (rsS t (rsR (canT A B s) t F.length d (i + 1)) i u b k)).1, (ks.foldl (rsS t (rsR (canT A B s) t F.length d (i + 1)) i u) (rsS t (rsR (canT A B s) t F.length d (i + 1)) i u b k)).2.1, (ks.foldl (rsS t (rsR (canT A B s) t F.length d (i + 1)) i u) (rsS t (rsR (canT A B s) t F.length d (i + 1)) i u b k)).2.2) ∧
        MOK (canT A B s) t F.length L.length g' ∧ subM g g' ∧ ∀ x ∈ k :: ks, u.testBit x = false → i + 1 < L.length → hasM g' (i + 1) (u ||| 2 ^ x) := fun b' hb' q1 q2 q3 => by
        obtain ⟨g', f1, f2, f3, f4⟩ := restp_l1_p hF hL ht htv hi hu hself (x4 := x4) hP ks g1 b' (Wb + P) hks e2 q1 q2 q3 (by omega)
        rw [hb']
        refine ⟨g', f1, f2, e3.trans f3, fun x hx hxb hi => ?_⟩
        rcases List.mem_cons.1 hx with rfl | hx
        · exact f3 _ _ (e4 hi)
        · exact f4 x hx hxb hi
      have es : rsS t (rsR (canT A B s) t F.length d (i + 1)) i u b k = if b.2.1 < (rsR (canT A B s) t F.length d (i + 1) (u ||| 2 ^ k)).2.1 + t i k then ((k : Int), (rsR (canT A B s) t F.length d (i + 1) (u ||| 2 ^ k)).2.1 + t i k, (rsR (canT A B s) t F.length d (i + 1) (u ||| 2 ^ k)).2.2)
          else if (rsR (canT A B s) t F.length d (i + 1) (u ||| 2 ^ k)).2.1 + t i k = b.2.1 then (b.1, b.2.1, b.2.2 + (rsR (canT A B s) t F.length d (i + 1) (u ||| 2 ^ k)).2.2) else b := by
        unfold rsS; rw [if_neg hbit]
      have hmul : 30000 * ((d : Int) + 1) = 30000 * d + 30000 := by omega
      rw [chk_eq (by omega)]
      by_cases c1 : b.2.1 < (rsR (canT A B s) t F.length d (i + 1) (u ||| 2 ^ k)).2.1 + t i k
      · rw [if_pos c1] at es
        rw [br_dec c1]
        exact fin _ es ⟨by dsimp only; omega, by dsimp only; omega⟩ (by dsimp only; omega) (by dsimp only; omega)
      · rw [if_neg c1] at es
        rw [br_ndec c1]
        by_cases c2 : (rsR (canT A B s) t F.length d (i + 1) (u ||| 2 ^ k)).2.1 + t i k = b.2.1
        · rw [if_pos c2] at es
          rw [br_dec c2, chk_eq (by omega)]
          exact fin _ es hb1 (by dsimp only; omega) (by dsimp only; omega)
        · rw [if_neg c2] at es
          rw [br_ndec c2]
          exact fin _ es hb1 hb2 (by omega)
theorem restp_R_p {t : Nat → Nat → Int} (hF : F.length ≤ 6) (hL : L.length ≤ 6) (ht : ∀ i k, 0 ≤ t i k ∧ t i k ≤ 30000) (htv : ∀ i k : Nat, i < L.length → k < F.length → tastep_S N i k (dkT W s L F R A B) = some (t i k)) :
    ∀ (fu d i u : Nat) (g : MK), d < fu → i + d = L.length → u < 64 → MOK (canT A B s) t F.length L.length g →
      ∃ g', restp_R N fu i u (dkT W s L F R A B) (dkT W s L F R A B) (dkT W s L F R A B) (dkT W s L F R A B) g = some ((rsR (canT A B s) t F.length d i u).1, (rsR (canT A B s) t F.length d i u).2.1, (rsR (canT A B s) t F.length d i u).2.2, dkT W s L F R A B, dkT W s L F R A B, g') ∧ MOK (canT A B s) t F.length L.length g' ∧ subM g g' ∧ (i < L.length → hasM g' i u)
  | 0, d, i, u, g, h, _, _, _ => by omega
  | fu + 1, d, i, u, g, h, hid, hu, hg => by
    show ∃ g', restp_S N (restp_R N fu) i u (dkT W s L F R A B) (dkT W s L F R A B) (dkT W s L F R A B) (dkT W s L F R A B) g = _ ∧ _
    unfold restp_S
    have hdl : (dkT W s L F R A B).2.2.1.length = L.length := rfl
    rw [hdl]
    cases d with
    | zero =>
      rw [br_dec (by omega)]
      exact ⟨g, rfl, hg, subM.refl g, fun h => by omega⟩
    | succ d =>
      rw [br_ndec (by omega), lkM_some]
      by_cases c : hasM g i u
      · have e := hg.get c
        rw [show L.length - i = d + 1 by omega] at e
        unfold hasM at c
        rw [c, br_true]
        unfold lkM at e
        rw [e]
        exact ⟨g, rfl, hg, subM.refl g, fun _ => c⟩
      · rw [Bool.eq_false_iff.2 c, br_false, chk_eq (by omega)]
        have hself : ∀ (u : Nat) g, u < 64 → MOK (canT A B s) t F.length L.length g → ∃ g', restp_R N fu ((i : Int) + 1) u (dkT W s L F R A B) (dkT W s L F R A B) (dkT W s L F R A B) (dkT W s L F R A B) g = some ((rsR (canT A B s) t F.length d (i + 1) u).1, (rsR (canT A B s) t F.length d (i + 1) u).2.1, (rsR (canT A B s) t F.length d (i + 1) u).2.2, dkT W s L F R A B, dkT W s L F R A B, g') ∧ MOK (canT A B s) t F.length L.length g' ∧ subM g g' ∧ (i + 1 < L.length → hasM g' (i + 1) u) := fun u g hu hg => by
          have := restp_R_p hF hL ht htv fu d (i + 1) u g (by omega) (by omega) hu hg
          rwa [nat_succ] at this
        obtain ⟨g1, e1, e2, e3, e4⟩ := hself u g hu hg
        rw [e1]
        simp only [Option.bind_some]
        have em : may_S N (dkT W s L F R A B) (i : Int) = some (dkT W s L F R A B, dkT W s L F R A B, (i : Int)) := rfl
        rw [em]
        simp only [Option.bind_some]
        rw [mayR_T hF (by omega)]
        simp only [Option.bind_some]
        obtain ⟨⟨r1, r2⟩, r3, r4⟩ := rs_bound (can := canT A B s) (t := t) hF ht (by omega) d (i + 1) u
        have h7 : (7 : Nat) ^ d ≤ 7 ^ 5 := Nat.pow_le_pow_right (by omega) (by omega)
        have h7' : (mayL (canT A B s) F.length i).length * 7 ^ d ≤ 6 * 7 ^ 5 := Nat.mul_le_mul (by have := mayL_len (canT A B s) F.length i; omega) h7
        obtain ⟨g2, f1, f2, f3, f4⟩ := restp_l1_p hF hL ht htv (i := i) (d := d) (u := u) (by omega) hu hself (x4 := (i : Int)) rfl (mayL (canT A B s) F.length i) g1 (-1, (rsR (canT A B s) t F.length d (i + 1) u).2.1, (rsR (canT A B s) t F.length d (i + 1) u).2.2) (7 ^ d)
          (fun k hk => (mem_mayL.1 hk).1) e2 ⟨r1, by dsimp only; omega⟩ r3 r4 (by omega)
        unfold mayE
        rw [f1]
        simp only [Option.bind_some]
        have er : rsR (canT A B s) t F.length (d + 1) i u = (mayL (canT A B s) F.length i).foldl (rsS t (rsR (canT A B s) t F.length d (i + 1)) i u) (-1, (rsR (canT A B s) t F.length d (i + 1) u).2.1, (rsR (canT A B s) t F.length d (i + 1) u).2.2) := rfl
        rw [← er]
        obtain ⟨k1, k2, k3⟩ := f2.cons (i := i) (u := u) (fun hi => ⟨f3 _ _ (e4 hi), fun k hk hb => f4 k hk hb hi⟩)
        rw [show L.length - i = d + 1 by omega] at k1 k2 k3
        exact ⟨_, rfl, k1, e3.trans (f3.trans k2), fun _ => k3⟩
theorem restsp_v {t : Nat → Nat → Int} (hN : 110 ≤ N) (hF : F.length ≤ 6) (hL : L.length ≤ 6) (ht : ∀ i k, 0 ≤ t i k ∧ t i k ≤ 30000) (htv : ∀ i k : Nat, i < L.length → k < F.length → tastep_S N i k (dkT W s L F R A B) = some (t i k)) {u : Nat} (hu : u < 64) :
    ∃ g, restsp_S N (dkT W s L F R A B) (dkT W s L F R A B) u = some g ∧ (0 < L.length → MOK (canT A B s) t F.length L.length g ∧ hasM g 0 u) ∧ lkM g 0 u = some (rsR (canT A B s) t F.length L.length 0 u) := by
  obtain ⟨g, e1, e2, e3, e4⟩ := restp_R_p hF hL ht htv N L.length 0 u [] (by omega) (by omega) hu MOK.nil
  unfold restsp_S restsp_j1
  rw [show ((0 : Nat) : Int) = 0 from rfl] at e1
  rw [e1]
  simp only [Option.bind_some]
  refine ⟨_, rfl, fun h0 => ?_, by rw [lkM_cons, if_pos ⟨rfl, rfl⟩]⟩
  have hg : hasM g 0 u := e4 h0
  obtain ⟨k1, k2, k3⟩ := e2.cons (i := 0) (u := u) (fun hi => e2.clo 0 u hg hi)
  rw [Nat.sub_zero] at k1 k3
  exact ⟨k1, k3⟩
theorem dbestp_l1_p {t : Nat → Nat → Int} (hF : F.length ≤ 6) (hL : L.length ≤ 6) {g : MK} (hg : MOK (canT A B s) t F.length L.length g) : ∀ (n d i u : Nat) (out : List Int), d < n → i + d = L.length → u < 64 → out.length ≤ i → (i < L.length → hasM g i u) →
    dbestp_l1 N n u L.length i g out = some (out ++ blR (canT A B s) t F.length d i u)
  | 0, d, i, u, out, h, _, _, _, _ => by omega
  | n + 1, d, i, u, out, h, hid, hu, ho, hh => by
    unfold dbestp_l1
    cases d with
    | zero =>
      rw [br_ndec (by omega)]
      simp [blR]
    | succ d =>
      have e := hg.get (hh (by omega))
      rw [show L.length - i = d + 1 by omega] at e
      have e' : ((g.find? fun (y : (Int × Int) × (Int × (Int × Int))) => Ty.beq (.pair (.int .i64) (.int .i64)) y.1 ((i : Int), (u : Int))).map (·.2)).getD (Ty.dflt (.pair (.int .i64) (.pair (.int .i64) (.int .i64)))) = rsR (canT A B s) t F.length (d + 1) i u := by
        unfold lkM at e
        rw [e]; rfl
      rw [br_dec (by omega), e', lim_eq (by simp; omega)]
      have hj : ∀ (u' : Nat) x, u' < 64 → (i + 1 < L.length → hasM g (i + 1) u') → dbestp_j1 N (dbestp_l1 N n) u' L.length i g (out ++ [x]) = some (out ++ [x] ++ blR (canT A B s) t F.length d (i + 1) u') := fun u' x hu' hh' => by
        have := dbestp_l1_p hF hL hg n d (i + 1) u' (out ++ [x]) (by omega) (by omega) hu' (by simp; omega) hh'
        rw [nat_succ] at this
        unfold dbestp_j1
        rw [chk_eq (by omega), this]
      rw [blR]
      rcases rs_fnd (can := canT A B s) (t := t) (m := F.length) (d := d) (i := i) (u := u) with ⟨h1, _⟩ | ⟨k, h1, h2, h3, _⟩
      · rw [h1, br_nd (by first | trivial | rfl), if_pos rfl, hj u _ hu (fun hi => (hg.clo i u (hh (by omega)) hi).1)]
        simp
      · obtain ⟨k1, k2⟩ := mem_mayL.1 h2
        obtain ⟨q, hq, p1, p2⟩ := pow_small (k := k) (by omega)
        rw [h1, br_nnd (show ¬ ((k : Int) = -1) by omega)]
        rw [grd_eq (by rw [decide_eq_true_eq]; exact (show (0 : Int) ≤ (k : Int) ∧ (k : Int) ≤ 62 by omega)), p1, chk_eq (by omega), grd_eq (by rw [decide_eq_true_eq]; omega), if_neg (show ¬ ((k : Int) = -1) by omega)]
        simp only [Int.toNat_natCast]
        subst hq
        rw [hj _ _ (or_small hu (by omega)) (fun hi => (hg.clo i u (hh (by omega)) hi).2 k h2 h3)]
        simp
theorem dbestp_v {t : Nat → Nat → Int} (hN : 110 ≤ N) (hF : F.length ≤ 6) (hL : L.length ≤ 6) (ht : ∀ i k, 0 ≤ t i k ∧ t i k ≤ 30000) (htv : ∀ i k : Nat, i < L.length → k < F.length → tastep_S N i k (dkT W s L F R A B) = some (t i k)) :
    dbestp_S N (dkT W s L F R A B) (dkT W s L F R A B) = some (blR (canT A B s) t F.length L.length 0 0) := by
  obtain ⟨g, e1, e2, e3⟩ := restsp_v hN hF hL ht htv (u := 0) (by omega)
  unfold dbestp_S
  rw [show ((0 : Nat) : Int) = 0 from rfl] at e1
  rw [e1]
  simp only [Option.bind_some]
  have hdl : (dkT W s L F R A B).2.2.1.length = L.length := rfl
  rw [hdl]
  by_cases h0 : 0 < L.length
  · obtain ⟨hg, hh⟩ := e2 h0
    have := dbestp_l1_p (N := N) hF hL hg N L.length 0 0 [] (by omega) (by omega) (by omega) (by simp) (fun _ => hh)
    rw [show ((0 : Nat) : Int) = 0 from rfl, List.nil_append] at this
    rw [this]; rfl
  · have hz : L.length = 0 := by omega
    obtain ⟨M, rfl⟩ : ∃ M, N = M + 1 := ⟨N - 1, by omega⟩
    rw [dbestp_l1, hz, br_ndec (by omega)]
    simp [blR]

theorem restr_l1_p {t : Nat → Nat → Int} (hF : F.length ≤ 6) (hL : L.length ≤ 6) (ht : ∀ i k, 0 ≤ t i k ∧ t i k ≤ 30000) (htv : ∀ i k : Nat, i < L.length → k < F.length → taster_S N i k (dkT W s L F R A B) = some (t i k)) {self : Int → Int → Dk → Dk → Dk → Dk → MK → Option (Int × Int × Int × Dk × Dk × MK)} {i d u : Nat} (hi : i + 1 + d = L.length) (hu : u < 64)
    (hself : ∀ (u : Nat) g, u < 64 → MOK (canT A B s) t F.length L.length g → ∃ g', self ((i : Int) + 1) u (dkT W s L F R A B) (dkT W s L F R A B) (dkT W s L F R A B) (dkT W s L F R A B) g = some ((rsR (canT A B s) t F.length d (i + 1) u).1, (rsR (canT A B s) t F.length d (i + 1) u).2.1, (rsR (canT A B s) t F.length d (i + 1) u).2.2, dkT W s L F R A B, dkT W s L F R A B, g') ∧ MOK (canT A B s) t F.length L.length g' ∧ subM g g' ∧ (i + 1 < L.length → hasM g' (i + 1) u))
    {x4 : Int} {P : Nat} (hP : 7 ^ d = P) : ∀ (ks : List Nat) (g : MK) (b : Int × Int × Int) (Wb : Nat), (∀ k ∈ ks, k < F.length) → MOK (canT A B s) t F.length L.length g → (0 ≤ b.2.1 ∧ b.2.1 ≤ 30000 * (d + 1)) → 0 ≤ b.2.2 → b.2.2 ≤ Wb → Wb + ks.length * P ≤ 10000000 →
      ∃ g', restr_l1 N self (ks.map fun (j : Nat) => ((j : Int), ())) (dkT W s L F R A B) (dkT W s L F R A B) (dkT W s L F R A B) x4 (dkT W s L F R A B) (dkT W s L F R A B) g i u 0 0 0 b.1 b.2.1 b.2.2 =
        some (dkT W s L F R A B, dkT W s L F R A B, g', (i : Int), (u : Int), 0, 0, 0, (ks.foldl (rsS t (rsR (canT A B s) t F.length d (i + 1)) i u) b).1, (ks.foldl (rsS t (rsR (canT A B s) t F.length d (i + 1)) i u) b).2.1, (ks.foldl (rsS t (rsR (canT A B s) t F.length d (i + 1)) i u) b).2.2) ∧
        MOK (canT A B s) t F.length L.length g' ∧ subM g g' ∧ ∀ k ∈ ks, u.testBit k = false → i + 1 < L.length → hasM g' (i + 1) (u ||| 2 ^ k)
  | [], g, b, Wb, _, hg, _, _, _, _ => ⟨g, rfl, hg, subM.refl g, fun k hk => by cases hk⟩
  | k :: ks, g, b, Wb, hk, hg, hb1, hb2, hb3, hWb => by
    have hk0 := hk k (by simp)
    have hks : ∀ x ∈ ks, x < F.length := fun x hx => hk x (by simp [hx])
    rw [List.length_cons, Nat.add_mul, Nat.one_mul] at hWb
    rw [List.map_cons, List.foldl_cons, restr_l1, restr_l1_b]
    dsimp only
    rw [grd_eq (by rw [decide_eq_true_eq]; omega), grd_eq (by rw [decide_eq_true_eq]; exact ⟨fdiv_nn, by omega⟩)]
    by_cases hbit : u.testBit k = true
    · rw [br_dec (bit_of.2 hbit)]
      obtain ⟨g', e1, e2, e3, e4⟩ := restr_l1_p hF hL ht htv hi hu hself (x4 := x4) hP ks g b Wb hks hg hb1 hb2 hb3 (by omega)
      have es : rsS t (rsR (canT A B s) t F.length d (i + 1)) i u b k = b := by unfold rsS; rw [if_pos hbit]
      rw [es]
      refine ⟨g', e1, e2, e3, fun x hx hxb hi => ?_⟩
      rcases List.mem_cons.1 hx with rfl | hx
      · rw [hbit] at hxb; cases hxb
      · exact e4 x hx hxb hi
    · rw [br_ndec (fun h => hbit (bit_of.1 h))]
      obtain ⟨q, hq, p1, p2⟩ := pow_small (k := k) (by omega)
      rw [chk_eq (by omega), grd_eq (by rw [decide_eq_true_eq]; omega), p1, chk_eq (by omega), grd_eq (by rw [decide_eq_true_eq]; omega)]
      simp only [Int.toNat_natCast]
      subst hq
      have hu' := or_small hu (show k < 6 by omega)
      obtain ⟨g1, e1, e2, e3, e4⟩ := hself (u ||| 2 ^ k) g hu' hg
      rw [e1]
      simp only [Option.bind_some]
      rw [htv i k (by omega) hk0]
      simp only [Option.bind_some]
      obtain ⟨⟨r1, r2⟩, r3, r4⟩ := rs_bound (can := canT A B s) (t := t) hF ht (by omega) d (i + 1) (u ||| 2 ^ k)
      have ht0 := ht i k
      have hd : (d : Int) ≤ 5 := by omega
      rw [hP] at r4
      have hbit' : u.testBit k = false := by simpa using hbit
      have fin : ∀ b', rsS t (rsR (canT A B s) t F.length d (i + 1)) i u b k = b' → (0 ≤ b'.2.1 ∧ b'.2.1 ≤ 30000 * (d + 1)) → 0 ≤ b'.2.2 → b'.2.2 ≤ ((Wb + P : Nat) : Int) → ∃ g', restr_l1 N self (ks.map fun (j : Nat) => ((j : Int), ())) (dkT W s L F R A B) (dkT W s L F R A B) (dkT W s L F R A B) x4 (dkT W s L F R A B) (dkT W s L F R A B) g1 i u 0 0 0 b'.1 b'.2.1 b'.2.2 =
        some (dkT W s L F R A B, dkT W s L F R A B, g', (i : Int), (u : Int), 0, 0, 0, (ks.foldl (rsS t (rsR (canT A B s) t F.length d (i + 1)) i u) (rsS t (rsR (canT A B s) t F.length d (i + 1)) i u b k)).1, (ks.foldl (rsS t (rsR (canT A B s) t F.length d (i + 1)) i u) (rsS t (rsR (canT A B s) t F.length d (i + 1)) i u b k)).2.1, (ks.foldl (rsS t (rsR (canT A B s) t F.length d (i + 1)) i u) (rsS t (rsR (canT A B s) t F.length d (i + 1)) i u b k)).2.2) ∧
        MOK (canT A B s) t F.length L.length g' ∧ subM g g' ∧ ∀ x ∈ k :: ks, u.testBit x = false → i + 1 < L.length → hasM g' (i + 1) (u ||| 2 ^ x) := fun b' hb' q1 q2 q3 => by
        obtain ⟨g', f1, f2, f3, f4⟩ := restr_l1_p hF hL ht htv hi hu hself (x4 := x4) hP ks g1 b' (Wb + P) hks e2 q1 q2 q3 (by omega)
        rw [hb']
        refine ⟨g', f1, f2, e3.trans f3, fun x hx hxb hi => ?_⟩
        rcases List.mem_cons.1 hx with rfl | hx
        · exact f3 _ _ (e4 hi)
        · exact f4 x hx hxb hi
      have es : rsS t (rsR (canT A B s) t F.length d (i + 1)) i u b k = if b.2.1 < (rsR (canT A B s) t F.length d (i + 1) (u ||| 2 ^ k)).2.1 + t i k then ((k : Int), (rsR (canT A B s) t F.length d (i + 1) (u ||| 2 ^ k)).2.1 + t i k, (rsR (canT A B s) t F.length d (i + 1) (u ||| 2 ^ k)).2.2)
          else if (rsR (canT A B s) t F.length d (i + 1) (u ||| 2 ^ k)).2.1 + t i k = b.2.1 then (b.1, b.2.1, b.2.2 + (rsR (canT A B s) t F.length d (i + 1) (u ||| 2 ^ k)).2.2) else b := by
        unfold rsS; rw [if_neg hbit]
      have hmul : 30000 * ((d : Int) + 1) = 30000 * d + 30000 := by omega
      rw [chk_eq (by omega)]
      by_cases c1 : b.2.1 < (rsR (canT A B s) t F.length d (i + 1) (u ||| 2 ^ k)).2.1 + t i k
      · rw [if_pos c1] at es
        rw [br_dec c1]
        exact fin _ es ⟨by dsimp only; omega, by dsimp only; omega⟩ (by dsimp only; omega) (by dsimp only; omega)
      · rw [if_neg c1] at es
        rw [br_ndec c1]
        by_cases c2 : (rsR (canT A B s) t F.length d (i + 1) (u ||| 2 ^ k)).2.1 + t i k = b.2.1
        · rw [if_pos c2] at es
          rw [br_dec c2, chk_eq (by omega)]
          exact fin _ es hb1 (by dsimp only; omega) (by dsimp only; omega)
        · rw [if_neg c2] at es
          rw [br_ndec c2]
          exact fin _ es hb1 hb2 (by omega)
theorem restr_R_p {t : Nat → Nat → Int} (hF : F.length ≤ 6) (hL : L.length ≤ 6) (ht : ∀ i k, 0 ≤ t i k ∧ t i k ≤ 30000) (htv : ∀ i k : Nat, i < L.length → k < F.length → taster_S N i k (dkT W s L F R A B) = some (t i k)) :
    ∀ (fu d i u : Nat) (g : MK), d < fu → i + d = L.length → u < 64 → MOK (canT A B s) t F.length L.length g →
      ∃ g', restr_R N fu i u (dkT W s L F R A B) (dkT W s L F R A B) (dkT W s L F R A B) (dkT W s L F R A B) g = some ((rsR (canT A B s) t F.length d i u).1, (rsR (canT A B s) t F.length d i u).2.1, (rsR (canT A B s) t F.length d i u).2.2, dkT W s L F R A B, dkT W s L F R A B, g') ∧ MOK (canT A B s) t F.length L.length g' ∧ subM g g' ∧ (i < L.length → hasM g' i u)
  | 0, d, i, u, g, h, _, _, _ => by omega
  | fu + 1, d, i, u, g, h, hid, hu, hg => by
    show ∃ g', restr_S N (restr_R N fu) i u (dkT W s L F R A B) (dkT W s L F R A B) (dkT W s L F R A B) (dkT W s L F R A B) g = _ ∧ _
    unfold restr_S
    have hdl : (dkT W s L F R A B).2.2.1.length = L.length := rfl
    rw [hdl]
    cases d with
    | zero =>
      rw [br_dec (by omega)]
      exact ⟨g, rfl, hg, subM.refl g, fun h => by omega⟩
    | succ d =>
      rw [br_ndec (by omega), lkM_some]
      by_cases c : hasM g i u
      · have e := hg.get c
        rw [show L.length - i = d + 1 by omega] at e
        unfold hasM at c
        rw [c, br_true]
        unfold lkM at e
        rw [e]
        exact ⟨g, rfl, hg, subM.refl g, fun _ => c⟩
      · rw [Bool.eq_false_iff.2 c, br_false, chk_eq (by omega)]
        have hself : ∀ (u : Nat) g, u < 64 → MOK (canT A B s) t F.length L.length g → ∃ g', restr_R N fu ((i : Int) + 1) u (dkT W s L F R A B) (dkT W s L F R A B) (dkT W s L F R A B) (dkT W s L F R A B) g = some ((rsR (canT A B s) t F.length d (i + 1) u).1, (rsR (canT A B s) t F.length d (i + 1) u).2.1, (rsR (canT A B s) t F.length d (i + 1) u).2.2, dkT W s L F R A B, dkT W s L F R A B, g') ∧ MOK (canT A B s) t F.length L.length g' ∧ subM g g' ∧ (i + 1 < L.length → hasM g' (i + 1) u) := fun u g hu hg => by
          have := restr_R_p hF hL ht htv fu d (i + 1) u g (by omega) (by omega) hu hg
          rwa [nat_succ] at this
        obtain ⟨g1, e1, e2, e3, e4⟩ := hself u g hu hg
        rw [e1]
        simp only [Option.bind_some]
        have em : may_S N (dkT W s L F R A B) (i : Int) = some (dkT W s L F R A B, dkT W s L F R A B, (i : Int)) := rfl
        rw [em]
        simp only [Option.bind_some]
        rw [mayR_T hF (by omega)]
        simp only [Option.bind_some]
        obtain ⟨⟨r1, r2⟩, r3, r4⟩ := rs_bound (can := canT A B s) (t := t) hF ht (by omega) d (i + 1) u
        have h7 : (7 : Nat) ^ d ≤ 7 ^ 5 := Nat.pow_le_pow_right (by omega) (by omega)
        have h7' : (mayL (canT A B s) F.length i).length * 7 ^ d ≤ 6 * 7 ^ 5 := Nat.mul_le_mul (by have := mayL_len (canT A B s) F.length i; omega) h7
        obtain ⟨g2, f1, f2, f3, f4⟩ := restr_l1_p hF hL ht htv (i := i) (d := d) (u := u) (by omega) hu hself (x4 := (i : Int)) rfl (mayL (canT A B s) F.length i) g1 (-1, (rsR (canT A B s) t F.length d (i + 1) u).2.1, (rsR (canT A B s) t F.length d (i + 1) u).2.2) (7 ^ d)
          (fun k hk => (mem_mayL.1 hk).1) e2 ⟨r1, by dsimp only; omega⟩ r3 r4 (by omega)
        unfold mayE
        rw [f1]
        simp only [Option.bind_some]
        have er : rsR (canT A B s) t F.length (d + 1) i u = (mayL (canT A B s) F.length i).foldl (rsS t (rsR (canT A B s) t F.length d (i + 1)) i u) (-1, (rsR (canT A B s) t F.length d (i + 1) u).2.1, (rsR (canT A B s) t F.length d (i + 1) u).2.2) := rfl
        rw [← er]
        obtain ⟨k1, k2, k3⟩ := f2.cons (i := i) (u := u) (fun hi => ⟨f3 _ _ (e4 hi), fun k hk hb => f4 k hk hb hi⟩)
        rw [show L.length - i = d + 1 by omega] at k1 k2 k3
        exact ⟨_, rfl, k1, e3.trans (f3.trans k2), fun _ => k3⟩
theorem restsr_v {t : Nat → Nat → Int} (hN : 110 ≤ N) (hF : F.length ≤ 6) (hL : L.length ≤ 6) (ht : ∀ i k, 0 ≤ t i k ∧ t i k ≤ 30000) (htv : ∀ i k : Nat, i < L.length → k < F.length → taster_S N i k (dkT W s L F R A B) = some (t i k)) {u : Nat} (hu : u < 64) :
    ∃ g, restsr_S N (dkT W s L F R A B) (dkT W s L F R A B) u = some g ∧ (0 < L.length → MOK (canT A B s) t F.length L.length g ∧ hasM g 0 u) ∧ lkM g 0 u = some (rsR (canT A B s) t F.length L.length 0 u) := by
  obtain ⟨g, e1, e2, e3, e4⟩ := restr_R_p hF hL ht htv N L.length 0 u [] (by omega) (by omega) hu MOK.nil
  unfold restsr_S restsr_j1
  rw [show ((0 : Nat) : Int) = 0 from rfl] at e1
  rw [e1]
  simp only [Option.bind_some]
  refine ⟨_, rfl, fun h0 => ?_, by rw [lkM_cons, if_pos ⟨rfl, rfl⟩]⟩
  have hg : hasM g 0 u := e4 h0
  obtain ⟨k1, k2, k3⟩ := e2.cons (i := 0) (u := u) (fun hi => e2.clo 0 u hg hi)
  rw [Nat.sub_zero] at k1 k3
  exact ⟨k1, k3⟩
theorem dbestr_l1_p {t : Nat → Nat → Int} (hF : F.length ≤ 6) (hL : L.length ≤ 6) {g : MK} (hg : MOK (canT A B s) t F.length L.length g) : ∀ (n d i u : Nat) (out : List Int), d < n → i + d = L.length → u < 64 → out.length ≤ i → (i < L.length → hasM g i u) →
    dbestr_l1 N n u L.length i g out = some (out ++ blR (canT A B s) t F.length d i u)
  | 0, d, i, u, out, h, _, _, _, _ => by omega
  | n + 1, d, i, u, out, h, hid, hu, ho, hh => by
    unfold dbestr_l1
    cases d with
    | zero =>
      rw [br_ndec (by omega)]
      simp [blR]
    | succ d =>
      have e := hg.get (hh (by omega))
      rw [show L.length - i = d + 1 by omega] at e
      have e' : ((g.find? fun (y : (Int × Int) × (Int × (Int × Int))) => Ty.beq (.pair (.int .i64) (.int .i64)) y.1 ((i : Int), (u : Int))).map (·.2)).getD (Ty.dflt (.pair (.int .i64) (.pair (.int .i64) (.int .i64)))) = rsR (canT A B s) t F.length (d + 1) i u := by
        unfold lkM at e
        rw [e]; rfl
      rw [br_dec (by omega), e', lim_eq (by simp; omega)]
      have hj : ∀ (u' : Nat) x, u' < 64 → (i + 1 < L.length → hasM g (i + 1) u') → dbestr_j1 N (dbestr_l1 N n) u' L.length i g (out ++ [x]) = some (out ++ [x] ++ blR (canT A B s) t F.length d (i + 1) u') := fun u' x hu' hh' => by
        have := dbestr_l1_p hF hL hg n d (i + 1) u' (out ++ [x]) (by omega) (by omega) hu' (by simp; omega) hh'
        rw [nat_succ] at this
        unfold dbestr_j1
        rw [chk_eq (by omega), this]
      rw [blR]
      rcases rs_fnd (can := canT A B s) (t := t) (m := F.length) (d := d) (i := i) (u := u) with ⟨h1, _⟩ | ⟨k, h1, h2, h3, _⟩
      · rw [h1, br_nd (by first | trivial | rfl), if_pos rfl, hj u _ hu (fun hi => (hg.clo i u (hh (by omega)) hi).1)]
        simp
      · obtain ⟨k1, k2⟩ := mem_mayL.1 h2
        obtain ⟨q, hq, p1, p2⟩ := pow_small (k := k) (by omega)
        rw [h1, br_nnd (show ¬ ((k : Int) = -1) by omega)]
        rw [grd_eq (by rw [decide_eq_true_eq]; exact (show (0 : Int) ≤ (k : Int) ∧ (k : Int) ≤ 62 by omega)), p1, chk_eq (by omega), grd_eq (by rw [decide_eq_true_eq]; omega), if_neg (show ¬ ((k : Int) = -1) by omega)]
        simp only [Int.toNat_natCast]
        subst hq
        rw [hj _ _ (or_small hu (by omega)) (fun hi => (hg.clo i u (hh (by omega)) hi).2 k h2 h3)]
        simp
theorem dbestr_v {t : Nat → Nat → Int} (hN : 110 ≤ N) (hF : F.length ≤ 6) (hL : L.length ≤ 6) (ht : ∀ i k, 0 ≤ t i k ∧ t i k ≤ 30000) (htv : ∀ i k : Nat, i < L.length → k < F.length → taster_S N i k (dkT W s L F R A B) = some (t i k)) :
    dbestr_S N (dkT W s L F R A B) (dkT W s L F R A B) = some (blR (canT A B s) t F.length L.length 0 0) := by
  obtain ⟨g, e1, e2, e3⟩ := restsr_v hN hF hL ht htv (u := 0) (by omega)
  unfold dbestr_S
  rw [show ((0 : Nat) : Int) = 0 from rfl] at e1
  rw [e1]
  simp only [Option.bind_some]
  have hdl : (dkT W s L F R A B).2.2.1.length = L.length := rfl
  rw [hdl]
  by_cases h0 : 0 < L.length
  · obtain ⟨hg, hh⟩ := e2 h0
    have := dbestr_l1_p (N := N) hF hL hg N L.length 0 0 [] (by omega) (by omega) (by omega) (by simp) (fun _ => hh)
    rw [show ((0 : Nat) : Int) = 0 from rfl, List.nil_append] at this
    rw [this]; rfl
  · have hz : L.length = 0 := by omega
    obtain ⟨M, rfl⟩ : ∃ M, N = M + 1 := ⟨N - 1, by omega⟩
    rw [dbestr_l1, hz, br_ndec (by omega)]
    simp [blR]

theorem first_v (hN : 110 ≤ N) (hF : F.length ≤ 6) (hL : L.length ≤ 6) (hA : ∀ i k, 0 ≤ A i k ∧ A i k ≤ 50) {u : Nat} (hu : u < 64) : first_S N (dkT W s L F R A B) u = some (rsR (canT A B s) A F.length L.length 0 u) := by
  obtain ⟨g, e1, _, e3⟩ := restsp_v (N := N) (W := W) (s := s) (R := R) (B := B) (A := A) (t := A) hN hF hL (fun i k => by have := hA i k; omega) (fun i k hi hk => tastep_v (by omega) (by omega)) hu
  unfold first_S
  rw [show plain_S N (dkT W s L F R A B) = some (dkT W s L F R A B) from rfl]
  simp only [Option.bind_some]
  rw [e1]
  simp only [Option.bind_some]
  unfold lkM at e3
  rw [e3]; rfl
end
end Go.Proofs.Ythncjilcflilcaa

namespace Go.Proofs.Ythncjilcflilcaa
set_option linter.all false
open Go

/-- All lists of numbers from -1 up to below m. -/
def rowX (m : Nat) (r : List Int) : List (List Int) := (List.range (m + 1)).map fun (k : Nat) => r ++ [(k : Int) - 1]
def listsR (m : Nat) : Nat → List (List Int)
  | 0 => [[]]
  | n + 1 => (listsR m n).flatMap (rowX m)
theorem listsR_len (m : Nat) : ∀ n : Nat, (listsR m n).length = (m + 1) ^ n
  | 0 => rfl
  | n + 1 => by
    have h : ∀ l : List (List Int), (l.flatMap (rowX m)).length = l.length * (m + 1) := by
      intro l
      induction l with
      | nil => simp
      | cons a l ih => rw [List.flatMap_cons, List.length_append, ih, List.length_cons, Nat.add_mul, rowX]; simp; omega
    rw [listsR, h, listsR_len m n, Nat.pow_succ]
theorem mem_listsR {m : Nat} : ∀ {n : Nat} {l : List Int}, l ∈ listsR m n ↔ l.length = n ∧ ∀ x ∈ l, -1 ≤ x ∧ x ≤ (m : Int) - 1
  | 0, l => by
    simp only [listsR, List.mem_singleton]
    constructor
    · rintro rfl; exact ⟨rfl, fun x hx => by cases hx⟩
    · rintro ⟨h, _⟩; exact List.eq_nil_of_length_eq_zero h
  | n + 1, l => by
    simp only [listsR, rowX, List.mem_flatMap, List.mem_map, List.mem_range]
    constructor
    · rintro ⟨r, hr, k, hk, rfl⟩
      obtain ⟨h1, h2⟩ := mem_listsR.1 hr
      refine ⟨by simp [h1], fun x hx => ?_⟩
      rcases List.mem_append.1 hx with hx | hx
      · exact h2 x hx
      · simp only [List.mem_singleton] at hx; omega
    · rintro ⟨h1, h2⟩
      have hne : l ≠ [] := fun e => by subst e; simp at h1
      have hlast := h2 _ (List.getLast_mem hne)
      refine ⟨l.dropLast, mem_listsR.2 ⟨by simp [h1], fun x hx => h2 x ((List.dropLast_sublist l).subset hx)⟩, (l.getLast hne + 1).toNat, by omega, ?_⟩
      rw [show (((l.getLast hne + 1).toNat : Nat) : Int) - 1 = l.getLast hne by omega]
      exact List.dropLast_concat_getLast hne
theorem nodup_listsR (m : Nat) : ∀ n : Nat, (listsR m n).Nodup
  | 0 => by simp [listsR]
  | n + 1 => by
    unfold listsR
    have key : ∀ l : List (List Int), l.Nodup → (l.flatMap (rowX m)).Nodup := by
      intro l hl
      induction l with
      | nil => simp
      | cons a l ih =>
        rw [List.nodup_cons] at hl
        rw [List.flatMap_cons, List.nodup_append]
        refine ⟨?_, ih hl.2, ?_⟩
        · unfold rowX List.Nodup
          rw [List.pairwise_map]
          refine List.Pairwise.imp ?_ List.nodup_range
          intro x y hxy e
          have := List.append_cancel_left e
          simp only [List.cons.injEq, and_true] at this
          omega
        · intro x hx y hy e
          subst e
          simp only [rowX, List.mem_map, List.mem_flatMap] at hx hy
          obtain ⟨k, _, rfl⟩ := hx
          obtain ⟨b, hb, j, _, e⟩ := hy
          have := (List.append_inj' e rfl).1
          subst this
          exact hl.1 hb
    exact key _ (nodup_listsR m n)
section
variable {N : Nat}
theorem lists_l2_p {self : Int → Int → Option (List (List Int))} {m i : Nat} {rest : List (List Int)} (hm : m ≤ 100) (hi : i < rest.length) (hr : (rest.getD i []).length ≤ 100) : ∀ (n j : Nat) (out : List (List Int)), m + 1 < n + j → j ≤ m + 1 → out.length + (m + 1 - j) ≤ 100000 →
    lists_l2 N self n m i ((j : Int) - 1) out rest = some ((m : Int), (i : Int), out ++ (List.range' j (m + 1 - j)).map (fun (k : Nat) => rest.getD i [] ++ [(k : Int) - 1]), rest)
  | 0, j, out, h, _, _ => by omega
  | n + 1, j, out, h, hj, ho => by
    unfold lists_l2
    by_cases c : j < m + 1
    · have ih := lists_l2_p (self := self) hm hi hr n (j + 1) (out ++ [rest.getD i [] ++ [(j : Int) - 1]]) (by omega) (by omega) (by simp; omega)
      rw [show ((j + 1 : Nat) : Int) - 1 = (j : Int) - 1 + 1 by omega] at ih
      rw [br_dec (by omega), rng_eq (by omega)]
      simp only [Int.toNat_natCast]
      rw [get_get [] hi, List.nil_append, lim_eq (by simp only [List.length_nil]; omega), lim_eq (by simp only [List.length_singleton]; omega), lim_eq (by simp only [List.length_singleton]; omega), chk_eq (by omega), ih]
      rw [show m + 1 - j = (m + 1 - (j + 1)) + 1 by omega, List.range'_succ, List.map_cons, List.append_assoc]; rfl
    · rw [br_ndec (by omega), show m + 1 - j = 0 by omega]
      simp
theorem lists_l1_p {self : Int → Int → Option (List (List Int))} {m : Nat} {rest : List (List Int)} (hm : m ≤ 100) (hN : m + 1 < N) (hr : ∀ r ∈ rest, r.length ≤ 100) (hlen : rest.length * (m + 1) ≤ 100000) : ∀ (n i : Nat) (out : List (List Int)), rest.length < n + i → i ≤ rest.length → out.length ≤ i * (m + 1) →
    lists_l1 N self n m i out rest = some (out ++ (rest.drop i).flatMap (rowX m))
  | 0, i, out, h, _, _ => by omega
  | n + 1, i, out, h, hi, ho => by
    unfold lists_l1
    have hlt : rest.length ≤ rest.length * (m + 1) := Nat.le_mul_of_pos_right _ (by omega)
    by_cases c : i < rest.length
    · have e1 : (i + 1) * (m + 1) = i * (m + 1) + (m + 1) := by rw [Nat.add_mul]; omega
      have e2 : (i + 1) * (m + 1) ≤ rest.length * (m + 1) := Nat.mul_le_mul_right _ (by omega)
      have e := lists_l2_p (N := N) (self := self) hm c (hr _ (getD_mem c)) N 0 out (by omega) (by omega) (by omega)
      rw [show ((0 : Nat) : Int) - 1 = -1 from rfl, Nat.sub_zero, ← List.range_eq_range'] at e
      have ih := lists_l1_p (self := self) hm hN hr hlen n (i + 1) (out ++ rowX m (rest.getD i [])) (by omega) (by omega) (by unfold rowX; simp; omega)
      rw [nat_succ] at ih
      rw [br_dec (by omega), e]
      simp only [Option.bind_some]
      rw [chk_eq (by omega)]
      refine ih.trans ?_
      rw [drop_cons c [], List.flatMap_cons, List.append_assoc]
    · rw [br_ndec (by omega), List.drop_of_length_le (by omega)]
      simp
theorem lists_R_p {m : Nat} (hm : m ≤ 100) (hN : m + 1 < N) {T : Nat} (hT : (m + 1) ^ T ≤ 100000) (hTN : (m + 1) ^ T < N) (hT1 : T ≤ 100) : ∀ (fu n : Nat), n < fu → n ≤ T → lists_R N fu n m = some (listsR m n)
  | 0, n, h, _ => by omega
  | fu + 1, n, h, hn => by
    show lists_S N (lists_R N fu) n m = _
    unfold lists_S
    cases n with
    | zero => rw [br_dec (by omega)]; rfl
    | succ n =>
      have ih := lists_R_p hm hN hT hTN hT1 fu n (by omega) (by omega)
      have hp : (m + 1) ^ (n + 1) ≤ (m + 1) ^ T := Nat.pow_le_pow_right (by omega) hn
      have hp2 : (m + 1) ^ n ≤ (m + 1) ^ (n + 1) := Nat.pow_le_pow_right (by omega) (by omega)
      have e := lists_l1_p (N := N) (self := lists_R N fu) (rest := listsR m n) hm hN (fun r hr => by have := (mem_listsR.1 hr).1; omega) (by rw [listsR_len]; exact Nat.le_trans hp hT) N 0 [] (by rw [listsR_len]; omega) (by omega) (by simp)
      rw [show ((0 : Nat) : Int) = 0 from rfl, List.drop_zero, List.nil_append] at e
      rw [br_ndec (by omega), chk_eq (by omega), show ((n + 1 : Nat) : Int) - 1 = (n : Int) by omega, ih]
      simp only [Option.bind_some]
      rw [e]; rfl
end
/-! ### Joins without an error -/
theorem getD_01 {l : List Int} {i : Nat} (h : i < l.length) : l.getD i 0 = fnJ l i := by simp [fnJ, List.getD, h]
theorem errJ_mt {n m : Nat} {can : Nat → Nat → Bool} {l : List Int} : errJ 0 n m can l = 0 ↔ l ∈ joinsL can m n 0 0 := by
  rw [mem_joinsL, okJ_mt]
  constructor
  · intro h
    obtain ⟨_, h1, h2, h3, h4⟩ := errJ_fine h
    rw [alI_iff] at h3 h4
    refine ⟨h1, ⟨fun i hi => ?_, fun i j hi hj hij he => ?_⟩, fun k hk => by simp at hk⟩
    · have hx := List.all_eq_true.1 h2 _ (getD_mem (d := 0) hi)
      unfold inm at hx
      rw [decide_eq_true_eq, getD_01 hi] at hx
      have hc := h4 i hi
      unfold cnI at hc
      rw [Bool.or_eq_true, decide_eq_true_eq, getD_01 hi] at hc
      rcases hc with hc | hc
      · exact .inl hc
      · by_cases e : fnJ l i = -1
        · exact .inl e
        · exact .inr ⟨(fnJ l i).toNat, by omega, by omega, hc⟩
    · have key : ∀ i j, i < j → j < l.length → fnJ l i = fnJ l j → fnJ l j = -1 := fun i j hij hj he => by
        have hd := h3 j hj
        unfold dupI at hd
        rw [Bool.or_eq_true, decide_eq_true_eq, getD_01 hj, Bool.not_eq_true', ← Bool.not_eq_true, hasB_iff] at hd
        rcases hd with hd | hd
        · exact hd
        · refine absurd ?_ hd
          rw [← he, ← getD_01 (show i < l.length by omega)]
          exact List.mem_iff_getElem.2 ⟨i, by simp; omega, by simp [List.getD, show i < l.length by omega]⟩
      rcases Nat.lt_or_gt_of_ne hij with h | h
      · rw [he]; exact key i j h hj he
      · exact key j i h hi he.symm
  · rintro ⟨hl, h1, _⟩
    have hb : l.all (inm m) = true := by
      rw [List.all_eq_true]
      intro x hx
      obtain ⟨i, hi, rfl⟩ := List.getElem_of_mem hx
      have e : l[i] = fnJ l i := by simp [fnJ, List.getD, hi]
      unfold inm
      rw [decide_eq_true_eq, e]
      rcases h1.ok i hi with h | ⟨k, h, hk, _⟩ <;> omega
    have hd : alI (dupI l) l.length = true := by
      rw [alI_iff]
      intro j hj
      unfold dupI
      rw [Bool.or_eq_true, decide_eq_true_eq, getD_01 hj, Bool.not_eq_true', ← Bool.not_eq_true, hasB_iff]
      by_cases e : fnJ l j = -1
      · exact .inl e
      · refine .inr fun hm => ?_
        obtain ⟨i, hi, he⟩ := List.getElem_of_mem hm
        simp only [List.length_take] at hi
        have hij : i < j := by omega
        refine e (h1.inj j i hj (by omega) (by omega) ?_)
        rw [← he, ← getD_01 (show i < l.length by omega)]
        simp [List.getD, show i < l.length by omega]
    have hc : alI (cnI can l) l.length = true := by
      rw [alI_iff]
      intro i hi
      unfold cnI
      rw [Bool.or_eq_true, decide_eq_true_eq, getD_01 hi]
      rcases h1.ok i hi with h | ⟨k, h, _, hc⟩
      · exact .inl h
      · right; rw [h, Int.toNat_natCast]; exact hc
    unfold errJ
    rw [if_neg (by simp), if_neg (by omega), hb, hd, hc]
    simp
/-- A greatest value among some. -/
theorem foldl_max {α : Type} {f : α → Int} {V : Int} : ∀ (l : List α) (a : Int), (∀ x ∈ l, f x ≤ V) → a ≤ V → (a = V ∨ ∃ x ∈ l, f x = V) → l.foldl (fun a x => max a (f x)) a = V
  | [], a, _, _, h => by
    rcases h with h | ⟨x, hx, _⟩
    · exact h
    · cases hx
  | x :: l, a, h1, h2, h3 => by
    have hx := h1 x (by simp)
    rw [List.foldl_cons]
    refine foldl_max l (max a (f x)) (fun y hy => h1 y (by simp [hy])) (by omega) ?_
    rcases h3 with h | ⟨y, hy, e⟩
    · left; omega
    · rcases List.mem_cons.1 hy with rfl | hy
      · left; omega
      · exact .inr ⟨y, hy, e⟩
section
variable {W : List Int} {s : Int} {L F : List (List Int)} {R : List Int} {A B : Nat → Nat → Int} {N : Nat}
/-- All joins. -/
def allR (W : List Int) (s : Int) (L F : List (List Int)) : List (List Int) := (listsR F.length L.length).filter fun l => decide (errJ 0 L.length F.length (canF W s L F) l = 0)
theorem mem_allR {l : List Int} : l ∈ allR W s L F ↔ l ∈ joinsL (canF W s L F) F.length L.length 0 0 := by
  unfold allR
  rw [List.mem_filter, decide_eq_true_eq]
  constructor
  · exact fun h => errJ_mt.1 h.2
  · intro h
    have he := errJ_mt.2 h
    refine ⟨mem_listsR.2 ?_, he⟩
    obtain ⟨_, h1, h2, _⟩ := errJ_fine he
    refine ⟨h1, fun x hx => ?_⟩
    have := List.all_eq_true.1 h2 x hx
    unfold inm at this
    rwa [decide_eq_true_eq] at this
theorem nodup_allR : (allR W s L F).Nodup := List.Pairwise.filter _ (nodup_listsR _ _)
theorem filter_succ {α : Type} {p : α → Bool} {l : List α} {k : Nat} (c : k < l.length) (d : α) : (l.take (k + 1)).filter p = (l.take k).filter p ++ (if p (l.getD k d) = true then [l.getD k d] else []) := by
  rw [take_succ' c d, List.filter_append]
  congr 1
  rw [List.filter_cons]
  split <;> rfl
theorem all_l1_p (hN : 110 ≤ N) (h : Fine W s L F R) {l : List (List Int)} (hl : l.length ≤ 100000) (hr : ∀ r ∈ l, r.length ≤ 100) : ∀ (n k : Nat), l.length < n + k → k ≤ l.length →
    all_l1 N n k W s L F R ((l.take k).filter fun l => decide (errJ 0 L.length F.length (canF W s L F) l = 0)) l = some (l.filter fun l => decide (errJ 0 L.length F.length (canF W s L F) l = 0))
  | 0, k, h, _ => by omega
  | n + 1, k, hn, hk => by
    unfold all_l1
    by_cases c : k < l.length
    · have ih := all_l1_p hN h hl hr n (k + 1) (by omega) (by omega)
      rw [nat_succ, filter_succ c []] at ih
      have hj : ∀ out, all_j1 N (all_l1 N n) k W s L F R out l = all_l1 N n ((k : Int) + 1) W s L F R out l := fun out => by
        unfold all_j1
        rw [chk_eq (by omega)]
      have hlen := List.length_filter_le (fun l => decide (errJ 0 L.length F.length (canF W s L F) l = 0)) (l.take k)
      rw [List.length_take] at hlen
      rw [br_dec (by omega), rng_eq (by omega)]
      simp only [Int.toNat_natCast]
      rw [get_get [] c, rjoins_v hN h.sm (hr _ (getD_mem c)), errD_iff.2 h]
      simp only [Option.bind_some, hj]
      by_cases e : errJ 0 L.length F.length (canF W s L F) (l.getD k []) = 0
      · rw [if_pos (decide_eq_true e)] at ih
        rw [br_dec e, rng_eq (by omega), get_get [] c, lim_eq (by simp; omega), ih]
      · rw [if_neg (by rw [decide_eq_true_eq]; exact e), List.append_nil] at ih
        rw [br_ndec e, ih]
    · rw [br_ndec (by omega), List.take_of_length_le (by omega)]
theorem all_v (hN : 110 ≤ N) (h : Fine W s L F R) (hp : (F.length + 1) ^ L.length < N) (hp2 : (F.length + 1) ^ L.length ≤ 100000) : all_S N W s L F R = some (allR W s L F) := by
  have hl6 := h.l6; have hf6 := h.f6
  have e := all_l1_p hN h (l := listsR F.length L.length) (by rw [listsR_len]; exact hp2) (fun r hr => by have := (mem_listsR.1 hr).1; omega) N 0 (by rw [listsR_len]; omega) (by omega)
  rw [show ((0 : Nat) : Int) = 0 from rfl, List.take_zero, List.filter_nil] at e
  unfold all_S
  rw [lists_R_p (T := L.length) (by omega) (by omega) hp2 hp (by omega) N L.length (by omega) (by omega)]
  simp only [Option.bind_some]
  rw [e]; rfl
theorem joins_facts {l : List Int} (h : l ∈ joinsL (canF W s L F) F.length L.length 0 0) : l.length = L.length ∧ l.all (inm F.length) = true := by
  obtain ⟨_, h1, h2, _⟩ := errJ_fine (errJ_mt.2 h)
  exact ⟨h1, h2⟩
theorem rworth_j (hN : 110 ≤ N) (h : Fine W s L F R) {l : List Int} (hl : l ∈ joinsL (canF W s L F) F.length L.length 0 0) : rworth_S N W s L F R l = some (valJ (agF W L F) 0 l) := by
  obtain ⟨h1, h2⟩ := joins_facts hl
  exact rworth_v hN h (by omega) h2
theorem rbest_l1_p (hN : 110 ≤ N) (h : Fine W s L F R) {l : List (List Int)} (hl : l.length ≤ 100000) (hr : ∀ r ∈ l, r ∈ joinsL (canF W s L F) F.length L.length 0 0) : ∀ (n k : Nat) (x : Int), l.length < n + k → k ≤ l.length →
    rbest_l1 N n l x k W s L F R = some (l, (l.drop k).foldl (fun a l => max a (valJ (agF W L F) 0 l)) x, W, s, L, F, R)
  | 0, k, x, h, _ => by omega
  | n + 1, k, x, hn, hk => by
    unfold rbest_l1
    by_cases c : k < l.length
    · have ih := rbest_l1_p hN h hl hr n (k + 1) (max x (valJ (agF W L F) 0 (l.getD k []))) (by omega) (by omega)
      rw [nat_succ] at ih
      rw [br_dec (by omega), idx_eq (by omega) (gets c []), rworth_j hN h (hr _ (getD_mem c))]
      simp only [Option.bind_some]
      rw [chk_eq (by omega), ih, drop_cons c [], List.foldl_cons]
    · rw [br_ndec (by omega), List.drop_of_length_le (by omega)]; rfl
theorem rbest_l2_p (hN : 110 ≤ N) (h : Fine W s L F R) {l : List (List Int)} (hl : l.length ≤ 100000) (hr : ∀ r ∈ l, r ∈ joinsL (canF W s L F) F.length L.length 0 0) {V : Int} : ∀ (n k : Nat), l.length < n + k → k ≤ l.length →
    rbest_l2 N n l V k W s L F R ((l.take k).filter fun l => decide (valJ (agF W L F) 0 l = V)) = some (V, l.filter fun l => decide (valJ (agF W L F) 0 l = V))
  | 0, k, h, _ => by omega
  | n + 1, k, hn, hk => by
    unfold rbest_l2
    by_cases c : k < l.length
    · have ih := rbest_l2_p hN h hl hr (V := V) n (k + 1) (by omega) (by omega)
      rw [nat_succ, filter_succ c []] at ih
      have hj : ∀ out, rbest_j1 N (rbest_l2 N n) l V k W s L F R out = rbest_l2 N n l V ((k : Int) + 1) W s L F R out := fun out => by
        unfold rbest_j1
        rw [chk_eq (by omega)]
      have hlen := List.length_filter_le (fun l => decide (valJ (agF W L F) 0 l = V)) (l.take k)
      rw [List.length_take] at hlen
      rw [br_dec (by omega), idx_eq (by omega) (gets c []), rworth_j hN h (hr _ (getD_mem c))]
      simp only [Option.bind_some, hj]
      by_cases e : valJ (agF W L F) 0 (l.getD k []) = V
      · rw [if_pos (decide_eq_true e)] at ih
        rw [br_dec e, idx_eq (by omega) (gets c []), lim_eq (by simp; omega), ih]
      · rw [if_neg (by rw [decide_eq_true_eq]; exact e), List.append_nil] at ih
        rw [br_ndec e, ih]
    · rw [br_ndec (by omega), List.take_of_length_le (by omega)]
/-- The greatest worth, and in how many ways. -/
def bestV (W : List Int) (s : Int) (L F : List (List Int)) : Int := (rsR (canF W s L F) (agF W L F) F.length L.length 0 0).2.1
def bestN (W : List Int) (s : Int) (L F : List (List Int)) : Int := (rsR (canF W s L F) (agF W L F) F.length L.length 0 0).2.2
/-- All best joins. -/
def bestR (W : List Int) (s : Int) (L F : List (List Int)) : List (List Int) := (allR W s L F).filter fun l => decide (valJ (agF W L F) 0 l = bestV W s L F)
theorem best_le {l : List Int} (h : l ∈ joinsL (canF W s L F) F.length L.length 0 0) : valJ (agF W L F) 0 l ≤ bestV W s L F := (rs_bst (can := canF W s L F) (t := agF W L F) (m := F.length) L.length 0 0).le l h
theorem bl_mem {t : Nat → Nat → Int} : blR (canF W s L F) t F.length L.length 0 0 ∈ joinsL (canF W s L F) F.length L.length 0 0 := by
  obtain ⟨q1, q2, _⟩ := bl_best (can := canF W s L F) (t := t) (m := F.length) L.length 0 0
  exact mem_joinsL.2 ⟨q2, q1⟩
theorem bl_val : valJ (agF W L F) 0 (blR (canF W s L F) (agF W L F) F.length L.length 0 0) = bestV W s L F := (bl_best (can := canF W s L F) (t := agF W L F) (m := F.length) L.length 0 0).2.2
theorem bestV_bound (h : Fine W s L F R) : 0 ≤ bestV W s L F ∧ bestV W s L F ≤ 300 := by
  have := (rs_bound (can := canF W s L F) (t := agF W L F) h.f6 (agF_bound h) (by omega) L.length 0 0).1
  have := h.l6
  unfold bestV; omega
theorem bestR_len : ((bestR W s L F).length : Int) = bestN W s L F := by
  have h := (rs_bst (can := canF W s L F) (t := agF W L F) (m := F.length) L.length 0 0).ways
  unfold bestN
  rw [← h]
  unfold bestR
  rw [← List.countP_eq_length_filter]
  congr 1
  exact countP_same nodup_allR (nodup_joinsL _ _ _) (fun x => mem_allR) (fun x _ => rfl)
theorem mem_bestR {l : List Int} : l ∈ bestR W s L F ↔ l ∈ joinsL (canF W s L F) F.length L.length 0 0 ∧ valJ (agF W L F) 0 l = bestV W s L F := by
  unfold bestR
  rw [List.mem_filter, mem_allR, decide_eq_true_eq]
theorem rbest_v (hN : 110 ≤ N) (h : Fine W s L F R) (hp : (F.length + 1) ^ L.length < N) (hp2 : (F.length + 1) ^ L.length ≤ 100000) : rbest_S N W s L F R = some (bestR W s L F, bestV W s L F) := by
  have hlen : (allR W s L F).length ≤ (F.length + 1) ^ L.length := by
    rw [← listsR_len]; exact List.length_filter_le _ _
  have e1 := rbest_l1_p hN h (l := allR W s L F) (by omega) (fun r hr => mem_allR.1 hr) N 0 0 (by omega) (by omega)
  have e2 := rbest_l2_p hN h (l := allR W s L F) (by omega) (fun r hr => mem_allR.1 hr) (V := bestV W s L F) N 0 (by omega) (by omega)
  rw [show ((0 : Nat) : Int) = 0 from rfl] at e1 e2
  rw [List.drop_zero, foldl_max (V := bestV W s L F) _ _ (fun x hx => best_le (mem_allR.1 hx)) (bestV_bound h).1 (.inr ⟨_, mem_allR.2 bl_mem, bl_val⟩)] at e1
  rw [List.take_zero, List.filter_nil] at e2
  unfold rbest_S
  rw [all_v hN h hp hp2]
  simp only [Option.bind_some]
  rw [e1]
  simp only [Option.bind_some]
  rw [e2]; rfl
end
end Go.Proofs.Ythncjilcflilcaa

namespace Go.Proofs.Ythncjilcflilcaa
set_option linter.all false
open Go

section
variable {W : List Int} {s : Int} {L F : List (List Int)} {R : List Int} {A B : Nat → Nat → Int} {N : Nat}
/-- Best joins. -/
abbrev bestL (W : List Int) (s : Int) (L F : List (List Int)) : List Int := blR (canF W s L F) (agF W L F) F.length L.length 0 0
abbrev richL (W : List Int) (s : Int) (L F : List (List Int)) (R : List Int) : List Int := blR (canF W s L F) (richT (agF W L F) R) F.length L.length 0 0
abbrev rewT (R : List Int) : Nat → Nat → Int := fun i _ => R.getD i 0
theorem best_v (hN : 110 ≤ N) (h : Sm W L F R) : best_S N W s L F R = some (if errD W s L F R = 0 then (bestL W s L F, bestV W s L F, 0) else ([], 0, errD W s L F R)) := by
  unfold best_S
  rw [opened_v hN h]
  by_cases c : errD W s L F R = 0
  rotate_left
  · rw [if_neg c, if_neg c]
    simp only [Option.bind_some]
    rw [br_nnd c]
  have hF := errD_iff.1 c
  rw [if_pos c, if_pos c]
  simp only [Option.bind_some]
  rw [br_nd (by first | trivial | rfl)]
  unfold dkO
  rw [show plain_S N (dkT W s L F R (agF W L F) (slF W L F)) = some (dkT W s L F R (agF W L F) (slF W L F)) from rfl]
  simp only [Option.bind_some]
  have hl6 := hF.l6; have hf6 := hF.f6
  rw [dbestp_v hN hf6 hl6 (t := agF W L F) (fun i k => by have := agF_bound hF i k; omega) (fun i k hi hk => tastep_v (by omega) (by omega))]
  simp only [Option.bind_some]
  obtain ⟨j1, j2⟩ := joins_facts (W := W) (s := s) (L := L) (F := F) (bl_mem (t := agF W L F))
  rw [dworth_v hN (agF_bound hF) (by omega) hf6 j2, bl_val]; rfl
theorem richest_v (hN : 110 ≤ N) (h : Sm W L F R) : richest_S N W s L F R = some (if errD W s L F R = 0 then (richL W s L F R, valJ (rewT R) 0 (richL W s L F R), 0) else ([], 0, errD W s L F R)) := by
  unfold richest_S
  rw [opened_v hN h]
  by_cases c : errD W s L F R = 0
  rotate_left
  · rw [if_neg c, if_neg c]
    simp only [Option.bind_some]
    rw [br_nnd c]
  have hF := errD_iff.1 c
  rw [if_pos c, if_pos c]
  simp only [Option.bind_some]
  rw [br_nd (by first | trivial | rfl)]
  unfold dkO
  rw [show rich_S N (dkT W s L F R (agF W L F) (slF W L F)) = some (dkT W s L F R (agF W L F) (slF W L F)) from rfl]
  simp only [Option.bind_some]
  have hl6 := hF.l6; have hf6 := hF.f6; have hrl := hF.rl
  rw [dbestr_v hN hf6 hl6 (t := richT (agF W L F) R) (fun i k => by have := agF_bound hF i k; have := getD_R hF.r i; unfold richT; omega) (fun i k hi hk => taster_v (agF_bound hF) hF.r (by omega) (by omega) (by omega))]
  simp only [Option.bind_some]
  obtain ⟨j1, j2⟩ := joins_facts (W := W) (s := s) (L := L) (F := F) (bl_mem (t := richT (agF W L F) R))
  rw [dreward_v hN hF.r (Nat.le_trans (Nat.le_of_eq j1) hl6) (Nat.le_of_eq (j1.trans hrl.symm))]; rfl
theorem count_v (hN : 110 ≤ N) (h : Sm W L F R) : count_S N W s L F R = some (if errD W s L F R = 0 then (bestN W s L F, 0) else (0, errD W s L F R)) := by
  unfold count_S
  rw [opened_v hN h]
  by_cases c : errD W s L F R = 0
  rotate_left
  · rw [if_neg c, if_neg c]
    simp only [Option.bind_some]
    rw [br_nnd c]
  have hF := errD_iff.1 c
  rw [if_pos c, if_pos c]
  simp only [Option.bind_some]
  rw [br_nd (by first | trivial | rfl)]
  unfold dkO
  have := first_v (N := N) (W := W) (s := s) (R := R) (B := slF W L F) hN hF.f6 hF.l6 (agF_bound hF) (u := 0) (by omega)
  rw [show ((0 : Nat) : Int) = 0 from rfl] at this
  rw [this]; rfl
/-! ### Rewards -/
theorem valJ_rich (A : Nat → Nat → Int) (R : List Int) : ∀ (l : List Int) (i : Nat), valJ (richT A R) i l = 595 * valJ A i l + valJ (rewT R) i l
  | [], _ => rfl
  | x :: l, i => by
    rw [valJ, valJ, valJ, valJ_rich A R l (i + 1)]
    unfold pv
    split
    · omega
    · have e : rewT R i x.toNat = R.getD i 0 := rfl
      unfold richT; omega
theorem rich_facts (h : Fine W s L F R) : valJ (agF W L F) 0 (richL W s L F R) = bestV W s L F ∧ ∀ l ∈ bestR W s L F, valJ (rewT R) 0 l ≤ valJ (rewT R) 0 (richL W s L F R) := by
  have hr : ∀ l : List Int, l.length = L.length → 0 ≤ valJ (rewT R) 0 l ∧ valJ (rewT R) 0 l ≤ 594 := fun l hl => by
    have := valJ_bound (t := rewT R) (m := 99) (fun i _ => getD_R h.r i) (by omega) l 0
    have := h.l6; omega
  have hle : ∀ l ∈ joinsL (canF W s L F) F.length L.length 0 0, valJ (richT (agF W L F) R) 0 l ≤ valJ (richT (agF W L F) R) 0 (richL W s L F R) := fun l hl => by
    have h1 := (rs_bst (can := canF W s L F) (t := richT (agF W L F) R) (m := F.length) L.length 0 0).le l hl
    rw [← (bl_best (can := canF W s L F) (t := richT (agF W L F) R) (m := F.length) L.length 0 0).2.2] at h1
    exact h1
  have hm : richL W s L F R ∈ joinsL (canF W s L F) F.length L.length 0 0 := bl_mem
  have h1 := hle _ (bl_mem (W := W) (s := s) (L := L) (F := F) (t := agF W L F))
  rw [valJ_rich, valJ_rich, bl_val] at h1
  have h2 := hr _ (joins_facts hm).1
  have h3 := hr _ (joins_facts (bl_mem (W := W) (s := s) (L := L) (F := F) (t := agF W L F))).1
  have h4 := best_le hm
  have h5 : valJ (agF W L F) 0 (richL W s L F R) = bestV W s L F := by omega
  refine ⟨h5, fun l hl => ?_⟩
  obtain ⟨l1, l2⟩ := mem_bestR.1 hl
  have := hle l l1
  rw [valJ_rich, valJ_rich, h5, l2] at this
  omega
theorem rrichest_l1_p (h : Fine W s L F R) {l : List (List Int)} (hl : l.length ≤ 100000) (hN : 110 ≤ N) (hr : ∀ r ∈ l, r ∈ joinsL (canF W s L F) F.length L.length 0 0) : ∀ (n k : Nat) (x : Int), l.length < n + k → k ≤ l.length →
    rrichest_l1 N n l x k W s L F R = some ((l.drop k).foldl (fun a l => max a (valJ (rewT R) 0 l)) x)
  | 0, k, x, h, _ => by omega
  | n + 1, k, x, hn, hk => by
    unfold rrichest_l1
    by_cases c : k < l.length
    · have ih := rrichest_l1_p h hl hN hr n (k + 1) (max x (valJ (rewT R) 0 (l.getD k []))) (by omega) (by omega)
      rw [nat_succ] at ih
      obtain ⟨j1, j2⟩ := joins_facts (hr _ (getD_mem c))
      rw [br_dec (by omega), idx_eq (by omega) (gets c []), rreward_v hN h (by omega) j2]
      simp only [Option.bind_some]
      rw [chk_eq (by omega), ih, drop_cons c [], List.foldl_cons]
    · rw [br_ndec (by omega), List.drop_of_length_le (by omega)]; rfl
theorem rrichest_v (hN : 110 ≤ N) (h : Fine W s L F R) (hp : (F.length + 1) ^ L.length < N) (hp2 : (F.length + 1) ^ L.length ≤ 100000) : rrichest_S N W s L F R (bestR W s L F) = some (valJ (rewT R) 0 (richL W s L F R)) := by
  have hlen : (bestR W s L F).length ≤ (F.length + 1) ^ L.length := by
    rw [← listsR_len]; exact Nat.le_trans (List.length_filter_le _ _) (List.length_filter_le _ _)
  have hm : richL W s L F R ∈ joinsL (canF W s L F) F.length L.length 0 0 := bl_mem
  have e := rrichest_l1_p (N := N) h (l := bestR W s L F) (by omega) hN (fun r hr => (mem_bestR.1 hr).1) N 0 0 (by omega) (by omega)
  obtain ⟨r1, r2⟩ := rich_facts h
  have hb := valJ_bound (t := rewT R) (m := 99) (fun i _ => getD_R h.r i) (by omega) (richL W s L F R) 0
  rw [show ((0 : Nat) : Int) = 0 from rfl, List.drop_zero, foldl_max (V := valJ (rewT R) 0 (richL W s L F R)) _ _ r2 hb.1 (.inr ⟨_, mem_bestR.2 ⟨hm, r1⟩, rfl⟩)] at e
  unfold rrichest_S
  rw [e]; rfl
/-! ### Prices -/
def vK (W : List Int) (s : Int) (L F : List (List Int)) (k : Nat) : Int := (rsR (canF W s L F) (agF W L F) F.length L.length 0 (2 ^ k)).2.1
def pK (W : List Int) (s : Int) (L F : List (List Int)) (k : Nat) : Int := bestV W s L F - vK W s L F k
def qI (W : List Int) (s : Int) (L F : List (List Int)) (i : Nat) : Int := (mayL (canF W s L F) F.length i).foldl (fun a k => max a (agF W L F i k - pK W s L F k)) 0
theorem isMaxV : IsMax L.length F.length (canF W s L F) (agF W L F) (fun _ => False) (bestV W s L F) := (rs_max (can := canF W s L F) (t := agF W L F) (m := F.length) L.length 0).congr (fun k => by simp)
theorem isMaxK (k : Nat) : IsMax L.length F.length (canF W s L F) (agF W L F) (· = k) (vK W s L F k) := (rs_max (can := canF W s L F) (t := agF W L F) (m := F.length) L.length (2 ^ k)).congr (fun j => by rw [Nat.testBit_two_pow, decide_eq_true_eq]; exact eq_comm)
theorem pK_bound (h : Fine W s L F R) (k : Nat) : 0 ≤ pK W s L F k ∧ pK W s L F k ≤ 300 := by
  obtain ⟨J, h1, _, h3⟩ := (isMaxK (W := W) (s := s) (L := L) (F := F) k).ex
  have h4 := (isMaxV (W := W) (s := s) (L := L) (F := F)).le J h1 (fun _ hf => hf.elim)
  have h5 := (rs_bound (can := canF W s L F) (t := agF W L F) h.f6 (agF_bound h) (by omega) L.length 0 (2 ^ k)).1
  have h6 := bestV_bound h
  have h7 := h.l6
  unfold pK
  rw [h3] at h4
  have : vK W s L F k = (rsR (canF W s L F) (agF W L F) F.length L.length 0 (2 ^ k)).2.1 := rfl
  omega
theorem foldl_ub {f : Nat → Int} : ∀ (l : List Nat) (a : Int), a ≤ l.foldl (fun a k => max a (f k)) a ∧ (∀ k ∈ l, f k ≤ l.foldl (fun a k => max a (f k)) a) ∧ (l.foldl (fun a k => max a (f k)) a = a ∨ ∃ k ∈ l, l.foldl (fun a k => max a (f k)) a = f k)
  | [], a => ⟨Int.le_refl _, (fun k hk => by cases hk), .inl rfl⟩
  | x :: l, a => by
    obtain ⟨h1, h2, h3⟩ := foldl_ub (f := f) l (max a (f x))
    rw [List.foldl_cons]
    refine ⟨by omega, fun k hk => ?_, ?_⟩
    · rcases List.mem_cons.1 hk with rfl | hk
      · omega
      · exact h2 k hk
    · rcases h3 with h3 | ⟨k, hk, e⟩
      · rw [h3]
        rcases Int.le_total a (f x) with h | h
        · exact .inr ⟨x, by simp, by omega⟩
        · exact .inl (by omega)
      · exact .inr ⟨k, by simp [hk], e⟩
theorem qI_bound (h : Fine W s L F R) (i : Nat) : 0 ≤ qI W s L F i ∧ qI W s L F i ≤ 50 := by
  obtain ⟨h1, h2, h3⟩ := foldl_ub (f := fun k => agF W L F i k - pK W s L F k) (mayL (canF W s L F) F.length i) 0
  unfold qI
  refine ⟨h1, ?_⟩
  rcases h3 with h3 | ⟨k, _, e⟩
  · rw [h3]; omega
  · rw [e]
    have := agF_bound h i k
    have := pK_bound h k
    omega
theorem map_succ (f : Nat → Int) (k : Nat) : (List.range (k + 1)).map f = (List.range k).map f ++ [f k] := by rw [List.range_succ, List.map_append]; rfl
theorem mapR_getD {f : Nat → Int} {n k : Nat} (h : k < n) : ((List.range n).map f).getD k 0 = f k := by simp [List.getD, h]
theorem mapR_len (f : Nat → Int) (n : Nat) : ((List.range n).map f).length = n := by simp
theorem mapR_sum (f : Nat → Int) : ∀ n : Nat, ((List.range n).map f).sum = sumN f n
  | 0 => rfl
  | n + 1 => by rw [map_succ, List.sum_append, mapR_sum f n, sumN]; simp
theorem prices_l1_p (hN : 110 ≤ N) (h : Fine W s L F R) {e : Int} : ∀ (n k : Nat), F.length < n + k → k ≤ F.length → prices_l1 N n e (bestV W s L F) F.length k W s L F R (dkO W s L F R) ((List.range k).map (pK W s L F)) = some (e, W, s, L, F, R, dkO W s L F R, (List.range F.length).map (pK W s L F))
  | 0, k, hn, _ => by omega
  | n + 1, k, hn, hk => by
    unfold prices_l1
    have hf6 := h.f6
    by_cases c : k < F.length
    · have ih := prices_l1_p hN h (e := e) n (k + 1) (by omega) (by omega)
      rw [nat_succ, map_succ] at ih
      obtain ⟨q, hq, p1, p2⟩ := pow_small (k := k) (by omega)
      have hb := pK_bound h k
      rw [br_dec (by omega), grd_eq (by rw [decide_eq_true_eq]; omega), p1, chk_eq (by omega)]
      have e1 := first_v (N := N) (W := W) (s := s) (R := R) (B := slF W L F) hN hF hL (agF_bound h) (u := q) p2
      unfold dkO
      rw [e1]
      simp only [Option.bind_some]
      subst hq
      have e2 : bestV W s L F - (rsR (canT (agF W L F) (slF W L F) s) (agF W L F) F.length L.length 0 (2 ^ k)).2.1 = pK W s L F k := rfl
      rw [e2, chk_eq (by omega), lim_eq (by simp; omega), chk_eq (by omega)]
      exact ih
    · obtain rfl : k = F.length := by omega
      rw [br_ndec (by omega)]
  where
  hF := h.f6
  hL := h.l6
theorem prices_l3_p {p : List Int} (hF : F.length ≤ 6) (hp : p.length = F.length) (hpb : ∀ k, 0 ≤ p.getD k 0 ∧ p.getD k 0 ≤ 300) (hA : ∀ i k, 0 ≤ A i k ∧ A i k ≤ 50) {i : Nat} (hi : i < 6) {e u u2 u5 : Int} {lost : List Int} : ∀ (ks : List Nat) (x : Int), (∀ k ∈ ks, k < F.length) →
    prices_l3 N (ks.map fun (j : Nat) => ((j : Int), ())) e u u2 (dkT W s L F R A B) (dkT W s L F R A B) u5 lost (dkT W s L F R A B) i x p = some (e, u, u2, lost, dkT W s L F R A B, ks.foldl (fun a k => max a (A i k - p.getD k 0)) x, p)
  | [], x, _ => rfl
  | k :: ks, x, hk => by
    have hk0 := hk k (by simp)
    have ih := prices_l3_p hF hp hpb hA hi (e := e) (u := u) (u2 := u2) (u5 := u5) (lost := lost) ks (max x (A i k - p.getD k 0)) (fun y hy => hk y (by simp [hy]))
    have b1 := hpb k
    have b2 := hA i k
    rw [List.map_cons, List.foldl_cons, prices_l3, prices_l3_b]
    dsimp only
    rw [rng_eq (by omega), rng_eq (by omega)]
    simp only [Int.toNat_natCast]
    rw [get_T hi (by omega), rng_eq (by omega), get_get 0 (by omega), chk_eq (by omega), ih]
theorem prices_l2_p (h : Fine W s L F R) {e : Int} : ∀ (n i : Nat), L.length < n + i → i ≤ L.length → prices_l2 N n e L.length i ((List.range i).map (qI W s L F)) (dkO W s L F R) ((List.range F.length).map (pK W s L F)) = some ((List.range L.length).map (qI W s L F), (List.range F.length).map (pK W s L F))
  | 0, i, hn, _ => by omega
  | n + 1, i, hn, hi => by
    unfold prices_l2
    have hl6 := h.l6; have hf6 := h.f6
    by_cases c : i < L.length
    · have ih := prices_l2_p h (e := e) n (i + 1) (by omega) (by omega)
      rw [nat_succ, map_succ] at ih
      have em : may_S N (dkO W s L F R) (i : Int) = some (dkO W s L F R, dkO W s L F R, (i : Int)) := rfl
      rw [br_dec (by omega), em]
      simp only [Option.bind_some]
      unfold dkO
      rw [mayR_T hf6 (by omega)]
      simp only [Option.bind_some]
      unfold mayE
      rw [prices_l3_p hf6 (mapR_len _ _) (fun k => by
        by_cases hk : k < F.length
        · rw [mapR_getD hk]; exact pK_bound h k
        · have : ((List.range F.length).map (pK W s L F)).getD k 0 = 0 := by simp [List.getD, hk]
          omega) (agF_bound h) (by omega) _ _ (fun k hk => (mem_mayL.1 hk).1)]
      simp only [Option.bind_some]
      have e2 : (mayL (canT (agF W L F) (slF W L F) s) F.length i).foldl (fun a k => max a (agF W L F i k - ((List.range F.length).map (pK W s L F)).getD k 0)) 0 = qI W s L F i := by
        unfold qI
        have : ∀ (l : List Nat) (a : Int), (∀ k ∈ l, k < F.length) → l.foldl (fun a k => max a (agF W L F i k - ((List.range F.length).map (pK W s L F)).getD k 0)) a = l.foldl (fun a k => max a (agF W L F i k - pK W s L F k)) a := by
          intro l
          induction l with
          | nil => intro a _; rfl
          | cons x l ihl =>
            intro a hl
            rw [List.foldl_cons, List.foldl_cons, mapR_getD (hl x (by simp)), ihl _ (fun k hk => hl k (by simp [hk]))]
        exact this _ _ (fun k hk => (mem_mayL.1 hk).1)
      rw [e2, lim_eq (by simp; omega), chk_eq (by omega)]
      exact ih
    · obtain rfl : i = L.length := by omega
      rw [br_ndec (by omega)]
theorem prices_v (hN : 110 ≤ N) (h : Sm W L F R) : prices_S N W s L F R = some (if errD W s L F R = 0 then ((List.range L.length).map (qI W s L F), (List.range F.length).map (pK W s L F), 0) else ([], [], errD W s L F R)) := by
  unfold prices_S
  rw [opened_v hN h]
  by_cases c : errD W s L F R = 0
  rotate_left
  · rw [if_neg c, if_neg c]
    simp only [Option.bind_some]
    rw [br_nnd c]
  have hF := errD_iff.1 c
  have hl6 := hF.l6; have hf6 := hF.f6
  rw [if_pos c, if_pos c]
  simp only [Option.bind_some]
  rw [br_nd (by first | trivial | rfl)]
  have e0 := first_v (N := N) (W := W) (s := s) (R := R) (B := slF W L F) hN hf6 hl6 (agF_bound hF) (u := 0) (by omega)
  rw [show ((0 : Nat) : Int) = 0 from rfl] at e0
  have e1 := prices_l1_p hN hF (e := 0) N 0 (by omega) (by omega)
  have e2 := prices_l2_p (N := N) hF (e := 0) N 0 (by omega) (by omega)
  rw [show ((0 : Nat) : Int) = 0 from rfl, List.range_zero, List.map_nil] at e1 e2
  rw [show first_S N (dkO W s L F R) 0 = _ from e0]
  simp only [Option.bind_some]
  rw [show prices_l1 N N 0 (rsR (canT (agF W L F) (slF W L F) s) (agF W L F) F.length L.length 0 0).2.1 F.length 0 W s L F R (dkO W s L F R) [] = _ from e1]
  simp only [Option.bind_some]
  rw [e2]; rfl
theorem shows_prices (h : Fine W s L F R) : shR 0 L.length F.length (canF W s L F) (agF W L F) ((List.range L.length).map (qI W s L F)) ((List.range F.length).map (pK W s L F)) = (bestV W s L F, 0) := by
  have hq : ∀ x ∈ (List.range L.length).map (qI W s L F), 0 ≤ x ∧ x ≤ 999 := fun x hx => by
    obtain ⟨i, _, rfl⟩ := List.mem_map.1 hx
    have := qI_bound h i; omega
  have hp : ∀ x ∈ (List.range F.length).map (pK W s L F), 0 ≤ x ∧ x ≤ 999 := fun x hx => by
    obtain ⟨i, _, rfl⟩ := List.mem_map.1 hx
    have := pK_bound h i; omega
  have a1 : ((List.range L.length).map (qI W s L F)).all okp = true := by rw [List.all_eq_true]; exact fun x hx => by unfold okp; rw [decide_eq_true_eq]; exact hq x hx
  have a2 : ((List.range F.length).map (pK W s L F)).all okp = true := by rw [List.all_eq_true]; exact fun x hx => by unfold okp; rw [decide_eq_true_eq]; exact hp x hx
  have a3 : alI (okS (canF W s L F) (agF W L F) F.length ((List.range L.length).map (qI W s L F)) ((List.range F.length).map (pK W s L F))) ((List.range L.length).map (qI W s L F)).length = true := by
    rw [alI_iff, mapR_len]
    intro i hi
    unfold okS
    rw [List.all_eq_true]
    intro k hk
    obtain ⟨k1, k2⟩ := mem_mayL.1 hk
    rw [decide_eq_true_eq, mapR_getD hi, mapR_getD k1]
    have := (foldl_ub (f := fun k => agF W L F i k - pK W s L F k) (mayL (canF W s L F) F.length i) 0).2.1 k hk
    have e : qI W s L F i = (mayL (canF W s L F) F.length i).foldl (fun a k => max a (agF W L F i k - pK W s L F k)) 0 := rfl
    omega
  obtain ⟨J, hJ, _, hV⟩ := (isMaxV (W := W) (s := s) (L := L) (F := F)).ex
  have hs := prices_sum (p := pK W s L F) (q := qI W s L F) hJ hV (fun J hJ => (isMaxV (W := W) (s := s) (L := L) (F := F)).le J hJ (fun _ hf => hf.elim)) (fun k _ => isMaxK (W := W) (s := s) (L := L) (F := F) k) (fun k _ => rfl) (fun i _ => (qI_bound h i).1)
    (fun i k _ hk hc => (foldl_ub (f := fun k => agF W L F i k - pK W s L F k) (mayL (canF W s L F) F.length i) 0).2.1 k (mem_mayL.2 ⟨hk, hc⟩)) (fun i _ => by
      rcases (foldl_ub (f := fun k => agF W L F i k - pK W s L F k) (mayL (canF W s L F) F.length i) 0).2.2 with e | ⟨k, hk, e⟩
      · exact .inl e
      · obtain ⟨k1, k2⟩ := mem_mayL.1 hk
        exact .inr ⟨k, k1, k2, e⟩)
  unfold shR
  rw [if_neg (by simp), if_neg (by rw [mapR_len]; simp), if_neg (by rw [mapR_len]; simp), if_neg (by rw [a1]; simp), if_neg (by rw [a2]; simp), if_neg (by rw [a3]; simp), mapR_sum, mapR_sum, hs]
theorem wide_v (t : Int) : wide_S N W s L F R t = some true ∨ (wide_S N W s L F R t = some false ∧ ((L.length : Int) ≤ t ∨ 6 < (L.length : Int)) ∧ ((F.length : Int) ≤ t ∨ 6 < (F.length : Int))) := by
  unfold wide_S
  by_cases c1 : t < (L.length : Int)
  · rw [br_dec c1]
    by_cases c2 : (L.length : Int) ≤ 6
    · rw [br_dec c2]; exact .inl rfl
    · rw [br_ndec c2]
      by_cases c3 : t < (F.length : Int)
      · rw [br_dec c3]
        by_cases c4 : (F.length : Int) ≤ 6
        · rw [decide_eq_true c4]; exact .inl rfl
        · rw [decide_eq_false c4]; exact .inr ⟨rfl, by omega, by omega⟩
      · rw [br_ndec c3]; exact .inr ⟨rfl, by omega, by omega⟩
  · rw [br_ndec c1]
    by_cases c3 : t < (F.length : Int)
    · rw [br_dec c3]
      by_cases c4 : (F.length : Int) ≤ 6
      · rw [decide_eq_true c4]; exact .inl rfl
      · rw [decide_eq_false c4]; exact .inr ⟨rfl, by omega, by omega⟩
    · rw [br_ndec c3]; exact .inr ⟨rfl, by omega, by omega⟩
theorem pow_bound {a b : Nat} (ha : a ≤ 4) (hb : b ≤ 4) : (a + 1) ^ b ≤ 625 := by
  have h1 : (a + 1) ^ b ≤ 5 ^ b := Nat.pow_le_pow_left (by omega) b
  have h2 : 5 ^ b ≤ 5 ^ 4 := Nat.pow_le_pow_right (by omega) hb
  omega
end
end Go.Proofs.Ythncjilcflilcaa

namespace Go.Proofs.Ythncjilcflilcaa
set_option linter.all false
open Go
theorem awake_v : awake_S 1100 = some true := by kernel_rfl
end Go.Proofs.Ythncjilcflilcaa

namespace Go.Proofs.Ythncjilcflilcaa
set_option linter.all false
open Go

theorem fbest_true {W : List Int} {s : Int} {L F : List (List Int)} {R : List Int} (_ : Ty.inB (.pair (.sl (.int .i64)) (.pair (.int .i64) (.pair (.sl (.sl (.int .i64))) (.pair (.sl (.sl (.int .i64))) (.sl (.int .i64)))))) (W, s, L, F, R)) : fbest_S 1100 W s L F R = some true := by
  have aw : ((awake_S 1100).bind fun x => some x) = some true := by rw [awake_v]; rfl
  unfold fbest_S
  rcases great_v (N := 1100) (W := W) (s := s) (L := L) (F := F) (R := R) (by omega) with h | ⟨h, hs⟩
  · rw [h]
    simp only [Option.bind_some]
    rw [br_true]; exact aw
  rw [h]
  simp only [Option.bind_some]
  rw [br_false]
  rcases wide_v (N := 1100) (W := W) (s := s) (L := L) (F := F) (R := R) 4 with h2 | ⟨h2, w1, w2⟩
  · rw [h2]
    simp only [Option.bind_some]
    rw [br_true]; exact aw
  rw [h2]
  simp only [Option.bind_some]
  rw [br_false, copyd_v (by omega) hs]
  simp only [Option.bind_some]
  rw [best_v (by omega) hs, richest_v (by omega) hs, count_v (by omega) hs, prices_v (by omega) hs]
  simp only [Option.bind_some]
  rw [rcheck_v (by omega) hs]
  simp only [Option.bind_some]
  by_cases c : errD W s L F R = 0
  rotate_left
  · rw [if_neg c, if_neg c, if_neg c, if_neg c, br_nnd c, br_dec (by first | trivial | rfl), br_dec (by first | trivial | rfl), br_dec (by first | trivial | rfl), br_dec (by first | trivial | rfl)]
    simp only [List.length_nil, Int.natCast_zero]
    rw [chk_eq (by omega), chk_eq (by omega), chk_eq (by omega), chk_eq (by omega), chk_eq (by omega), chk_eq (by omega), br_dec (by decide), same_v (by omega) hs]
    simp only [Option.bind_some]
    rw [br_true]; exact aw
  have hF := errD_iff.1 c
  have hl6 := hF.l6; have hf6 := hF.f6
  have hp := pow_bound (a := F.length) (b := L.length) (by omega) (by omega)
  rw [if_pos c, if_pos c, if_pos c, if_pos c, br_nd c, rbest_v (by omega) hF (by omega) (by omega)]
  simp only [Option.bind_some]
  rw [br_nd (by first | trivial | rfl), br_nd (by first | trivial | rfl), br_nd (by first | trivial | rfl), br_nd (by first | trivial | rfl), br_nd (by first | trivial | rfl), br_nd bestR_len.symm, rrichest_v (by omega) hF (by omega) (by omega)]
  simp only [Option.bind_some]
  have m1 : bestL W s L F ∈ joinsL (canF W s L F) F.length L.length 0 0 := bl_mem
  have m2 : richL W s L F R ∈ joinsL (canF W s L F) F.length L.length 0 0 := bl_mem
  have n1 : rworth_S 1100 W s L F R (bestL W s L F) = some (bestV W s L F) := by rw [rworth_j (by omega) hF m1, bl_val]
  have n2 : rworth_S 1100 W s L F R (richL W s L F R) = some (bestV W s L F) := by rw [rworth_j (by omega) hF m2, (rich_facts hF).1]
  obtain ⟨j1, j2⟩ := joins_facts m1
  obtain ⟨k1, k2⟩ := joins_facts m2
  have q1 : rjoins_S 1100 W s L F R (bestL W s L F) = some 0 := by rw [rjoins_v (by omega) hs (by rw [j1]; omega), c, errJ_mt.2 m1]
  have q2 : rjoins_S 1100 W s L F R (richL W s L F R) = some 0 := by rw [rjoins_v (by omega) hs (by rw [k1]; omega), c, errJ_mt.2 m2]
  have q3 : rreward_S 1100 W s L F R (richL W s L F R) = some (valJ (rewT R) 0 (richL W s L F R)) := rreward_v (by omega) hF (by rw [k1]; omega) k2
  rw [br_nd (by first | trivial | rfl), q1]
  simp only [Option.bind_some]
  rw [br_nd (by first | trivial | rfl), n1]
  simp only [Option.bind_some]
  rw [br_nd (by first | trivial | rfl), q2]
  simp only [Option.bind_some]
  rw [br_nd (by first | trivial | rfl), n2]
  simp only [Option.bind_some]
  rw [br_nd (by first | trivial | rfl), q3]
  simp only [Option.bind_some]
  rw [br_nd (by first | trivial | rfl), rshows_v (by omega) hs (by rw [mapR_len]; omega) (by rw [mapR_len]; omega), c, shows_prices hF]
  simp only [Option.bind_some]
  rw [br_dec (by first | trivial | rfl), br_dec (by first | trivial | rfl), same_v (by omega) hs]
  simp only [Option.bind_some]
  rw [br_true]; exact aw
end Go.Proofs.Ythncjilcflilcaa

/-
  Parts of a proof, put together: LcP, Pl3, Pl4, Pl5, Pl6, Pl7, Pl8, Pl9, Pl10, Pl11, E4.
  Conditions: none.
-/
import Derived.Test.YtfcnhnbnjdccfaaZf
namespace Go.Proofs.Ytfcnhnbnjdccfaa
set_option linter.all false
open Go

/-- How many words two lists have in common at most. -/
def lc : List Int → List Int → Nat
  | [], _ => 0
  | _ :: _, [] => 0
  | x :: xs, y :: ys => if x = y then max (max (lc xs (y :: ys)) (lc (x :: xs) ys)) (lc xs ys + 1) else max (lc xs (y :: ys)) (lc (x :: xs) ys)
termination_by a b => a.length + b.length
/-- The common words that are taken. -/
def cw : List Int → List Int → List Int
  | x :: xs, y :: ys => if x = y then x :: cw xs ys else if lc xs (y :: ys) ≥ lc (x :: xs) ys then cw xs (y :: ys) else cw (x :: xs) ys
  | _, _ => []
termination_by a b => a.length + b.length

theorem lc_nil_right (a : List Int) : lc a [] = 0 := by cases a <;> simp [lc]
theorem lc_le_left (a b : List Int) : lc a b ≤ a.length := by
  induction a, b using lc.induct with
  | case1 => simp [lc]
  | case2 => simp [lc]
  | case3 xs y ys i1 i2 i3 => rw [lc, if_pos rfl]; simp only [List.length_cons] at *; omega
  | case4 x xs y ys h i1 i2 => rw [lc, if_neg h]; simp only [List.length_cons] at *; omega
theorem drop_cons {a : List Int} {i : Nat} (h : i < a.length) : a.drop i = a.getD i 0 :: a.drop (i + 1) := by
  rw [List.drop_eq_getElem_cons h]; simp [List.getD, h]
theorem lc_eq {a b : List Int} {i k : Nat} (hi : i < a.length) (hk : k < b.length) (h : a.getD i 0 = b.getD k 0) :
    lc (a.drop i) (b.drop k) = max (max (lc (a.drop (i + 1)) (b.drop k)) (lc (a.drop i) (b.drop (k + 1)))) (lc (a.drop (i + 1)) (b.drop (k + 1)) + 1) := by
  conv => lhs; rw [drop_cons hi, drop_cons hk, lc]
  rw [if_pos h, ← drop_cons hi, ← drop_cons hk]
theorem lc_ne {a b : List Int} {i k : Nat} (hi : i < a.length) (hk : k < b.length) (h : ¬ a.getD i 0 = b.getD k 0) :
    lc (a.drop i) (b.drop k) = max (lc (a.drop (i + 1)) (b.drop k)) (lc (a.drop i) (b.drop (k + 1))) := by
  conv => lhs; rw [drop_cons hi, drop_cons hk, lc]
  rw [if_neg h, ← drop_cons hi, ← drop_cons hk]
theorem cw_eq {a b : List Int} {i k : Nat} (hi : i < a.length) (hk : k < b.length) (h : a.getD i 0 = b.getD k 0) : cw (a.drop i) (b.drop k) = a.getD i 0 :: cw (a.drop (i + 1)) (b.drop (k + 1)) := by
  conv => lhs; rw [drop_cons hi, drop_cons hk, cw]
  rw [if_pos h]
theorem cw_left {a b : List Int} {i k : Nat} (hi : i < a.length) (hk : k < b.length) (h : ¬ a.getD i 0 = b.getD k 0) (hg : lc (a.drop (i + 1)) (b.drop k) ≥ lc (a.drop i) (b.drop (k + 1))) : cw (a.drop i) (b.drop k) = cw (a.drop (i + 1)) (b.drop k) := by
  conv => lhs; rw [drop_cons hi, drop_cons hk, cw]
  rw [if_neg h, ← drop_cons hi, ← drop_cons hk, if_pos hg]
theorem cw_right {a b : List Int} {i k : Nat} (hi : i < a.length) (hk : k < b.length) (h : ¬ a.getD i 0 = b.getD k 0) (hg : ¬ lc (a.drop (i + 1)) (b.drop k) ≥ lc (a.drop i) (b.drop (k + 1))) : cw (a.drop i) (b.drop k) = cw (a.drop i) (b.drop (k + 1)) := by
  conv => lhs; rw [drop_cons hi, drop_cons hk, cw]
  rw [if_neg h, ← drop_cons hi, ← drop_cons hk, if_neg hg]
theorem cw_end {a b : List Int} {i k : Nat} (h : ¬ (i < a.length ∧ k < b.length)) : cw (a.drop i) (b.drop k) = [] := by
  by_cases hi : i < a.length
  · have : b.drop k = [] := List.drop_of_length_le (by omega)
    rw [this]; cases a.drop i <;> simp [cw]
  · have : a.drop i = [] := List.drop_of_length_le (by omega)
    rw [this]; simp [cw]

/-- What the table of common words holds so far: rows behind i, and in row i places behind k. -/
def GridTo (a b : List Int) (l : List Int) (i k : Int) : Prop :=
  l.length = 49 ∧ a.length ≤ 6 ∧ b.length ≤ 6 ∧ ∀ i' k' : Nat, i' ≤ a.length → k' ≤ b.length → (i' = a.length ∨ k' = b.length ∨ i < i' ∨ (i = i' ∧ k < k')) → l[i' * 7 + k']? = some ((lc (a.drop i') (b.drop k') : Nat) : Int)
theorem GridTo.start (a b : List Int) (ha : a.length ≤ 6) (hb : b.length ≤ 6) : GridTo a b (List.replicate 49 (0 : Int)) ((a.length : Int) - 1) b.length := by
  refine ⟨by simp, ha, hb, fun i' k' hi hk h => ?_⟩
  have : lc (a.drop i') (b.drop k') = 0 := by
    rcases h with h | h | h | h
    · rw [h, List.drop_length]; simp [lc]
    · rw [h, List.drop_length, lc_nil_right]
    · have : i' = a.length := by omega
      rw [this, List.drop_length]; simp [lc]
    · omega
  rw [this, List.getElem?_replicate, if_pos (by omega)]; rfl
theorem GridTo.row {a b : List Int} {l : List Int} {i : Int} (h : GridTo a b l i b.length) : GridTo a b l i ((b.length : Int) - 1) :=
  ⟨h.1, h.2.1, h.2.2.1, fun i' k' hi hk hh => h.2.2.2 i' k' hi hk (by omega)⟩
theorem GridTo.next {a b : List Int} {l : List Int} {i : Int} (h : GridTo a b l i (-1)) : GridTo a b l (i - 1) b.length :=
  ⟨h.1, h.2.1, h.2.2.1, fun i' k' hi hk hh => h.2.2.2 i' k' hi hk (by omega)⟩
theorem GridTo.get {a b : List Int} {l : List Int} {i k : Int} (h : GridTo a b l i k) (i' k' : Nat) (hi : i' ≤ a.length) (hk : k' ≤ b.length) (hh : i' = a.length ∨ k' = b.length ∨ i < i' ∨ (i = i' ∧ k < k')) :
    l[i' * 7 + k']? = some ((lc (a.drop i') (b.drop k') : Nat) : Int) := h.2.2.2 i' k' hi hk hh
theorem GridTo.lt {a b : List Int} {l : List Int} {i k : Int} (h : GridTo a b l i k) (i' k' : Nat) (hi : i' ≤ a.length) (hk : k' ≤ b.length) : i' * 7 + k' < l.length := by
  have := h.1; have := h.2.1; have := h.2.2.1; omega
theorem GridTo.set {a b : List Int} {l : List Int} {i k : Int} (h : GridTo a b l i k) (h0 : 0 ≤ i) (h1 : i < a.length) (h2 : 0 ≤ k) (h3 : k < b.length) (v : Int) : GridTo a b (l.set (i.toNat * 7 + k.toNat) v) i k := by
  refine ⟨by simp [h.1], h.2.1, h.2.2.1, fun i' k' hi hk hh => ?_⟩
  have hla := h.2.1; have hlb := h.2.2.1
  rw [List.getElem?_set_ne (by omega)]
  exact h.get i' k' hi hk hh
theorem GridTo.step {a b : List Int} {l : List Int} {i k : Int} (h : GridTo a b l i k) (h0 : 0 ≤ i) (h1 : i < a.length) (h2 : 0 ≤ k) (h3 : k < b.length) (hv : l[i.toNat * 7 + k.toNat]? = some ((lc (a.drop i.toNat) (b.drop k.toNat) : Nat) : Int)) : GridTo a b l i (k - 1) := by
  refine ⟨h.1, h.2.1, h.2.2.1, fun i' k' hi hk hh => ?_⟩
  by_cases e : i' = i.toNat ∧ k' = k.toNat
  · obtain ⟨rfl, rfl⟩ := e; exact hv
  · exact h.get i' k' hi hk (by omega)
theorem GridTo.self {a b : List Int} {l : List Int} {i k : Int} (h : GridTo a b l i k) (h0 : 0 ≤ i) (h1 : i < a.length) (h2 : 0 ≤ k) (h3 : k < b.length) (v : Int) : (l.set (i.toNat * 7 + k.toNat) v)[i.toNat * 7 + k.toNat]? = some v := by
  rw [List.getElem?_set_self (h.lt _ _ (by omega) (by omega))]
def distI (a b : List Int) : Int := (a.length : Int) + b.length - 2 * (cw a b).length
/-- Of pairs in order those that are wanted. -/
def rowTo (p : Nat → Nat → Bool) (a s b : Nat) : List (Int × Int) := ((List.range' s (b - s)).filter (p a)).map (fun (x : Nat) => ((a : Int), (x : Int)))
def allTo (p : Nat → Nat → Bool) (n d a : Nat) : List (Int × Int) := (List.range a).flatMap fun x => rowTo p x (x + d) n
theorem rowTo_zero (p : Nat → Nat → Bool) (a s : Nat) : rowTo p a s s = [] := by simp [rowTo]
theorem rowTo_yes {p : Nat → Nat → Bool} {a s b : Nat} (h : s ≤ b) (hp : p a b = true) : rowTo p a s (b + 1) = rowTo p a s b ++ [((a : Int), (b : Int))] := by
  unfold rowTo
  rw [show b + 1 - s = (b - s) + 1 by omega, List.range'_concat]
  simp [List.filter_append, show s + (b - s) = b by omega, hp]
theorem rowTo_no {p : Nat → Nat → Bool} {a s b : Nat} (h : s ≤ b) (hp : p a b = false) : rowTo p a s (b + 1) = rowTo p a s b := by
  unfold rowTo
  rw [show b + 1 - s = (b - s) + 1 by omega, List.range'_concat]
  simp [List.filter_append, show s + (b - s) = b by omega, hp]
theorem allTo_succ (p : Nat → Nat → Bool) (n d a : Nat) : allTo p n d (a + 1) = allTo p n d a ++ rowTo p a (a + d) n := by
  simp [allTo, List.range_succ]
theorem allTo_len (p : Nat → Nat → Bool) (n d a : Nat) : (allTo p n d a).length ≤ a * n := by
  induction a with
  | zero => simp [allTo]
  | succ a ih =>
    rw [allTo_succ, List.length_append, Nat.succ_mul]
    have : (rowTo p a (a + d) n).length ≤ n := by
      unfold rowTo
      rw [List.length_map]
      have := List.length_filter_le (p a) (List.range' (a + d) (n - (a + d)))
      simp at this; omega
    omega
theorem rowTo_len (p : Nat → Nat → Bool) (a s b : Nat) : (rowTo p a s b).length ≤ b := by
  unfold rowTo
  rw [List.length_map]
  have := List.length_filter_le (p a) (List.range' s (b - s))
  simp at this; omega

theorem lc_has (a b : List Int) : ∃ c : List Int, c.Sublist a ∧ c.Sublist b ∧ c.length = lc a b := by
  induction a, b using lc.induct with
  | case1 b => exact ⟨[], List.nil_sublist _, List.nil_sublist _, by simp [lc]⟩
  | case2 x xs => exact ⟨[], List.nil_sublist _, List.nil_sublist _, by simp [lc]⟩
  | case3 xs x ys i1 i2 i3 =>
    obtain ⟨c1, a1, b1, l1⟩ := i1
    obtain ⟨c2, a2, b2, l2⟩ := i2
    obtain ⟨c3, a3, b3, l3⟩ := i3
    rw [lc, if_pos rfl]
    rcases Nat.le_total (lc xs (x :: ys)) (lc (x :: xs) ys) with h | h
    · rcases Nat.le_total (lc (x :: xs) ys) (lc xs ys + 1) with h2 | h2
      · exact ⟨x :: c3, a3.cons_cons x, b3.cons_cons x, by simp; omega⟩
      · exact ⟨c2, a2, b2.cons x, by omega⟩
    · rcases Nat.le_total (lc xs (x :: ys)) (lc xs ys + 1) with h2 | h2
      · exact ⟨x :: c3, a3.cons_cons x, b3.cons_cons x, by simp; omega⟩
      · exact ⟨c1, a1.cons x, b1, by omega⟩
  | case4 x xs y ys hne i1 i2 =>
    obtain ⟨c1, a1, b1, l1⟩ := i1
    obtain ⟨c2, a2, b2, l2⟩ := i2
    rw [lc, if_neg hne]
    rcases Nat.le_total (lc xs (y :: ys)) (lc (x :: xs) ys) with h | h
    · exact ⟨c2, a2, b2.cons y, by omega⟩
    · exact ⟨c1, a1.cons x, b1, by omega⟩
theorem lc_max (a b : List Int) : ∀ c : List Int, c.Sublist a → c.Sublist b → c.length ≤ lc a b := by
  induction a, b using lc.induct with
  | case1 b => intro c h _; have := h.length_le; simp at this; simp [this]
  | case2 x xs => intro c _ h; have := h.length_le; simp at this; simp [this]
  | case3 xs x ys i1 i2 i3 =>
    intro c h1 h2
    rw [lc, if_pos rfl]
    cases h1 with
    | cons _ h1 => have := i1 c h1 h2; omega
    | cons_cons _ h1 =>
      rename_i c'
      cases h2 with
      | cons _ h2 => have := i2 _ (h1.cons_cons x) h2; omega
      | cons_cons _ h2 => have := i3 c' h1 h2; simp; omega
  | case4 x xs y ys hne i1 i2 =>
    intro c h1 h2
    rw [lc, if_neg hne]
    cases h1 with
    | cons _ h1 => have := i1 c h1 h2; omega
    | cons_cons _ h1 =>
      cases h2 with
      | cons _ h2 => have := i2 _ (h1.cons_cons x) h2; omega
      | cons_cons _ h2 => exact absurd rfl hne
theorem lc_symm (a b : List Int) : lc a b = lc b a := by
  obtain ⟨c, h1, h2, h3⟩ := lc_has a b
  obtain ⟨d, g1, g2, g3⟩ := lc_has b a
  have := lc_max b a c h2 h1
  have := lc_max a b d g2 g1
  omega
theorem lc_self (a : List Int) : lc a a = a.length := by
  have h1 := lc_max a a a (List.Sublist.refl _) (List.Sublist.refl _)
  have h2 := lc_le_left a a
  omega
theorem lc_tail (xs ys : List Int) (y : Int) : lc xs (y :: ys) ≤ lc xs ys + 1 := by
  obtain ⟨c, h1, h2, h3⟩ := lc_has xs (y :: ys)
  cases h2 with
  | cons _ h2 => have := lc_max xs ys c h1 h2; omega
  | cons_cons _ h2 =>
    rename_i c'
    have := lc_max xs ys c' ((List.sublist_cons_self y c').trans h1) h2
    simp at h3; omega
theorem cw_spec (a b : List Int) : (cw a b).Sublist a ∧ (cw a b).Sublist b ∧ (cw a b).length = lc a b := by
  induction a, b using cw.induct with
  | case1 xs y ys ih =>
    obtain ⟨h1, h2, h3⟩ := ih
    rw [cw, if_pos rfl, lc, if_pos rfl]
    refine ⟨h1.cons_cons y, h2.cons_cons y, ?_⟩
    have e1 := lc_tail xs ys y
    have e2 := lc_tail ys xs y
    rw [lc_symm ys (y :: xs), lc_symm ys xs] at e2
    simp; omega
  | case2 x xs y ys h hg ih =>
    obtain ⟨h1, h2, h3⟩ := ih
    rw [cw, if_neg h, if_pos hg, lc, if_neg h]
    exact ⟨h1.cons x, h2, by omega⟩
  | case3 x xs y ys h hg ih =>
    obtain ⟨h1, h2, h3⟩ := ih
    rw [cw, if_neg h, if_neg hg, lc, if_neg h]
    exact ⟨h1, h2.cons y, by omega⟩
  | case4 a b h =>
    have e : cw a b = [] := by rw [cw]; exact h
    rw [e]
    refine ⟨List.nil_sublist _, List.nil_sublist _, ?_⟩
    match a, b, h with
    | [], b, _ => simp [lc]
    | x :: xs, [], _ => simp [lc]
    | x :: xs, y :: ys, h => exact absurd rfl (h x xs y ys rfl)
theorem distI_eq (a b : List Int) : distI a b = (a.length : Int) + b.length - 2 * lc a b := by unfold distI; rw [(cw_spec a b).2.2]
theorem distI_symm (a b : List Int) : distI a b = distI b a := by rw [distI_eq, distI_eq, lc_symm]; omega
theorem distI_self (a : List Int) : distI a a = 0 := by rw [distI_eq, lc_self]; omega
theorem lc_le_right (a b : List Int) : lc a b ≤ b.length := by rw [lc_symm]; exact lc_le_left b a
theorem distI_nonneg (a b : List Int) : 0 ≤ distI a b := by
  rw [distI_eq]
  have := lc_le_left a b
  have := lc_le_right a b
  omega
theorem sub_meet : ∀ (k c1 c2 : List Int), c1.Sublist k → c2.Sublist k → ∃ d : List Int, d.Sublist c1 ∧ d.Sublist c2 ∧ c1.length + c2.length ≤ k.length + d.length := by
  intro k
  induction k with
  | nil => intro c1 c2 h1 h2; have := h1.length_le; have := h2.length_le; exact ⟨[], List.nil_sublist _, List.nil_sublist _, by simp at *; simp [*]⟩
  | cons x k ih =>
    intro c1 c2 h1 h2
    cases h1 with
    | cons _ h1 =>
      cases h2 with
      | cons _ h2 => obtain ⟨d, a, b, l⟩ := ih c1 c2 h1 h2; exact ⟨d, a, b, by simp; omega⟩
      | cons_cons _ h2 => rename_i c2; obtain ⟨d, a, b, l⟩ := ih c1 c2 h1 h2; exact ⟨d, a, b.cons x, by simp; omega⟩
    | cons_cons _ h1 =>
      rename_i c1
      cases h2 with
      | cons _ h2 => obtain ⟨d, a, b, l⟩ := ih c1 c2 h1 h2; exact ⟨d, a.cons x, b, by simp; omega⟩
      | cons_cons _ h2 => rename_i c2; obtain ⟨d, a, b, l⟩ := ih c1 c2 h1 h2; exact ⟨x :: d, a.cons_cons x, b.cons_cons x, by simp; omega⟩
theorem distI_tri (a k b : List Int) : distI a b ≤ distI a k + distI k b := by
  obtain ⟨c1, h1, h2, h3⟩ := lc_has a k
  obtain ⟨c2, g1, g2, g3⟩ := lc_has k b
  obtain ⟨d, e1, e2, e3⟩ := sub_meet k c1 c2 h2 g1
  have := lc_max a b d (e1.trans h1) (e2.trans g2)
  rw [distI_eq, distI_eq, distI_eq]
  omega

/-! ### Pairs in order -/
theorem mem_rowTo {p : Nat → Nat → Bool} {a s b : Nat} {x : Int × Int} : x ∈ rowTo p a s b ↔ ∃ j : Nat, s ≤ j ∧ j < b ∧ p a j = true ∧ x = ((a : Int), (j : Int)) := by
  unfold rowTo
  simp only [List.mem_map, List.mem_filter, List.mem_range'_1]
  constructor
  · rintro ⟨j, ⟨⟨h1, h2⟩, h3⟩, rfl⟩; exact ⟨j, h1, by omega, h3, rfl⟩
  · rintro ⟨j, h1, h2, h3, rfl⟩; exact ⟨j, ⟨⟨h1, by omega⟩, h3⟩, rfl⟩
theorem mem_allTo {p : Nat → Nat → Bool} {n d a : Nat} {x : Int × Int} : x ∈ allTo p n d a ↔ ∃ i j : Nat, i < a ∧ i + d ≤ j ∧ j < n ∧ p i j = true ∧ x = ((i : Int), (j : Int)) := by
  unfold allTo
  simp only [List.mem_flatMap, List.mem_range, mem_rowTo]
  constructor
  · rintro ⟨i, hi, j, h1, h2, h3, rfl⟩; exact ⟨i, j, hi, h1, h2, h3, rfl⟩
  · rintro ⟨i, j, hi, h1, h2, h3, rfl⟩; exact ⟨i, hi, j, h1, h2, h3, rfl⟩
theorem allTo_contains {p : Nat → Nat → Bool} {n d a : Nat} {i j : Nat} (hi : i < a) (hj : i + d ≤ j) (hn : j < n) : (allTo p n d a).contains ((i : Int), (j : Int)) = p i j := by
  rw [Bool.eq_iff_iff, List.contains_iff_mem, mem_allTo]
  constructor
  · rintro ⟨i', j', _, _, _, h, e⟩
    simp only [Prod.mk.injEq] at e
    have e1 : i = i' := by omega
    have e2 : j = j' := by omega
    rw [e1, e2]; exact h
  · intro h; exact ⟨i, j, hi, hj, hn, h, rfl⟩
theorem rowTo_mono {p q : Nat → Nat → Bool} (h : ∀ i j, p i j = true → q i j = true) (a s b : Nat) : (rowTo p a s b).length ≤ (rowTo q a s b).length := by
  unfold rowTo
  rw [List.length_map, List.length_map]
  have : ∀ l : List Nat, (l.filter (p a)).length ≤ (l.filter (q a)).length := by
    intro l
    induction l with
    | nil => simp
    | cons x l ih =>
      rw [List.filter_cons, List.filter_cons]
      split
      · rename_i hp; rw [if_pos (h a x hp)]; simp; exact ih
      · split
        · simp; omega
        · exact ih
  exact this _
theorem allTo_mono {p q : Nat → Nat → Bool} (h : ∀ i j, p i j = true → q i j = true) (n d a : Nat) : (allTo p n d a).length ≤ (allTo q n d a).length := by
  induction a with
  | zero => simp [allTo]
  | succ a ih =>
    rw [allTo_succ, allTo_succ, List.length_append, List.length_append]
    have := rowTo_mono h a (a + d) n
    omega
theorem allTo_sub {p q : Nat → Nat → Bool} (h : ∀ i j, p i j = true → q i j = true) (n d a : Nat) (x : Int × Int) (hx : x ∈ allTo p n d a) : x ∈ allTo q n d a := by
  rw [mem_allTo] at *
  obtain ⟨i, j, h1, h2, h3, h4, e⟩ := hx
  exact ⟨i, j, h1, h2, h3, h i j h4, e⟩
end Go.Proofs.Ytfcnhnbnjdccfaa

namespace Go.Proofs.Ytfcnhnbnjdccfaa
set_option linter.all false
open Go

theorem getD_mem {α : Type} {l : List α} {i : Nat} {d : α} (h : i < l.length) : l.getD i d ∈ l := by
  simp [List.getD, h]
theorem most_v {N : Nat} (hN : 2 ≤ N) (x y : Int) : most_S N x [y] = some (max x y) := by
  obtain ⟨n, rfl⟩ : ∃ n, N = n + 2 := ⟨N - 2, by omega⟩
  simp [most_S, most_l1, br, idx, chk, okI]
theorem common_l2_p {N : Nat} (hN : 20 ≤ N) {a b : List Int} (ha : a.length ≤ 6) (hb : b.length ≤ 6) {i : Int} (h0 : 0 ≤ i) (h1 : i < a.length) : ∀ (n : Nat) (k : Int) (g : List Int), (k + 1).toNat < n → -1 ≤ k → k < b.length → GridTo a b g i k →
    Ok (common_l2 N n a b i k g) fun r => r.1 = a ∧ r.2.1 = b ∧ r.2.2.1 = i ∧ GridTo a b r.2.2.2 i (-1)
  | 0, k, g, h, _, _, _ => by omega
  | n + 1, k, g, h, hk0, hk1, hG => by
    unfold common_l2
    refine Ok.brd (fun hk => ?_) (fun hk => Ok.some ⟨rfl, rfl, rfl, ?_⟩)
    rotate_left
    · have : k = -1 := by omega
      subst this; exact hG
    refine Ok.chk (by omega) (Ok.rng (by omega) (Ok.rng (by omega) ?_))
    rw [get_eq (hG.get (i + 1).toNat k.toNat (by omega) (by omega) (by omega))]
    refine Ok.chk (by omega) (Ok.rng (by omega) (Ok.rng (by omega) ?_))
    rw [get_eq (hG.get i.toNat (k + 1).toNat (by omega) (by omega) (by omega)), most_v (by omega)]
    refine Ok.rng (by omega) (Ok.rng (by omega) (Ok.get (hG.lt _ _ (by omega) (by omega)) (fun _ _ _ => ?_)))
    rw [idx_get 0 h0 h1, idx_get 0 hk hk1]
    have e1 : (i + 1).toNat = i.toNat + 1 := by omega
    have e2 : (k + 1).toNat = k.toNat + 1 := by omega
    have hi' : i.toNat < a.length := by omega
    have hk' : k.toNat < b.length := by omega
    rw [e1, e2]
    have rc : ∀ (g' : List Int), GridTo a b g' i (k - 1) → Ok (common_j1 N (common_l2 N n) a b i k g') fun r => r.1 = a ∧ r.2.1 = b ∧ r.2.2.1 = i ∧ GridTo a b r.2.2.2 i (-1) := fun g' hg' => by
      unfold common_j1
      exact Ok.chk (by omega) (common_l2_p hN ha hb h0 h1 n (k - 1) g' (by omega) (by omega) (by omega) hg')
    refine Ok.brd (fun he => ?_) (fun he => ?_)
    · refine Ok.rng (by omega) (Ok.rng (by omega) ?_)
      rw [get_eq (hG.self h0 h1 hk hk1 _)]
      refine Ok.chk (by omega) (Ok.chk (by omega) (Ok.rng (by omega) (Ok.rng (by omega) ?_)))
      have hG2 := hG.set h0 h1 hk hk1 (max ((lc (a.drop (i.toNat + 1)) (b.drop k.toNat) : Nat) : Int) ((lc (a.drop i.toNat) (b.drop (k.toNat + 1)) : Nat) : Int))
      have := lc_le_left (a.drop (i.toNat + 1)) (b.drop (k.toNat + 1))
      rw [List.length_drop] at this
      rw [get_eq (hG2.get (i.toNat + 1) (k.toNat + 1) (by omega) (by omega) (by omega))]
      refine Ok.chk (by omega) ?_
      rw [most_v (by omega)]
      refine Ok.rng (by omega) (Ok.rng (by omega) (Ok.get (hG2.lt _ _ (by omega) (by omega)) (fun _ _ _ => rc _ ?_)))
      refine (hG2.set h0 h1 hk hk1 _).step h0 h1 hk hk1 ?_
      rw [hG2.self h0 h1 hk hk1, lc_eq hi' hk' he]
      simp only [Option.some.injEq]; omega
    · refine rc _ ((hG.set h0 h1 hk hk1 _).step h0 h1 hk hk1 ?_)
      rw [hG.self h0 h1 hk hk1, lc_ne hi' hk' he]
      simp only [Option.some.injEq]; omega
theorem common_l1_p {N : Nat} (hN : 20 ≤ N) {a b : List Int} (ha : a.length ≤ 6) (hb : b.length ≤ 6) : ∀ (n : Nat) (i : Int) (g : List Int), (i + 1).toNat < n → -1 ≤ i → i < a.length → GridTo a b g i b.length →
    Ok (common_l1 N n a b i g) fun r => r.1 = a ∧ r.2.1 = b ∧ GridTo a b r.2.2 (-1) b.length
  | 0, i, g, h, _, _, _ => by omega
  | n + 1, i, g, h, h0, h1, hG => by
    unfold common_l1
    refine Ok.brd (fun hi => ?_) (fun hi => Ok.some ⟨rfl, rfl, ?_⟩)
    rotate_left
    · have : i = -1 := by omega
      subst this; exact hG
    refine Ok.chk (by omega) (Ok.bind (common_l2_p hN ha hb hi h1 N _ g (by omega) (by omega) (by omega) hG.row) (fun r hr => ?_))
    obtain ⟨a', b', i', g'⟩ := r
    dsimp only at hr
    obtain ⟨rfl, rfl, rfl, hg⟩ := hr
    exact Ok.chk (by omega) (common_l1_p hN ha hb n (i' - 1) g' (by omega) (by omega) (by omega) hg.next)
theorem common_l3_p {N : Nat} {a b : List Int} {g : List Int} (hG : GridTo a b g (-1) b.length) : ∀ (n : Nat) (i k : Int) (out : List Int), (a.length + b.length - i - k).toNat < n → 0 ≤ i → i ≤ a.length → 0 ≤ k → k ≤ b.length → out.length ≤ i →
    common_l3 N n a b i k g out = some (out ++ cw (a.drop i.toNat) (b.drop k.toNat))
  | 0, i, k, out, h, h0, h1, h2, h3, _ => by omega
  | n + 1, i, k, out, h, h0, h1, h2, h3, ho => by
    have ha := hG.2.1
    have hb := hG.2.2.1
    unfold common_l3
    by_cases hi : i < a.length
    · rw [br_dec hi]
      by_cases hk : k < b.length
      · have hi' : i.toNat < a.length := by omega
        have hk' : k.toNat < b.length := by omega
        have e1 : (i + 1).toNat = i.toNat + 1 := by omega
        have e2 : (k + 1).toNat = k.toNat + 1 := by omega
        rw [br_dec hk, idx_get 0 h0 hi, idx_get 0 h2 hk]
        by_cases he : a.getD i.toNat 0 = b.getD k.toNat 0
        · rw [br_dec he, idx_get 0 h0 hi, lim_eq (by simp; omega), chk_eq (by omega), chk_eq (by omega), common_l3_p hG n _ _ _ (by omega) (by omega) (by omega) (by omega) (by omega) (by simp; omega), cw_eq hi' hk' he, e1, e2]
          simp
        · rw [br_ndec he, chk_eq (by omega), rng_eq (by omega), rng_eq (by omega), get_eq (hG.get (i + 1).toNat k.toNat (by omega) (by omega) (by omega)), chk_eq (by omega), rng_eq (by omega), rng_eq (by omega), get_eq (hG.get i.toNat (k + 1).toNat (by omega) (by omega) (by omega)), e1, e2]
          by_cases hg : lc (a.drop (i.toNat + 1)) (b.drop k.toNat) ≥ lc (a.drop i.toNat) (b.drop (k.toNat + 1))
          · rw [br_dec (by omega), chk_eq (by omega), common_l3_p hG n _ _ _ (by omega) (by omega) (by omega) (by omega) (by omega) (by omega), cw_left hi' hk' he hg, e1]
          · rw [br_ndec (by omega), chk_eq (by omega), common_l3_p hG n _ _ _ (by omega) (by omega) (by omega) (by omega) (by omega) (by omega), cw_right hi' hk' he hg, e2]
      · rw [br_ndec hk, cw_end (by omega)]; simp
    · rw [br_ndec hi, cw_end (by omega)]; simp
theorem common_v {N : Nat} (hN : 20 ≤ N) {a b : List Int} (ha : a.length ≤ 6) (hb : b.length ≤ 6) : common_S N a b = some (cw a b) := by
  unfold common_S
  rw [chk_eq (by omega)]
  obtain ⟨r, h1, h2⟩ := common_l1_p hN ha hb N ((a.length : Int) - 1) _ (by omega) (by omega) (by omega) (GridTo.start a b ha hb)
  rw [h1]
  obtain ⟨a', b', g⟩ := r
  obtain ⟨rfl, rfl, hg⟩ := h2
  simp only [Option.bind_some]
  rw [common_l3_p hg N 0 0 [] (by omega) (by omega) (by omega) (by omega) (by omega) (by simp)]
  simp
theorem dist_v {N : Nat} (hN : 20 ≤ N) {T : List (List Int)} {H : List Int} {f a b : Int} (h : Fine T H f) (ha : 0 ≤ a ∧ a < T.length) (hb : 0 ≤ b ∧ b < T.length) : dist_S N T H f a b = some (distI (T.getD a.toNat []) (T.getD b.toNat []), 0) := by
  unfold dist_S
  obtain ⟨_, _, _, e⟩ := opened_good hN (h.open ha hb)
  rw [e]
  have la := h.l (T.getD a.toNat []) (getD_mem (by omega))
  have lb := h.l (T.getD b.toNat []) (getD_mem (by omega))
  simp only [Option.bind_some]
  have := lc_le_left (T.getD a.toNat []) (T.getD b.toNat [])
  have hc := (cw_spec (T.getD a.toNat []) (T.getD b.toNat [])).2.2
  simp only [decide_true, Bool.not_true, br_false]
  rw [chk_eq (by omega), common_v hN la.2 lb.2]
  simp only [Option.bind_some]
  rw [chk_eq (by omega), chk_eq (by omega)]
  rfl
theorem dist_bad {N : Nat} (hN : 20 ≤ N) {T : List (List Int)} {H : List Int} {f a b : Int} (h : openE T H f a b ≠ 0) : dist_S N T H f a b = some (0, openE T H f a b) := by
  unfold dist_S
  rw [opened_bad hN h]
  simp [h, br]
end Go.Proofs.Ytfcnhnbnjdccfaa

namespace Go.Proofs.Ytfcnhnbnjdccfaa
set_option linter.all false
open Go

/-! ### The most words that can be told behind a place, and in how many ways -/
def wT (side w : Int) : Int := if 0 ≤ w ∧ side ≠ 3 then w + 1 else w
theorem wT_bnd {side w n : Int} (h : -1 ≤ w ∧ w ≤ n) : -1 ≤ wT side w ∧ wT side w ≤ n + 1 := by unfold wT; split <;> omega
def stepT (may : Nat → Int × Int → Bool) (h : Nat) (t : At3 → Int × Int) (best : Int × Int) (m : Mv) : Int × Int :=
  if may h m.1 = true then (if best.1 < wT m.1.1 (t m.2).1 then (wT m.1.1 (t m.2).1, (t m.2).2) else if wT m.1.1 (t m.2).1 = best.1 then (best.1, best.2 + (t m.2).2) else best) else best
def tvx (may : Nat → Int × Int → Bool) (H A B : List Int) : Nat → At3 → Int × Int
  | 0, _ => (0, 1)
  | n + 1, x => (movesL A B (H.getD x.1 0) x).foldl (stepT may x.1 (tvx may H A B n)) (-1, 0)
def tv (may : Nat → Int × Int → Bool) (H A B : List Int) (x : At3) : Int × Int := tvx may H A B (H.length - x.1) x
theorem standsL_len (l : List Int) (w : Int) (k : Nat) : (standsL l w k).length ≤ l.length := by
  unfold standsL
  have := List.length_filter_le (fun j => l.getD j 0 == w) (List.range' k (l.length - k))
  rw [List.length_range'] at this
  omega
theorem movesL_len (A B : List Int) (w : Int) (x : At3) : (movesL A B w x).length ≤ 1 + A.length + B.length := by
  simp only [movesL, List.length_cons, List.length_append, List.length_map]
  have := standsL_len A w x.2.1
  have := standsL_len B w x.2.2
  omega
theorem movesL_ok {A B : List Int} {w : Int} {x : At3} (ha : x.2.1 ≤ A.length) (hb : x.2.2 ≤ B.length) {m : Mv} (h : m ∈ movesL A B w x) : m.2.1 = x.1 + 1 ∧ m.2.2.1 ≤ A.length ∧ m.2.2.2 ≤ B.length := by
  simp only [movesL, List.mem_cons, List.mem_append, List.mem_map] at h
  rcases h with rfl | ⟨j, hj, rfl⟩ | ⟨j, hj, rfl⟩
  · exact ⟨rfl, ha, hb⟩
  · have := mem_standsL.1 hj; exact ⟨rfl, by dsimp only; omega, hb⟩
  · have := mem_standsL.1 hj; exact ⟨rfl, ha, by dsimp only; omega⟩
/-- How great they can be. -/
def Bnd13 (n : Nat) (v : Int × Int) : Prop := -1 ≤ v.1 ∧ v.1 ≤ n ∧ 0 ≤ v.2 ∧ v.2 ≤ ((13 ^ n : Nat) : Int)
def Bst (n c : Nat) (v : Int × Int) : Prop := -1 ≤ v.1 ∧ v.1 ≤ ((n + 1 : Nat) : Int) ∧ 0 ≤ v.2 ∧ v.2 ≤ ((c * 13 ^ n : Nat) : Int)
theorem stepT_bnd {may : Nat → Int × Int → Bool} {h n c : Nat} {t : At3 → Int × Int} {m : Mv} {best : Int × Int} (ht : Bnd13 n (t m.2)) (hb : Bst n c best) : Bst n (c + 1) (stepT may h t best m) := by
  obtain ⟨h1, h2, h3, h4⟩ := ht
  obtain ⟨b1, b2, b3, b4⟩ := hb
  have e : (((c + 1) * 13 ^ n : Nat) : Int) = ((c * 13 ^ n : Nat) : Int) + ((13 ^ n : Nat) : Int) := by rw [Nat.succ_mul]; simp
  have p1 : (0 : Int) ≤ ((c * 13 ^ n : Nat) : Int) := Int.natCast_nonneg _
  unfold Bst
  rw [e]
  have hw := wT_bnd (side := m.1.1) ⟨h1, h2⟩
  unfold stepT
  generalize ((c * 13 ^ n : Nat) : Int) = P at *
  generalize ((13 ^ n : Nat) : Int) = R at *
  generalize wT m.1.1 (t m.2).1 = W at *
  by_cases c1 : may h m.1 = true
  · rw [if_pos c1]
    by_cases c2 : best.1 < W
    · rw [if_pos c2]; exact ⟨hw.1, by dsimp only; omega, h3, by dsimp only; omega⟩
    · rw [if_neg c2]
      by_cases c3 : W = best.1
      · rw [if_pos c3]; exact ⟨b1, b2, by dsimp only; omega, by dsimp only; omega⟩
      · rw [if_neg c3]; exact ⟨b1, b2, b3, by omega⟩
  · rw [if_neg c1]; exact ⟨b1, b2, b3, by omega⟩
theorem fold_bnd {may : Nat → Int × Int → Bool} {h n : Nat} {t : At3 → Int × Int} (ht : ∀ y, Bnd13 n (t y)) : ∀ (ms : List Mv) (c : Nat) (best : Int × Int), Bst n c best → Bst n (c + ms.length) (ms.foldl (stepT may h t) best)
  | [], c, best, hb => hb
  | m :: ms, c, best, hb => by
    have := fold_bnd (may := may) (h := h) ht ms (c + 1) _ (stepT_bnd (may := may) (h := h) (m := m) (ht m.2) hb)
    rw [List.length_cons, show c + (ms.length + 1) = c + 1 + ms.length by omega]
    exact this
theorem tvx_bnd (may : Nat → Int × Int → Bool) {H A B : List Int} (hA : A.length ≤ 6) (hB : B.length ≤ 6) : ∀ (n : Nat) (x : At3), Bnd13 n (tvx may H A B n x)
  | 0, x => by simp [tvx, Bnd13]
  | n + 1, x => by
    have := fold_bnd (may := may) (h := x.1) (t := tvx may H A B n) (tvx_bnd may hA hB n) (movesL A B (H.getD x.1 0) x) 0 (-1, 0) (by refine ⟨?_, ?_, ?_, ?_⟩ <;> simp; omega)
    simp only [Nat.zero_add] at this
    obtain ⟨h1, h2, h3, h4⟩ := this
    refine ⟨h1, h2, h3, Int.le_trans h4 ?_⟩
    have := movesL_len A B (H.getD x.1 0) x
    have h5 : (movesL A B (H.getD x.1 0) x).length * 13 ^ n ≤ 13 * 13 ^ n := Nat.mul_le_mul_right _ (by omega)
    rw [Nat.pow_succ, Nat.mul_comm (13 ^ n) 13]
    exact Int.ofNat_le.2 h5
theorem pow13 {n : Nat} (h : n ≤ 10) : 13 ^ n ≤ 137858491849 := Nat.le_trans (Nat.pow_le_pow_right (by decide) h) (by decide)

/-! ### The memory -/
abbrev Memo := List ((Int × (Int × Int)) × (Int × Int))
abbrev Desk := (List (List Int)) × ((List Int) × (Int × ((List Int) × (List Int))))
def MapOK (may : Nat → Int × Int → Bool) (H A B : List Int) (m : Memo) : Prop := ∀ e ∈ m, ∃ x : At3, e = ((((x.1 : Nat) : Int), ((x.2.1 : Nat) : Int), ((x.2.2 : Nat) : Int)), tv may H A B x)
theorem MapOK.nil (may : Nat → Int × Int → Bool) (H A B : List Int) : MapOK may H A B [] := fun _ h => by cases h
theorem MapOK.cons {may : Nat → Int × Int → Bool} {H A B : List Int} {m : Memo} (h : MapOK may H A B m) (x : At3) : MapOK may H A B (((((x.1 : Nat) : Int), ((x.2.1 : Nat) : Int), ((x.2.2 : Nat) : Int)), tv may H A B x) :: m) := fun e he => by
  rcases List.mem_cons.1 he with rfl | he
  · exact ⟨x, rfl⟩
  · exact h e he
theorem MapOK.find {may : Nat → Int × Int → Bool} {H A B : List Int} {m : Memo} (h : MapOK may H A B m) (x : At3) {e : (Int × (Int × Int)) × (Int × Int)} (he : m.find? (fun y => Ty.beq (.pair (.int .i64) (.pair (.int .i64) (.int .i64))) y.1 (((x.1 : Nat) : Int), ((x.2.1 : Nat) : Int), ((x.2.2 : Nat) : Int))) = some e) : e.2 = tv may H A B x := by
  obtain ⟨y, rfl⟩ := h e (List.mem_of_find?_eq_some he)
  have := List.find?_some he
  have := (beq_iff_ (y := .pair (.int .i64) (.pair (.int .i64) (.int .i64))) rfl).1 this
  simp only [Prod.mk.injEq] at this
  have e : y = x := by
    obtain ⟨a, b, c⟩ := x
    obtain ⟨a', b', c'⟩ := y
    dsimp only at this
    simp only [Prod.mk.injEq]; omega
  rw [e]
end Go.Proofs.Ytfcnhnbnjdccfaa

namespace Go.Proofs.Ytfcnhnbnjdccfaa
set_option linter.all false
open Go

def mayA : Nat → Int × Int → Bool := fun _ _ => true
section
variable {N : Nat} {T : List (List Int)} {H A B : List Int} {f : Int}
theorem resta_l1_p {self : Int → Int → Int → Desk → Desk → Memo → Option (Int × Int × Desk × Memo)} {h n : Nat} (hH : n ≤ 9) (hA : A.length ≤ 6) (hB : B.length ≤ 6) {u : Int × Int × Int} {u2 : Desk} {x x2 x3 g3 g4 : Int}
    (hself : ∀ (y : At3) (m : Memo), y.1 = h + 1 → y.2.1 ≤ A.length → y.2.2 ≤ B.length → MapOK mayA H A B m → ∃ m', self y.1 y.2.1 y.2.2 (T, H, f, A, B) (T, H, f, A, B) m = some ((tvx mayA H A B n y).1, (tvx mayA H A B n y).2, (T, H, f, A, B), m') ∧ MapOK mayA H A B m') :
    ∀ (ms : List Mv) (m : Memo) (c : Nat) (best : Int × Int), (∀ mv ∈ ms, mv.2.1 = h + 1 ∧ mv.2.2.1 ≤ A.length ∧ mv.2.2.2 ≤ B.length) → MapOK mayA H A B m → Bst n c best → c + ms.length ≤ 13 →
      ∃ m', resta_l1 N self (ms.map movP) u u2 (T, H, f, A, B) m x x2 x3 g3 g4 best.1 best.2 = some ((T, H, f, A, B), m', x, x2, x3, g3, g4, (ms.foldl (stepT mayA h (tvx mayA H A B n)) best).1, (ms.foldl (stepT mayA h (tvx mayA H A B n)) best).2) ∧ MapOK mayA H A B m'
  | [], m, c, best, _, hm, _, _ => ⟨m, rfl, hm⟩
  | mv :: ms, m, c, best, hv, hm, hb, hc => by
    obtain ⟨hv1, hv2, hv3⟩ := hv mv (by simp)
    obtain ⟨m1, he, hm1⟩ := hself mv.2 m hv1 hv2 hv3 hm
    have ht := tvx_bnd mayA (H := H) hA hB n mv.2
    have hb' := stepT_bnd (may := mayA) (h := h) (t := tvx mayA H A B n) (m := mv) ht hb
    obtain ⟨m2, h2, hm2⟩ := resta_l1_p (u := u) (u2 := u2) (x := x) (x2 := x2) (x3 := x3) (g3 := g3) (g4 := g4) hH hA hB hself ms m1 (c + 1) _ (fun v hv' => hv v (by simp [hv'])) hm1 hb' (by simp only [List.length_cons] at hc; omega)
    refine ⟨m2, ?_, hm2⟩
    rw [List.map_cons, List.foldl_cons, ← h2]
    have hp := pow13 (n := n) (by omega)
    have hbb : (((c + 1) * 13 ^ n : Nat) : Int) ≤ 13 * 137858491849 := by
      have : (c + 1) * 13 ^ n ≤ 13 * 137858491849 := Nat.mul_le_mul (by simp only [List.length_cons] at hc; omega) hp
      omega
    have hb2 : best.2 + (tvx mayA H A B n mv.2).2 ≤ 13 * 137858491849 := by
      have e : (((c + 1) * 13 ^ n : Nat) : Int) = ((c * 13 ^ n : Nat) : Int) + ((13 ^ n : Nat) : Int) := by rw [Nat.succ_mul]; simp
      have := hb.2.2.2
      have := ht.2.2.2
      omega
    have h0 := hb.2.2.1
    have h1 := ht.2.2.1
    have hn1 := ht.1
    have hn2 := ht.2.1
    simp only [resta_l1, resta_l1_b, movP, all1_S, Option.bind_some, Bool.not_true, br_false]
    rw [he]
    have hst : stepT mayA h (tvx mayA H A B n) best mv = (if best.1 < wT mv.1.1 (tvx mayA H A B n mv.2).1 then (wT mv.1.1 (tvx mayA H A B n mv.2).1, (tvx mayA H A B n mv.2).2) else if wT mv.1.1 (tvx mayA H A B n mv.2).1 = best.1 then (best.1, best.2 + (tvx mayA H A B n mv.2).2) else best) := by
      unfold stepT; exact if_pos rfl
    rw [hst]
    simp only [Option.bind_some, wT]
    clear hst h2 he hb' hself
    generalize tvx mayA H A B n mv.2 = t at *
    obtain ⟨tw, ty⟩ := t
    obtain ⟨bw, by_⟩ := best
    simp only at *
    by_cases c1 : 0 ≤ tw
    · rw [br_dec c1]
      by_cases c2 : mv.1.1 = 3
      · refine (br_nd c2).trans ?_
        have c2' : ¬ (0 ≤ tw ∧ mv.1.1 ≠ 3) := fun h => h.2 c2
        rw [if_neg c2']
        by_cases c3 : bw < tw
        · rw [br_dec c3, if_pos c3]
        · rw [br_ndec c3, if_neg c3]
          by_cases c4 : tw = bw
          · rw [br_dec c4, if_pos c4, chk_eq (by omega)]
          · rw [br_ndec c4, if_neg c4]
      · refine (br_nnd c2).trans ?_
        have c2' : 0 ≤ tw ∧ mv.1.1 ≠ 3 := ⟨c1, c2⟩
        rw [chk_eq (by omega), if_pos c2']
        by_cases c3 : bw < tw + 1
        · rw [br_dec c3, if_pos c3]
        · rw [br_ndec c3, if_neg c3]
          by_cases c4 : tw + 1 = bw
          · rw [br_dec c4, if_pos c4, chk_eq (by omega)]
          · rw [br_ndec c4, if_neg c4]
    · have c2' : ¬ (0 ≤ tw ∧ mv.1.1 ≠ 3) := fun h => c1 h.1
      rw [br_ndec c1, if_neg c2']
      by_cases c3 : bw < tw
      · rw [br_dec c3, if_pos c3]
      · rw [br_ndec c3, if_neg c3]
        by_cases c4 : tw = bw
        · rw [br_dec c4, if_pos c4, chk_eq (by omega)]
        · rw [br_ndec c4, if_neg c4]
theorem resta_R_p (hH : H.length ≤ 10) (hA : A.length ≤ 6) (hB : B.length ≤ 6) : ∀ (fu : Nat) (x : At3) (m : Memo), H.length < fu + x.1 → x.1 ≤ H.length → x.2.1 ≤ A.length → x.2.2 ≤ B.length → MapOK mayA H A B m →
    ∃ m', resta_R N fu x.1 x.2.1 x.2.2 (T, H, f, A, B) (T, H, f, A, B) m = some ((tv mayA H A B x).1, (tv mayA H A B x).2, (T, H, f, A, B), m') ∧ MapOK mayA H A B m'
  | 0, x, m, h, h1, _, _, _ => by omega
  | fu + 1, x, m, h, hx, ha, hb, hm => by
    show ∃ m', resta_S N (resta_R N fu) x.1 x.2.1 x.2.2 (T, H, f, A, B) (T, H, f, A, B) m = _ ∧ _
    unfold resta_S
    by_cases c1 : x.1 = H.length
    · rw [br_dec (by dsimp only; omega)]
      refine ⟨m, ?_, hm⟩
      simp [tv, tvx, c1]
    · rw [br_ndec (by dsimp only; omega)]
      cases hf : m.find? (fun y => Ty.beq (.pair (.int .i64) (.pair (.int .i64) (.int .i64))) y.1 (((x.1 : Nat) : Int), ((x.2.1 : Nat) : Int), ((x.2.2 : Nat) : Int))) with
      | some e =>
        have := hm.find x hf
        refine ⟨m, ?_, hm⟩
        simp [br, this]
      | none =>
        simp only [Option.isSome_none, br_false, next_S, Option.bind_some]
        have hnx : nextR (((x.1 : Nat) : Int), ((x.2.1 : Nat) : Int), ((x.2.2 : Nat) : Int)) (T, H, f, A, B) = some ((movesL A B (H.getD x.1 0) x).map movP) := by
          unfold nextR
          rw [if_pos (by dsimp only; omega)]
          simp only [Int.toNat_natCast]
        rw [hnx]
        simp only [Option.bind_some]
        obtain ⟨n, hn⟩ : ∃ n, H.length - x.1 = n + 1 := ⟨H.length - x.1 - 1, by omega⟩
        obtain ⟨m1, h2, hm1⟩ := resta_l1_p (N := N) (T := T) (f := f) (self := resta_R N fu) (h := x.1) (n := n) (u := (((x.1 : Nat) : Int), ((x.2.1 : Nat) : Int), ((x.2.2 : Nat) : Int))) (u2 := (T, H, f, A, B)) (x := x.1) (x2 := x.2.1) (x3 := x.2.2) (g3 := 0) (g4 := 0) (by omega) hA hB (fun y m' hy hya hyb hm' => by
          have := resta_R_p hH hA hB fu y m' (by omega) (by omega) hya hyb hm'
          rw [show tv mayA H A B y = tvx mayA H A B n y by unfold tv; rw [show H.length - y.1 = n by omega]] at this
          exact this) (movesL A B (H.getD x.1 0) x) m 0 (-1, 0) (fun mv hv => movesL_ok ha hb hv) hm (by refine ⟨?_, ?_, ?_, ?_⟩ <;> simp; omega) (by have := movesL_len A B (H.getD x.1 0) x; omega)
        have e : (movesL A B (H.getD x.1 0) x).foldl (stepT mayA x.1 (tvx mayA H A B n)) (-1, 0) = tv mayA H A B x := by
          unfold tv; rw [hn, tvx]
        rw [e] at h2
        rw [h2]
        exact ⟨_, rfl, hm1.cons x⟩
theorem firsta_v (hN : 12 ≤ N) (hH : H.length ≤ 10) (hA : A.length ≤ 6) (hB : B.length ≤ 6) : firsta_S N (T, H, f, A, B) = some (tv mayA H A B (0, 0, 0)) := by
  unfold firsta_S restsa_S restsa_j1
  obtain ⟨m, h, hm⟩ := resta_R_p (N := N) (T := T) (f := f) hH hA hB N (0, 0, 0) [] (by dsimp only; omega) (by dsimp only; omega) (by dsimp only; omega) (by dsimp only; omega) (MapOK.nil _ _ _ _)
  simp only [Int.natCast_zero] at h
  rw [h]
  simp [Ty.beq]
end
end Go.Proofs.Ytfcnhnbnjdccfaa

namespace Go.Proofs.Ytfcnhnbnjdccfaa
set_option linter.all false
open Go

section
variable {N : Nat}
/-! ### Echoes that are made -/
theorem made_l2_p {words heard many u u2 u3 g x : Int} {b : List Int} {x2 : List (List Int)} (hm : 0 ≤ many ∧ many ≤ 4) (h3 : u3 ≤ 100) : ∀ (n : Nat) (u4 b2 b3 : Int) (l : List Int), (u3 - u4).toNat < n → 0 ≤ u4 → u4 ≤ u3 → Bell b b2 → InR 0 many l → (l.length : Int) = u4 →
    ∃ b2' b3' l', made_l2 N n words heard many u u2 u3 u4 b b2 b3 g x l x2 = some (words, heard, many, u, u2, b, b2', b3', g, x, l', x2) ∧ Bell b b2' ∧ InR 0 many l' ∧ (l'.length : Int) = u3
  | 0, u4, b2, b3, l, h, _, _, _, _, _ => by omega
  | n + 1, u4, b2, b3, l, h, h0, h1, hb, hl, hlen => by
    unfold made_l2
    by_cases c : u4 < u3
    · rw [br_dec c]
      obtain ⟨⟨y, b', y2, y3⟩, e, hy, hb', hbl⟩ := stroke_ok N (n := many) (b3 := b3) hb (by omega)
      dsimp only at hb' hbl hy
      subst hb'
      rw [e]
      simp only [Option.bind_some]
      rw [lim_eq (by simp; omega), chk_eq (by omega)]
      exact made_l2_p hm h3 n (u4 + 1) y2 y3 _ (by omega) (by omega) (by omega) hbl (hl.append (by omega)) (by simp; omega)
    · rw [br_ndec c]
      exact ⟨b2, b3, l, rfl, hb, hl, by omega⟩
/-- Texts of some words, of some numbers. -/
def Txt (many wo : Int) (T : List (List Int)) : Prop := ∀ t ∈ T, InR 0 many t ∧ 1 ≤ t.length ∧ (t.length : Int) ≤ wo
theorem made_l1_p {words heard many u g x : Int} {b : List Int} (hN : 110 ≤ N) (hm : 0 ≤ many ∧ many ≤ 4) (hw : 1 ≤ words ∧ words ≤ 100) (hu : u ≤ 100) : ∀ (n : Nat) (u2 b2 b3 : Int) (T : List (List Int)), (u - u2).toNat < n → 0 ≤ u2 → u2 ≤ u → Bell b b2 → Txt many words T → (T.length : Int) = u2 →
    ∃ b2' b3' T', made_l1 N n words heard many u u2 b b2 b3 g x T = some (heard, many, b, b2', b3', g, x, T') ∧ Bell b b2' ∧ Txt many words T' ∧ (T'.length : Int) = u
  | 0, u2, b2, b3, T, h, _, _, _, _, _ => by omega
  | n + 1, u2, b2, b3, T, h, h0, h1, hb, hT, hlen => by
    unfold made_l1
    by_cases c : u2 < u
    · rw [br_dec c]
      obtain ⟨⟨y, b', y2, y3⟩, e, hy, hb', hbl⟩ := strike_ok N (lo := 1) (hi := words) (b3 := b3) hb (by omega)
      dsimp only at hb' hbl hy
      subst hb'
      rw [e]
      simp only [Option.bind_some]
      obtain ⟨b2', b3', l', e2, hb2, hl, hl2⟩ := made_l2_p (N := N) (words := words) (heard := heard) (u := u) (u2 := u2) (u3 := y) (g := g) (x := x) (x2 := T) hm (by omega) N 0 y2 y3 [] (by omega) (by omega) (by omega) hbl InR.nil (by simp)
      rw [e2]
      simp only [Option.bind_some]
      rw [lim_eq (by simp; omega), chk_eq (by omega)]
      refine made_l1_p hN hm hw hu n (u2 + 1) b2' b3' _ (by omega) (by omega) (by omega) hb2 (fun t ht => ?_) (by simp; omega)
      rcases List.mem_append.1 ht with ht | ht
      · exact hT t ht
      · simp at ht; subst ht; exact ⟨hl, by omega, by omega⟩
    · rw [br_ndec c]
      exact ⟨b2, b3, T, rfl, hb, hT, by omega⟩
theorem made_l3_p {heard many g x : Int} {b : List Int} {T : List (List Int)} (hm : 0 ≤ many ∧ many ≤ 4) (hh : 0 ≤ heard ∧ heard ≤ 100) : ∀ (n : Nat) (b2 b3 : Int) (p q H : List Int), p.length + q.length < n → p.length + q.length ≤ 1000 → InR 0 many p → InR 0 many q → Bell b b2 → InR 0 many H → (H.length : Int) ≤ heard →
    ∃ b2' b3' H', made_l3 N n heard many b b2 b3 g x p q T H = some (b, b2', b3', g, x, T, H') ∧ Bell b b2' ∧ InR 0 many H' ∧ (H'.length : Int) ≤ heard
  | 0, b2, b3, p, q, H, h, _, _, _, _, _, _ => by omega
  | n + 1, b2, b3, p, q, H, h, h1, hp, hq, hb, hH, hl => by
    unfold made_l3
    rw [chk_eq (by omega)]
    by_cases c : 0 < (p.length : Int) + (q.length : Int)
    · rw [br_dec c]
      by_cases c2 : (H.length : Int) < heard
      · rw [br_dec c2]
        -- one word of p or q goes
        have rcp : ∀ (y2 y3 : Int) (H2 : List Int), 0 < p.length → Bell b y2 → InR 0 many H2 → (H2.length : Int) ≤ heard → ∃ b2' b3' H', made_l3 N n heard many b y2 y3 g x (p.drop 1) q T H2 = some (b, b2', b3', g, x, T, H') ∧ Bell b b2' ∧ InR 0 many H' ∧ (H'.length : Int) ≤ heard := fun y2 y3 H2 h0 hb2 hH2 hl2 =>
          made_l3_p hm hh n y2 y3 (p.drop 1) q H2 (by rw [List.length_drop]; omega) (by rw [List.length_drop]; omega) (hp.drop 1) hq hb2 hH2 hl2
        have rcq : ∀ (y2 y3 : Int) (H2 : List Int), 0 < q.length → Bell b y2 → InR 0 many H2 → (H2.length : Int) ≤ heard → ∃ b2' b3' H', made_l3 N n heard many b y2 y3 g x p (q.drop 1) T H2 = some (b, b2', b3', g, x, T, H') ∧ Bell b b2' ∧ InR 0 many H' ∧ (H'.length : Int) ≤ heard := fun y2 y3 H2 h0 hb2 hH2 hl2 =>
          made_l3_p hm hh n y2 y3 p (q.drop 1) H2 (by rw [List.length_drop]; omega) (by rw [List.length_drop]; omega) hp (hq.drop 1) hb2 hH2 hl2
        have g1 : ∀ l : List Int, 0 < l.length → decide ((0 : Int) ≤ 1 ∧ 1 ≤ (l.length : Int)) = true := fun l hl => by simp; omega
        have tail : ∀ (fr : List Int) (rec : Int → Int → List Int → Option (List Int × Int × Int × Int × Int × List (List Int) × List Int)) (y2 y3 : Int) (H2 : List Int), 0 < fr.length → InR 0 many fr → Bell b y2 → InR 0 many H2 → (H2.length : Int) ≤ heard →
            (∀ (y2 y3 : Int) (H2 : List Int), Bell b y2 → InR 0 many H2 → (H2.length : Int) ≤ heard → ∃ b2' b3' H', rec y2 y3 H2 = some (b, b2', b3', g, x, T, H') ∧ Bell b b2' ∧ InR 0 many H' ∧ (H'.length : Int) ≤ heard) →
            ∃ b2' b3' H', ((seldom_S N 5 b y2 y3).bind fun (x_59, y_60, y_61, y_62) => br (!x_59) (br (decide ((H2.length : Int) < heard)) (idx fr 0 fun x_63 => lim (H2.length + [x_63].length) <| grd (decide ((0 : Int) ≤ 1 ∧ 1 ≤ (fr.length : Int))) <| rec y_61 y_62 (H2 ++ [x_63])) (grd (decide ((0 : Int) ≤ 1 ∧ 1 ≤ (fr.length : Int))) <| rec y_61 y_62 H2)) (grd (decide ((0 : Int) ≤ 1 ∧ 1 ≤ (fr.length : Int))) <| rec y_61 y_62 H2)) = some (b, b2', b3', g, x, T, H') ∧ Bell b b2' ∧ InR 0 many H' ∧ (H'.length : Int) ≤ heard := by
          intro fr rec y2 y3 H2 hfr hfi hb2 hH2 hl2 hrec
          obtain ⟨⟨s, b', z2, z3⟩, e, hb', hbl⟩ := seldom_ok N (n := 5) (b3 := y3) hb2 (by omega)
          dsimp only at hb' hbl
          rw [e]
          simp only [Option.bind_some]
          cases s with
          | true => simp only [Bool.not_true, br_false]; rw [grd_eq (g1 fr hfr)]; exact hrec z2 z3 H2 hbl hH2 hl2
          | false =>
            simp only [Bool.not_false, br_true]
            by_cases c3 : (H2.length : Int) < heard
            · rw [br_dec c3, idx_get 0 (by omega) (by omega), lim_eq (by simp; omega), grd_eq (g1 fr hfr)]
              exact hrec z2 z3 _ hbl (hH2.append (hfi _ (getD_mem (by omega)))) (by simp; omega)
            · rw [br_ndec c3, grd_eq (g1 fr hfr)]; exact hrec z2 z3 H2 hbl hH2 hl2
        have j1 : ∀ (y2 y3 : Int) (H2 : List Int), Bell b y2 → InR 0 many H2 → (H2.length : Int) ≤ heard → ∃ b2' b3' H', made_j1 N (made_l3 N n) heard many b y2 y3 g x p q T H2 = some (b, b2', b3', g, x, T, H') ∧ Bell b b2' ∧ InR 0 many H' ∧ (H'.length : Int) ≤ heard := by
          intro y2 y3 H2 hb2 hH2 hl2
          unfold made_j1
          have tq : ∀ y2 y3, Bell b y2 → 0 < q.length → _ := fun y2 y3 hb2 h0 => tail q (fun y2 y3 H2 => made_l3 N n heard many b y2 y3 g x p (q.drop 1) T H2) y2 y3 H2 h0 hq hb2 hH2 hl2 (fun y2 y3 H2 => rcq y2 y3 H2 h0)
          have tp : ∀ y2 y3, Bell b y2 → 0 < p.length → _ := fun y2 y3 hb2 h0 => tail p (fun y2 y3 H2 => made_l3 N n heard many b y2 y3 g x (p.drop 1) q T H2) y2 y3 H2 h0 hp hb2 hH2 hl2 (fun y2 y3 H2 => rcp y2 y3 H2 h0)
          have bb : ∀ (k : Int), -1000 ≤ k ∧ k ≤ 1000 → ∀ y2 y3, Bell b y2 → ∃ s z2 z3, seldom_S N k b y2 y3 = some (s, b, z2, z3) ∧ Bell b z2 := fun k hk y2 y3 hb2 => by
            obtain ⟨⟨s, b', z2, z3⟩, e, hb', hbl⟩ := seldom_ok N (n := k) (b3 := y3) hb2 hk
            dsimp only at hb' hbl
            subst hb'
            exact ⟨s, z2, z3, e, hbl⟩
          by_cases d1 : (p.length : Int) = 0
          · rw [br_dec d1]
            obtain ⟨s, z2, z3, e, hbl⟩ := bb 5 (by omega) y2 y3 hb2
            have := tq y2 y3 hb2 (by omega)
            rw [e] at this ⊢
            exact this
          · rw [br_ndec d1]
            by_cases d2 : 0 < (q.length : Int)
            · rw [br_dec d2]
              obtain ⟨s, z2, z3, e, hbl⟩ := bb 2 (by omega) y2 y3 hb2
              rw [e]
              simp only [Option.bind_some]
              obtain ⟨s', z2', z3', e', hbl'⟩ := bb 5 (by omega) z2 z3 hbl
              cases s with
              | true =>
                rw [br_true]
                have := tq z2 z3 hbl (by omega)
                rw [e'] at this ⊢
                exact this
              | false =>
                rw [br_false]
                have := tp z2 z3 hbl (by omega)
                rw [e'] at this ⊢
                exact this
            · rw [br_ndec d2]
              obtain ⟨s, z2, z3, e, hbl⟩ := bb 5 (by omega) y2 y3 hb2
              have := tp y2 y3 hb2 (by omega)
              rw [e] at this ⊢
              exact this
        obtain ⟨⟨s, b', z2, z3⟩, e, hb', hbl⟩ := seldom_ok N (n := 8) (b3 := b3) hb (by omega)
        dsimp only at hb' hbl
        subst hb'
        rw [e]
        simp only [Option.bind_some]
        cases s with
        | false => rw [br_false]; exact j1 z2 z3 H hbl hH hl
        | true =>
          rw [br_true]
          obtain ⟨⟨y, b', y2, y3⟩, e, hy, hb', hbl'⟩ := stroke_ok N (n := many) (b3 := z3) hbl (by omega)
          dsimp only at hb' hbl' hy
          subst hb'
          rw [e]
          simp only [Option.bind_some]
          rw [lim_eq (by simp; omega)]
          exact j1 y2 y3 _ hbl' (hH.append (by omega)) (by simp; omega)
      · rw [br_ndec c2]; exact ⟨b2, b3, H, rfl, hb, hH, hl⟩
    · rw [br_ndec c]; exact ⟨b2, b3, H, rfl, hb, hH, hl⟩
theorem made_p (hN : 1100 ≤ N) {tx wo he : Int} (h1 : 1 ≤ tx ∧ tx ≤ 100) (h2 : 1 ≤ wo ∧ wo ≤ 100) (h3 : 0 ≤ he ∧ he ≤ 100) {b : List Int} {b2 b3 : Int} (hb : Bell b b2) :
    ∃ T H f b2' b3', made_S N tx wo he b b2 b3 = some (T, H, f, b, b2', b3') ∧ Bell b b2' ∧ Txt 4 wo T ∧ (1 ≤ (T.length : Int) ∧ (T.length : Int) ≤ tx) ∧ InR 0 4 H ∧ (H.length : Int) ≤ he ∧ 0 ≤ f ∧ f ≤ 4 := by
  unfold made_S
  obtain ⟨⟨f, b', y2, y3⟩, e, hf, hb', hbl⟩ := stroke_ok N (n := 4) (b3 := b3) hb (by omega)
  dsimp only at hb' hbl hf
  subst hb'
  rw [e]; simp only [Option.bind_some]
  obtain ⟨⟨many, b', y2, y3⟩, e, hm, hb', hbl⟩ := strike_ok N (lo := 1) (hi := 4) (b3 := y3) hbl (by omega)
  dsimp only at hb' hbl hm
  subst hb'
  rw [e]; simp only [Option.bind_some]
  obtain ⟨⟨u, b', y2, y3⟩, e, hu, hb', hbl⟩ := strike_ok N (lo := 1) (hi := tx) (b3 := y3) hbl (by omega)
  dsimp only at hb' hbl hu
  subst hb'
  rw [e]; simp only [Option.bind_some]
  obtain ⟨z2, z3, T, e, hbl, hT, hTl⟩ := made_l1_p (N := N) (words := wo) (heard := he) (many := many) (u := u) (g := 0) (x := f) (by omega) (by omega) h2 (by omega) N 0 y2 y3 [] (by omega) (by omega) (by omega) hbl (fun _ h => by cases h) (by simp)
  rw [e]; simp only [Option.bind_some]
  rw [chk_eq (by omega)]
  obtain ⟨⟨i, b', y2, y3⟩, e, hi, hb', hbl⟩ := stroke_ok N (n := (T.length : Int) - 1) (b3 := z3) hbl (by omega)
  dsimp only at hb' hbl hi
  subst hb'
  rw [e]; simp only [Option.bind_some]
  rw [rng_eq (by omega), get_get [] (by omega), chk_eq (by omega)]
  obtain ⟨⟨k, b', y2, y3⟩, e, hk, hb', hbl⟩ := stroke_ok N (n := (T.length : Int) - 1) (b3 := y3) hbl (by omega)
  dsimp only at hb' hbl hk
  subst hb'
  rw [e]; simp only [Option.bind_some]
  rw [rng_eq (by omega), get_get [] (by omega)]
  have hp := hT (T.getD i.toNat []) (getD_mem (by omega))
  have hq := hT (T.getD k.toNat []) (getD_mem (by omega))
  obtain ⟨z2, z3, H, e, hbl, hH, hHl⟩ := made_l3_p (N := N) (heard := he) (many := many) (g := 0) (x := f) (T := T) (by omega) h3 N y2 y3 (T.getD i.toNat []) (T.getD k.toNat []) [] (by omega) (by omega) hp.1 hq.1 hbl InR.nil (by simp; omega)
  rw [e]; simp only [Option.bind_some]
  exact ⟨T, H, f, z2, z3, rfl, hbl, fun t ht => ⟨(hT t ht).1.mono (by omega) (by omega), (hT t ht).2⟩, by omega, hH.mono (by omega) (by omega), hHl, by omega, by omega⟩
end
end Go.Proofs.Ytfcnhnbnjdccfaa

namespace Go.Proofs.Ytfcnhnbnjdccfaa
set_option linter.all false
open Go

section
variable {N : Nat} {T : List (List Int)} {H : List Int} {f : Int}
def leastV (H A B : List Int) : Int := (A.length : Int) + B.length + H.length - 2 * (tv mayA H A B (0, 0, 0)).1
theorem tv_bnd (may : Nat → Int × Int → Bool) {H A B : List Int} (hA : A.length ≤ 6) (hB : B.length ≤ 6) : -1 ≤ (tv may H A B (0, 0, 0)).1 ∧ (tv may H A B (0, 0, 0)).1 ≤ H.length := by
  have := tvx_bnd may (H := H) hA hB (H.length - 0) (0, 0, 0)
  exact ⟨this.1, this.2.1⟩
theorem dfaults_v {A B : List Int} {t : Int} (hH : H.length ≤ 10) (hA : A.length ≤ 6) (hB : B.length ≤ 6) (ht : -1 ≤ t ∧ t ≤ 10) : dfaults_S N (T, H, f, A, B) t = some ((A.length : Int) + B.length + H.length - 2 * t) := by
  unfold dfaults_S
  rw [chk_eq (by dsimp only; omega), chk_eq (by dsimp only; omega), chk_eq (by omega), chk_eq (by dsimp only; omega)]
theorem eleast_v (hN : 20 ≤ N) (h : Fine T H f) {a b : Int} (ha : 0 ≤ a ∧ a < T.length) (hb : 0 ≤ b ∧ b < T.length) : eleast_S N T H f a b = some (leastV H (T.getD a.toNat []) (T.getD b.toNat [])) := by
  unfold eleast_S
  have la := h.l (T.getD a.toNat []) (getD_mem (by omega))
  have lb := h.l (T.getD b.toNat []) (getD_mem (by omega))
  have hH := h.h
  rw [idx_get [] ha.1 ha.2, idx_get [] hb.1 hb.2]
  simp only [all_S, Option.bind_some]
  rw [firsta_v (by omega) h.h la.2 lb.2]
  simp only [Option.bind_some]
  have := tv_bnd mayA (H := H) la.2 lb.2
  rw [dfaults_v h.h la.2 lb.2 (by omega)]
  rfl
theorem least_v (hN : 20 ≤ N) (h : Fine T H f) {a b : Int} (ha : 0 ≤ a ∧ a < T.length) (hb : 0 ≤ b ∧ b < T.length) : least_S N T H f a b = some (leastV H (T.getD a.toNat []) (T.getD b.toNat []), 0) := by
  unfold least_S
  obtain ⟨_, _, _, e⟩ := opened_good hN (h.open ha hb)
  rw [e]
  have la := h.l (T.getD a.toNat []) (getD_mem (by omega))
  have lb := h.l (T.getD b.toNat []) (getD_mem (by omega))
  have hH := h.h
  simp only [Option.bind_some, decide_true, Bool.not_true, br_false, all_S]
  rw [firsta_v (by omega) h.h la.2 lb.2]
  simp only [Option.bind_some]
  have := tv_bnd mayA (H := H) la.2 lb.2
  rw [dfaults_v h.h la.2 lb.2 (by omega)]
  rfl
/-! ### Pairs -/
def pE (T : List (List Int)) (H : List Int) (f : Int) (i j : Nat) : Bool := decide (leastV H (T.getD i []) (T.getD j []) ≤ f)
theorem epairs_l2_p (hN : 20 ≤ N) (h : Fine T H f) {a s : Nat} {u u2 : Int} {O : List (Int × Int)} (ha : a < T.length) (hO : O.length ≤ 1000) : ∀ (n k : Nat), T.length < n + k → s ≤ k → k ≤ T.length →
    epairs_l2 N n a k u u2 T H f (O ++ rowTo (pE T H f) a s k) = some (u, u2, T, H, f, O ++ rowTo (pE T H f) a s T.length)
  | 0, k, h1, h2, h3 => by omega
  | n + 1, k, h1, h2, h3 => by
    unfold epairs_l2
    have hT := h.n
    by_cases c : k < T.length
    · rw [br_dec (by omega), eleast_v hN h (by omega) (by omega)]
      simp only [Option.bind_some, Int.toNat_natCast]
      have rl := rowTo_len (pE T H f) a s k
      have next := epairs_l2_p hN h (s := s) (u := u) (u2 := u2) ha hO n (k + 1) (by omega) (by omega) (by omega)
      rw [show ((k + 1 : Nat) : Int) = (k : Int) + 1 by omega] at next
      by_cases d : leastV H (T.getD a []) (T.getD k []) ≤ f
      · rw [br_dec d, lim_eq (by simp; omega)]
        unfold epairs_j1
        rw [chk_eq (by omega), List.append_assoc, ← rowTo_yes h2 (by simpa [pE] using d)]
        exact next
      · rw [br_ndec d]
        unfold epairs_j1
        rw [chk_eq (by omega), ← rowTo_no (p := pE T H f) (a := a) h2 (by simpa [pE] using d)]
        exact next
    · have e : k = T.length := by omega
      rw [br_ndec (by omega), e]
theorem epairs_l1_p (hN : 20 ≤ N) (h : Fine T H f) : ∀ (n k : Nat), T.length < n + k → k ≤ T.length → epairs_l1 N n (T.length : Int) k T H f (allTo (pE T H f) T.length 0 k) = some (allTo (pE T H f) T.length 0 T.length)
  | 0, k, h1, h2 => by omega
  | n + 1, k, h1, h2 => by
    unfold epairs_l1
    have hT := h.n
    by_cases c : k < T.length
    · have al := allTo_len (pE T H f) T.length 0 k
      have : k * T.length ≤ 5 * 5 := Nat.mul_le_mul (by omega) (by omega)
      rw [br_dec (by omega)]
      have e := epairs_l2_p (N := N) hN h (s := k) (u := (T.length : Int)) (u2 := (k : Int)) (O := allTo (pE T H f) T.length 0 k) c (by omega) N k (by omega) (by omega) (by omega)
      rw [rowTo_zero, List.append_nil] at e
      rw [e]
      simp only [Option.bind_some]
      rw [chk_eq (by omega)]
      have next := epairs_l1_p hN h n (k + 1) (by omega) (by omega)
      rw [allTo_succ, Nat.add_zero, show ((k + 1 : Nat) : Int) = (k : Int) + 1 by omega] at next
      exact next
    · have e : k = T.length := by omega
      rw [br_ndec (by omega), e]
theorem epairs_v (hN : 20 ≤ N) (h : Fine T H f) : epairs_S N T H f = some (allTo (pE T H f) T.length 0 T.length) := by
  unfold epairs_S
  have hT := h.n
  have := epairs_l1_p (N := N) hN h N 0 (by omega) (by omega)
  rw [show allTo (pE T H f) T.length 0 0 = [] from rfl] at this
  rw [show ((0 : Nat) : Int) = 0 from rfl] at this
  rw [this]; rfl
theorem pairs_v (hN : 20 ≤ N) (h : Fine T H f) : pairs_S N T H f = some (allTo (pE T H f) T.length 0 T.length, 0) := by
  unfold pairs_S
  rw [check_v hN, h.check]
  simp only [Option.bind_some, decide_true, Bool.not_true, br_false]
  rw [epairs_v hN h]; rfl
/-! ### Confused texts -/
def cE (T : List (List Int)) (f : Int) (i j : Nat) : Bool := decide (distI (T.getD i []) (T.getD j []) ≤ 2 * f)
theorem conf_l2_p (hN : 20 ≤ N) (h : Fine T H f) {a s : Nat} {u : List (List Int)} {u2 u3 : Int} {O : List (Int × Int)} (ha : a < T.length) (hO : O.length ≤ 1000) : ∀ (n k : Nat), T.length < n + k → s ≤ k → k ≤ T.length →
    conf_l2 N n a (T.getD a []) k u u2 u3 T H f (O ++ rowTo (cE T f) a s k) = some (u, u2, u3, T, H, f, O ++ rowTo (cE T f) a s T.length)
  | 0, k, h1, h2, h3 => by omega
  | n + 1, k, h1, h2, h3 => by
    unfold conf_l2
    have hT := h.n
    have hf := h.f
    by_cases c : k < T.length
    · have la := h.l (T.getD a []) (getD_mem ha)
      have lb := h.l (T.getD k []) (getD_mem c)
      have := lc_le_left (T.getD a []) (T.getD k [])
      have hc := (cw_spec (T.getD a []) (T.getD k [])).2.2
      rw [br_dec (by omega), idx_get [] (by omega) (by omega)]
      simp only [Int.toNat_natCast]
      rw [chk_eq (by omega), common_v hN la.2 lb.2]
      simp only [Option.bind_some]
      rw [chk_eq (by omega), chk_eq (by omega), chk_eq (by omega)]
      have rl := rowTo_len (cE T f) a s k
      have next := conf_l2_p hN h (s := s) (u := u) (u2 := u2) (u3 := u3) ha hO n (k + 1) (by omega) (by omega) (by omega)
      rw [show ((k + 1 : Nat) : Int) = (k : Int) + 1 by omega] at next
      by_cases d : distI (T.getD a []) (T.getD k []) ≤ 2 * f
      · refine (br_dec (p := distI (T.getD a []) (T.getD k []) ≤ 2 * f) d).trans ?_
        rw [lim_eq (by simp; omega)]
        unfold conf_j1
        rw [chk_eq (by omega), List.append_assoc, ← rowTo_yes h2 (by simpa [cE] using d)]
        exact next
      · refine (br_ndec (p := distI (T.getD a []) (T.getD k []) ≤ 2 * f) d).trans ?_
        unfold conf_j1
        rw [chk_eq (by omega), ← rowTo_no (p := cE T f) (a := a) h2 (by simpa [cE] using d)]
        exact next
    · have e : k = T.length := by omega
      rw [br_ndec (by omega), e]
theorem conf_l1_p (hN : 20 ≤ N) (h : Fine T H f) : ∀ (n k : Nat), T.length < n + k → k ≤ T.length → conf_l1 N n T (T.length : Int) k T H f (allTo (cE T f) T.length 1 k) = some (allTo (cE T f) T.length 1 T.length)
  | 0, k, h1, h2 => by omega
  | n + 1, k, h1, h2 => by
    unfold conf_l1
    have hT := h.n
    by_cases c : k < T.length
    · have al := allTo_len (cE T f) T.length 1 k
      have : k * T.length ≤ 5 * 5 := Nat.mul_le_mul (by omega) (by omega)
      rw [br_dec (by omega), idx_get [] (by omega) (by omega), chk_eq (by omega)]
      simp only [Int.toNat_natCast]
      have e := conf_l2_p (N := N) hN h (s := k + 1) (u := T) (u2 := (T.length : Int)) (u3 := (k : Int)) (O := allTo (cE T f) T.length 1 k) c (by omega) N (k + 1) (by omega) (by omega) (by omega)
      rw [rowTo_zero, List.append_nil, show ((k + 1 : Nat) : Int) = (k : Int) + 1 by omega] at e
      rw [e]
      simp only [Option.bind_some]
      rw [chk_eq (by omega)]
      have next := conf_l1_p hN h n (k + 1) (by omega) (by omega)
      rw [allTo_succ, show ((k + 1 : Nat) : Int) = (k : Int) + 1 by omega] at next
      exact next
    · have e : k = T.length := by omega
      rw [br_ndec (by omega), e]
theorem conf_v (hN : 20 ≤ N) (h : Fine T H f) : conf_S N T H f = some (allTo (cE T f) T.length 1 T.length, 0) := by
  unfold conf_S
  have hT := h.n
  rw [check_v hN, h.check]
  simp only [Option.bind_some, decide_true, Bool.not_true, br_false]
  have := conf_l1_p (N := N) hN h N 0 (by omega) (by omega)
  rw [show allTo (cE T f) T.length 1 0 = [] from rfl, show ((0 : Nat) : Int) = 0 from rfl] at this
  rw [this]; rfl
/-! ### Lists -/
theorem indexp_gen (N : Nat) (v v2 : Int) : ∀ (n : Nat) (s : List (Int × Int)) (u u2 : Int), indexp_l1 N n s u u2 v v2 = ixL (fun x => some (decide (v = x.1) && decide (v2 = x.2))) n s u u2
  | 0, _, _, _ => rfl
  | n + 1, s, u, u2 => by simp only [indexp_l1, ixL, indexp_gen N v v2 n, Option.bind_some]
theorem containsp_v {s : List (Int × Int)} {v v2 : Int} (hs : s.length ≤ 1000) (hN : s.length < N) : containsp_S N s v v2 = some (s.contains (v, v2)) := by
  have := ixS_any (f := fun x : Int × Int => some (decide (v = x.1) && decide (v2 = x.2))) (p := fun x => decide (v = x.1) && decide (v2 = x.2)) (s := s) (N := N) (fun _ _ => rfl) (by omega) hN
  unfold containsp_S
  have e : indexp_S N s v v2 = ixS (fun x : Int × Int => some (decide (v = x.1) && decide (v2 = x.2))) N s := by
    unfold indexp_S ixS
    rw [indexp_gen] <;> rfl
  rw [e, this]
  congr 1
  rw [Bool.eq_iff_iff, List.any_eq_true, List.contains_iff_mem]
  simp only [Bool.and_eq_true, decide_eq_true_eq]
  constructor
  · rintro ⟨⟨a, b⟩, h, rfl, rfl⟩; exact h
  · intro h; exact ⟨_, h, rfl, rfl⟩
theorem cofc_v {s o : List (Int × Int)} (hs : s.length ≤ 1000) (hN : s.length < N) (ho : o.length ≤ 1000) (hN2 : o.length < N) : cofc_S N s o = some (s.any fun x => !(o.contains x)) := by
  have := ixS_any (f := fun x : Int × Int => econf1_S N x.1 x.2 o) (p := fun x => !(o.contains x)) (s := s) (N := N) (fun x _ => by simp [econf1_S, containsp_v ho hN2]) (by omega) hN
  unfold cofc_S
  have e : ixfc_S N s o = ixS (fun x : Int × Int => econf1_S N x.1 x.2 o) N s := by
    unfold ixfc_S ixS
    rw [ixfc_gen] <;> rfl
  rw [e, this]
theorem copyi_v {l : List Int} (h : l.length ≤ 1000000) : copyi_S N l = some l := by
  unfold copyi_S
  rw [grd_eq (lmI_iff.2 (by omega))]
  simp
theorem copyr_l1_p {u : List (List Int)} (hu : u.length ≤ 1000000) (hl : ∀ x ∈ u, x.length ≤ 1000000) : ∀ (n k : Nat) (out : List (List Int)), u.length < n + k → k ≤ u.length → out.length = u.length → out.take k = u.take k → copyr_l1 N n u (u.length : Int) k out = some u
  | 0, k, out, h, h1, _, _ => by omega
  | n + 1, k, out, h, h1, h2, h3 => by
    unfold copyr_l1
    by_cases c : k < u.length
    · rw [br_dec (by omega), idx_get [] (by omega) (by omega), copyi_v (hl _ (getD_mem (by omega)))]
      simp only [Option.bind_some, Int.toNat_natCast]
      rw [rng_eq (by omega), get_get [] (by omega), chk_eq (by omega)]
      have := copyr_l1_p hu hl n (k + 1) (out.set k (u.getD k [])) (by omega) (by omega) (by simpa using h2) (by
        rw [List.take_add_one, List.take_add_one, List.take_set_of_le (by omega), h3, List.getElem?_set_self (by omega)]
        simp [List.getD, c])
      rw [show ((k + 1 : Nat) : Int) = (k : Int) + 1 by omega] at this
      exact this
    · rw [br_ndec (by omega)]
      rw [List.take_of_length_le (by omega), List.take_of_length_le (by omega)] at h3
      rw [h3]
theorem copye_v (h : T.length ≤ 1000 ∧ H.length ≤ 1000) (hl : ∀ x ∈ T, x.length ≤ 1000000) (hN : 1010 ≤ N) : copye_S N T H f = some (T, H, f) := by
  unfold copye_S copyr_S
  rw [grd_eq (lmI_iff.2 (by omega))]
  have := copyr_l1_p (N := N) (u := T) (by omega) hl N 0 (List.replicate (T.length : Int).toNat []) (by omega) (by omega) (by simp) (by simp)
  rw [show ((0 : Nat) : Int) = 0 from rfl] at this
  rw [this]
  simp only [Option.bind_some]
  rw [copyi_v (by omega)]; rfl
end
end Go.Proofs.Ytfcnhnbnjdccfaa

namespace Go.Proofs.Ytfcnhnbnjdccfaa
set_option linter.all false
open Go

section
variable {N : Nat}
theorem Fine.of_txt {T : List (List Int)} {H : List Int} {f wo : Int} (h : Txt 4 wo T) (hw : wo ≤ 6) (hn : 1 ≤ (T.length : Int) ∧ (T.length : Int) ≤ 4) (hH : InR 0 4 H) (hl : (H.length : Int) ≤ 10) (hf : 0 ≤ f ∧ f ≤ 8) : Fine T H f :=
  ⟨by omega, by omega, fun x hx => by have := h x hx; omega, fun x hx => (h x hx).1.mono (by omega) (by omega), hH.mono (by omega) (by omega), hf⟩
theorem econf_l4_p {l : List (Int × Int)} {a b u u2 u3 u4 x3 : Int} {is : Bool} {T : List (List Int)} {H q : List Int} (h4 : u4 ≤ 100) : ∀ (n : Nat) (u5 q2 q3 : Int) (w : List Int), (u4 - u5).toNat < n → 0 ≤ u5 → u5 ≤ u4 → Bell q q2 → InR 0 4 w → (w.length : Int) = u5 →
    ∃ q2' q3' w', econf_l4 N n l a b is u u2 u3 u4 u5 T H x3 q q2 q3 w = some (l, a, b, is, u, u2, u3, T, H, x3, q, q2', q3', w') ∧ Bell q q2' ∧ InR 0 4 w' ∧ (w'.length : Int) = u4
  | 0, u5, q2, q3, w, h, _, _, _, _, _ => by omega
  | n + 1, u5, q2, q3, w, h, h0, h1, hb, hl, hlen => by
    unfold econf_l4
    by_cases c : u5 < u4
    · rw [br_dec c]
      obtain ⟨⟨y, b', y2, y3⟩, e, hy, hb', hbl⟩ := stroke_ok N (n := 4) (b3 := q3) hb (by omega)
      dsimp only at hb' hbl hy
      subst hb'
      rw [e]
      simp only [Option.bind_some]
      rw [lim_eq (by simp; omega), chk_eq (by omega)]
      exact econf_l4_p h4 n (u5 + 1) y2 y3 _ (by omega) (by omega) (by omega) hbl (hl.append (by omega)) (by simp; omega)
    · rw [br_ndec c]
      exact ⟨q2, q3, w, rfl, hb, hl, by omega⟩
theorem econf_l3_p (hN : 120 ≤ N) {T : List (List Int)} {H q : List Int} {f : Int} {l : List (Int × Int)} {a b : Nat} {u u2 : Int} (h : Fine T H f) (ha : a < T.length) (hb : b < T.length) : ∀ (n : Nat) (u3 q2 q3 : Int), (3 - u3).toNat < n → 0 ≤ u3 → u3 ≤ 3 → Bell q q2 →
    ∃ q2' q3', econf_l3 N n l a b (decide (distI (T.getD a []) (T.getD b []) ≤ 2 * f)) u u2 u3 T H f q q2 q3 = some (.inr (l, a, b, u, u2, T, H, f, q, q2', q3')) ∧ Bell q q2'
  | 0, u3, q2, q3, h0, h1, h2, _ => by omega
  | n + 1, u3, q2, q3, h0, h1, h2, hq => by
    unfold econf_l3
    by_cases c : u3 < 3
    · rw [br_dec c]
      obtain ⟨⟨y, b', y2, y3⟩, e, hy, hb', hbl⟩ := strike_ok N (lo := 1) (hi := 6) (b3 := q3) hq (by omega)
      dsimp only at hb' hbl hy
      subst hb'
      rw [e]
      simp only [Option.bind_some]
      obtain ⟨z2, z3, w, e, hbl, hw, hwl⟩ := econf_l4_p (N := N) (l := l) (a := a) (b := b) (u := u) (u2 := u2) (u3 := u3) (x3 := f) (is := decide (distI (T.getD a []) (T.getD b []) ≤ 2 * f)) (T := T) (H := H) (u4 := y) (by omega) N 0 y2 y3 [] (by omega) (by omega) (by omega) hbl InR.nil (by simp)
      rw [e]
      simp only [Option.bind_some]
      rw [idx_get [] (by omega) (by omega), idx_get [] (by omega) (by omega)]
      simp only [Int.toNat_natCast]
      have la := h.l (T.getD a []) (getD_mem ha)
      have lb := h.l (T.getD b []) (getD_mem hb)
      have hY : Fine [w, T.getD a [], T.getD b []] [] 0 := by
        refine ⟨by simp, by simp, ?_, ?_, InR.nil, by omega⟩
        · intro t ht
          simp only [List.mem_cons, List.not_mem_nil, or_false] at ht
          rcases ht with rfl | rfl | rfl
          · omega
          · exact la
          · exact lb
        · intro t ht
          simp only [List.mem_cons, List.not_mem_nil, or_false] at ht
          rcases ht with rfl | rfl | rfl
          · exact hw.mono (by omega) (by omega)
          · exact h.w _ (getD_mem ha)
          · exact h.w _ (getD_mem hb)
      rw [dist_v (by omega) hY (by simp) (by simp), dist_v (by omega) hY (by simp) (by simp)]
      simp only [Option.bind_some, decide_true, Bool.not_true, br_false]
      have e1 : ([w, T.getD a [], T.getD b []] : List (List Int)).getD (0 : Int).toNat [] = w := rfl
      have e2 : ([w, T.getD a [], T.getD b []] : List (List Int)).getD (1 : Int).toNat [] = T.getD a [] := rfl
      have e3 : ([w, T.getD a [], T.getD b []] : List (List Int)).getD (2 : Int).toNat [] = T.getD b [] := rfl
      rw [e1, e2, e3]
      obtain ⟨r2, r3, er, hr⟩ := econf_l3_p hN (l := l) (u := u) (u2 := u2) h ha hb n (u3 + 1) z2 z3 (by omega) (by omega) (by omega) hbl
      have next : ∃ q2' q3', (chk (u3 + 1) <| econf_l3 N n l a b (decide (distI (T.getD a []) (T.getD b []) ≤ 2 * f)) u u2 (u3 + 1) T H f b' z2 z3) = some (.inr (l, (a : Int), (b : Int), u, u2, T, H, f, b', q2', q3')) ∧ Bell b' q2' := by
        rw [chk_eq (by omega)]; exact ⟨r2, r3, er, hr⟩
      by_cases d : distI (T.getD a []) (T.getD b []) ≤ 2 * f
      · simp only [d, decide_true, Bool.not_true, br_false] at next ⊢
        exact next
      · simp only [d, decide_false, Bool.not_false, br_true] at next ⊢
        have tri := distI_tri (T.getD a []) w (T.getD b [])
        have sym := distI_symm (T.getD a []) w
        by_cases d2 : distI w (T.getD a []) ≤ f
        · rw [br_dec d2, br_ndec (by omega)]; exact next
        · rw [br_ndec d2]; exact next
    · rw [br_ndec c]
      exact ⟨q2, q3, rfl, hq⟩
theorem econf_l2_p (hN : 120 ≤ N) {T : List (List Int)} {H q : List Int} {f : Int} {a : Nat} {u u2 : Int} (h : Fine T H f) (ha : a < T.length) : ∀ (n k : Nat) (q2 q3 : Int), T.length < n + k → a < k → k ≤ T.length → Bell q q2 →
    ∃ q2' q3', econf_l2 N n (allTo (cE T f) T.length 1 T.length) a k u u2 T H f q q2 q3 = some (.inr (.inr (allTo (cE T f) T.length 1 T.length, u, u2, T, H, f, q, q2', q3'))) ∧ Bell q q2'
  | 0, k, q2, q3, h0, h1, h2, _ => by omega
  | n + 1, k, q2, q3, h0, h1, h2, hq => by
    unfold econf_l2
    have hT := h.n
    have hf := h.f
    by_cases c : k < T.length
    · rw [br_dec (by omega), dist_v (by omega) h (by omega) (by omega)]
      simp only [Option.bind_some, Int.toNat_natCast]
      have al := allTo_len (cE T f) T.length 1 T.length
      have : T.length * T.length ≤ 5 * 5 := Nat.mul_le_mul (by omega) (by omega)
      rw [containsp_v (by omega) (by omega), allTo_contains ha (by omega) c]
      simp only [Option.bind_some, decide_true, Bool.not_true, br_false, cE]
      rw [chk_eq (by omega)]
      simp only [beq_self_eq_true, Bool.not_true, br_false]
      obtain ⟨r2, r3, er, hr⟩ := econf_l3_p hN (l := allTo (cE T f) T.length 1 T.length) (u := u) (u2 := u2) h ha c N 0 q2 q3 (by omega) (by omega) (by omega) hq
      rw [er]
      simp only [Option.bind_some]
      rw [chk_eq (by omega)]
      have := econf_l2_p hN (u := u) (u2 := u2) h ha n (k + 1) r2 r3 (by omega) (by omega) (by omega) hr
      rw [show ((k + 1 : Nat) : Int) = (k : Int) + 1 by omega] at this
      exact this
    · rw [br_ndec (by omega)]
      exact ⟨q2, q3, rfl, hq⟩
theorem econf_l1_p (hN : 120 ≤ N) {T : List (List Int)} {H q : List Int} {f : Int} (h : Fine T H f) : ∀ (n k : Nat) (q2 q3 : Int), T.length < n + k → k ≤ T.length → Bell q q2 →
    econf_l1 N n (allTo (cE T f) T.length 1 T.length) (T.length : Int) k T H f q q2 q3 = some (.inr (.inr (allTo (cE T f) T.length 1 T.length, T, H, f)))
  | 0, k, q2, q3, h0, h1, _ => by omega
  | n + 1, k, q2, q3, h0, h1, hq => by
    unfold econf_l1
    have hT := h.n
    by_cases c : k < T.length
    · rw [br_dec (by omega), chk_eq (by omega)]
      obtain ⟨r2, r3, er, hr⟩ := econf_l2_p hN (u := (T.length : Int)) (u2 := (k : Int)) h c N (k + 1) q2 q3 (by omega) (by omega) (by omega) hq
      rw [show ((k + 1 : Nat) : Int) = (k : Int) + 1 by omega] at er
      rw [er]
      simp only [Option.bind_some]
      rw [chk_eq (by omega)]
      have := econf_l1_p hN h n (k + 1) r2 r3 (by omega) (by omega) hr
      rw [show ((k + 1 : Nat) : Int) = (k : Int) + 1 by omega] at this
      exact this
    · rw [br_ndec (by omega)]
theorem awake_v : awake_S 1100 = some true := by kernel_rfl
theorem econf_true {ns ts : List Int} (h1 : ns.length ≤ 9223372036854775807) (h2 : ts.length ≤ 9223372036854775807) : econf_S 1100 ns ts = some true := by
  unfold econf_S hang_S
  simp only [Option.bind_some]
  obtain ⟨T, H, f, b2, b3, e, hb, hT, hn, hH, hl, hf⟩ := made_p (N := 1100) (by omega) (tx := 4) (wo := 5) (he := 7) (by omega) (by omega) (by omega) (b := ns) (b2 := 0) (b3 := 0) ⟨h1, by omega, by omega⟩
  rw [e]
  simp only [Option.bind_some]
  have hF : Fine T H f := Fine.of_txt hT (by omega) hn hH (by omega) (by omega)
  have hF1 : Fine T H (f + 1) := Fine.of_txt hT (by omega) hn hH (by omega) (by omega)
  have al := fun g d => allTo_len g T.length d T.length
  have : T.length * T.length ≤ 4 * 4 := Nat.mul_le_mul (by omega) (by omega)
  rw [conf_v (by omega) hF]
  simp only [Option.bind_some, decide_true, Bool.not_true, br_false]
  have l1 := econf_l1_p (N := 1100) (by omega) (q := ts) hF 1100 0 0 0 (by omega) (by omega) ⟨h2, by omega, by omega⟩
  rw [show ((0 : Nat) : Int) = 0 from rfl] at l1
  rw [l1]
  simp only [Option.bind_some]
  rw [copye_v (by omega) (fun x hx => by have := hF.l x hx; omega) (by omega)]
  simp only [Option.bind_some]
  rw [chk_eq (by omega), conf_v (by omega) hF1, pairs_v (by omega) hF, pairs_v (by omega) hF1]
  simp only [Option.bind_some, decide_true, br_true]
  have hmono := allTo_mono (p := cE T f) (q := cE T (f + 1)) (fun i j hp => by simp only [cE, decide_eq_true_eq] at hp ⊢; omega) T.length 1 T.length
  rw [br_dec (by omega)]
  have a1 := al (pE T H f) 0
  have a2 := al (pE T H (f + 1)) 0
  rw [cofc_v (by omega) (by omega) (by omega) (by omega)]
  have hsub : (allTo (pE T H f) T.length 0 T.length).any (fun x => !((allTo (pE T H (f + 1)) T.length 0 T.length).contains x)) = false := by
    rw [List.any_eq_false]
    intro x hx
    have := allTo_sub (p := pE T H f) (q := pE T H (f + 1)) (fun i j hp => by simp only [pE, decide_eq_true_eq] at hp ⊢; omega) T.length 0 T.length x hx
    simp [this]
  simp only [Option.bind_some]
  rw [hsub, Bool.not_false, br_true, awake_v]
  rfl
end
end Go.Proofs.Ytfcnhnbnjdccfaa

namespace Go.Proofs.Ytfcnhnbnjdccfaa
set_option linter.all false
open Go

/-! ### The greatest of several -/
theorem stepT_fst (h : Nat) (t : At3 → Int × Int) (best : Int × Int) (m : Mv) : (stepT mayA h t best m).1 = max best.1 (wT m.1.1 (t m.2).1) := by
  have : stepT mayA h t best m = (if best.1 < wT m.1.1 (t m.2).1 then (wT m.1.1 (t m.2).1, (t m.2).2) else if wT m.1.1 (t m.2).1 = best.1 then (best.1, best.2 + (t m.2).2) else best) := by unfold stepT; exact if_pos rfl
  rw [this]
  split
  · first | omega | (dsimp only; omega)
  · split <;> first | omega | (dsimp only; omega)
theorem fold_ge {h : Nat} {t : At3 → Int × Int} : ∀ (ms : List Mv) (best : Int × Int), best.1 ≤ (ms.foldl (stepT mayA h t) best).1 ∧ ∀ m ∈ ms, wT m.1.1 (t m.2).1 ≤ (ms.foldl (stepT mayA h t) best).1
  | [], best => ⟨Int.le_refl _, fun _ h => by cases h⟩
  | m :: ms, best => by
    obtain ⟨h1, h2⟩ := fold_ge (h := h) (t := t) ms (stepT mayA h t best m)
    rw [stepT_fst] at h1
    rw [List.foldl_cons]
    refine ⟨by omega, fun m' hm => ?_⟩
    rcases List.mem_cons.1 hm with rfl | hm
    · omega
    · exact h2 m' hm
theorem fold_le {h : Nat} {t : At3 → Int × Int} {c : Int} : ∀ (ms : List Mv) (best : Int × Int), best.1 ≤ c → (∀ m ∈ ms, wT m.1.1 (t m.2).1 ≤ c) → (ms.foldl (stepT mayA h t) best).1 ≤ c
  | [], best, hb, _ => hb
  | m :: ms, best, hb, hm => by
    rw [List.foldl_cons]
    exact fold_le ms _ (by rw [stepT_fst]; have := hm m (by simp); omega) (fun m' h' => hm m' (by simp [h']))
/-- The order of both texts doesn't matter. -/
theorem tvx_sym (H A B : List Int) : ∀ (n h i k : Nat), (tvx mayA H A B n (h, i, k)).1 = (tvx mayA H B A n (h, k, i)).1
  | 0, _, _, _ => rfl
  | n + 1, h, i, k => by
    have key : ∀ (A B : List Int) (i k : Nat), (∀ h i k, (tvx mayA H A B n (h, i, k)).1 = (tvx mayA H B A n (h, k, i)).1) → (tvx mayA H A B (n + 1) (h, i, k)).1 ≤ (tvx mayA H B A (n + 1) (h, k, i)).1 := by
      intro A B i k ih
      rw [tvx, tvx]
      obtain ⟨g1, g2⟩ := fold_ge (h := h) (t := tvx mayA H B A n) (movesL B A (H.getD h 0) (h, k, i)) (-1, 0)
      refine fold_le _ _ g1 (fun m hm => ?_)
      simp only [movesL, List.mem_cons, List.mem_append, List.mem_map] at hm
      rcases hm with rfl | ⟨j, hj, rfl⟩ | ⟨j, hj, rfl⟩
      · have := g2 ((3, 0), (h + 1, k, i)) (by simp [movesL])
        rw [ih]; exact this
      · have := g2 ((2, (j : Int)), (h + 1, k, j + 1)) (by simp only [movesL, List.mem_cons, List.mem_append, List.mem_map]; exact .inr (.inr ⟨j, hj, rfl⟩))
        dsimp only at this ⊢
        rw [ih]
        have e : ∀ w : Int, wT 1 w = wT 2 w := fun w => by simp [wT]
        rw [e]; exact this
      · have := g2 ((1, (j : Int)), (h + 1, j + 1, i)) (by simp only [movesL, List.mem_cons, List.mem_append, List.mem_map]; exact .inr (.inl ⟨j, hj, rfl⟩))
        dsimp only at this ⊢
        rw [ih]
        have e : ∀ w : Int, wT 2 w = wT 1 w := fun w => by simp [wT]
        rw [e]; exact this
    have a := key A B i k (fun h i k => tvx_sym H A B n h i k)
    have b := key B A k i (fun h i k => (tvx_sym H A B n h k i).symm)
    omega
theorem leastV_sym (H A B : List Int) : leastV H A B = leastV H B A := by
  have e := tvx_sym H A B H.length 0 0 0
  have e1 : (tv mayA H A B (0, 0, 0)).1 = (tvx mayA H A B H.length (0, 0, 0)).1 := rfl
  have e2 : (tv mayA H B A (0, 0, 0)).1 = (tvx mayA H B A H.length (0, 0, 0)).1 := rfl
  unfold leastV
  omega
/-! ### All words are told -/
inductive Told (H A B : List Int) : Nat → Nat → Nat → Prop
  | done (i k : Nat) : Told H A B H.length i k
  | ta {h i k j : Nat} (hh : h < H.length) (hij : i ≤ j) (hj : j < A.length) (e : A.getD j 0 = H.getD h 0) (t : Told H A B (h + 1) (j + 1) k) : Told H A B h i k
  | tb {h i k j : Nat} (hh : h < H.length) (hij : k ≤ j) (hj : j < B.length) (e : B.getD j 0 = H.getD h 0) (t : Told H A B (h + 1) i (j + 1)) : Told H A B h i k
theorem Told.mono {H A B : List Int} {h i k : Nat} (t : Told H A B h i k) : ∀ (i' k' : Nat), i' ≤ i → k' ≤ k → Told H A B h i' k' := by
  induction t with
  | done i k => intro i' k' _ _; exact .done i' k'
  | ta hh hij hj e _ ih => intro i' k' h1 h2; exact .ta hh (Nat.le_trans h1 hij) hj e (ih _ _ (Nat.le_refl _) h2)
  | tb hh hij hj e _ ih => intro i' k' h1 h2; exact .tb hh (Nat.le_trans h2 hij) hj e (ih _ _ h1 (Nat.le_refl _))
theorem Told.tv {H A B : List Int} {h i k : Nat} (t : Told H A B h i k) : ∀ n, H.length = h + n → (n : Int) ≤ (tvx mayA H A B n (h, i, k)).1 := by
  induction t with
  | done i k => intro n hn; have : n = 0 := by omega
                subst this; simp [tvx]
  | @ta h i k j hh hij hj e t ih =>
    intro n hn
    obtain ⟨n, rfl⟩ : ∃ m, n = m + 1 := ⟨n - 1, by omega⟩
    have := ih n (by omega)
    have g := (fold_ge (h := h) (t := tvx mayA H A B n) (movesL A B (H.getD h 0) (h, i, k)) (-1, 0)).2 ((1, (j : Int)), (h + 1, j + 1, k)) (by
      simp only [movesL, List.mem_cons, List.mem_append, List.mem_map]
      exact .inr (.inl ⟨j, mem_standsL.2 ⟨hij, hj, e⟩, rfl⟩))
    rw [tvx]
    dsimp only
    dsimp only [wT] at g
    rw [if_pos ⟨by omega, by decide⟩] at g
    omega
  | @tb h i k j hh hij hj e t ih =>
    intro n hn
    obtain ⟨n, rfl⟩ : ∃ m, n = m + 1 := ⟨n - 1, by omega⟩
    have := ih n (by omega)
    have g := (fold_ge (h := h) (t := tvx mayA H A B n) (movesL A B (H.getD h 0) (h, i, k)) (-1, 0)).2 ((2, (j : Int)), (h + 1, i, j + 1)) (by
      simp only [movesL, List.mem_cons, List.mem_append, List.mem_map]
      exact .inr (.inr ⟨j, mem_standsL.2 ⟨hij, hj, e⟩, rfl⟩))
    rw [tvx]
    dsimp only
    dsimp only [wT] at g
    rw [if_pos ⟨by omega, by decide⟩] at g
    omega
/-- Two texts run into each other, with words lost. -/
inductive Shuf : List Int → List Int → List Int → Prop
  | nil : Shuf [] [] []
  | skipA {S a b : List Int} (w : Int) (s : Shuf S a b) : Shuf S (w :: a) b
  | skipB {S a b : List Int} (w : Int) (s : Shuf S a b) : Shuf S a (w :: b)
  | takeA {S a b : List Int} (w : Int) (s : Shuf S a b) : Shuf (w :: S) (w :: a) b
  | takeB {S a b : List Int} (w : Int) (s : Shuf S a b) : Shuf (w :: S) a (w :: b)
theorem drop_step {l : List Int} {i : Nat} {w : Int} {r : List Int} (h : l.drop i = w :: r) : i < l.length ∧ l.getD i 0 = w ∧ l.drop (i + 1) = r := by
  have hi : i < l.length := by
    rcases Nat.lt_or_ge i l.length with h1 | h1
    · exact h1
    · rw [List.drop_of_length_le h1] at h; cases h
  rw [drop_cons hi] at h
  simp only [List.cons.injEq] at h
  exact ⟨hi, h.1, h.2⟩
theorem Shuf.told {H A B S a b : List Int} (s : Shuf S a b) : ∀ (h i k : Nat), h ≤ H.length → H.drop h = S → A.drop i = a → B.drop k = b → Told H A B h i k := by
  induction s with
  | nil =>
    intro h i k hh hS _ _
    have : h = H.length := by
      have := congrArg List.length hS
      rw [List.length_drop] at this
      simp at this; omega
    subst this; exact .done i k
  | skipA w s ih => intro h i k hh hS ha hb; obtain ⟨_, _, h3⟩ := drop_step ha; exact (ih h (i + 1) k hh hS h3 hb).mono _ _ (by omega) (Nat.le_refl _)
  | skipB w s ih => intro h i k hh hS ha hb; obtain ⟨_, _, h3⟩ := drop_step hb; exact (ih h i (k + 1) hh hS ha h3).mono _ _ (Nat.le_refl _) (by omega)
  | takeA w s ih =>
    intro h i k hh hS ha hb
    obtain ⟨h1, h2, h3⟩ := drop_step ha
    obtain ⟨g1, g2, g3⟩ := drop_step hS
    exact .ta g1 (Nat.le_refl _) h1 (by rw [h2, g2]) (ih (h + 1) (i + 1) k (by omega) g3 h3 hb)
  | takeB w s ih =>
    intro h i k hh hS ha hb
    obtain ⟨h1, h2, h3⟩ := drop_step hb
    obtain ⟨g1, g2, g3⟩ := drop_step hS
    exact .tb g1 (Nat.le_refl _) h1 (by rw [h2, g2]) (ih (h + 1) i (k + 1) (by omega) g3 ha h3)
theorem Shuf.len {S a b : List Int} (s : Shuf S a b) : S.length ≤ a.length + b.length := by
  induction s <;> simp only [List.length_cons, List.length_nil] at * <;> omega
theorem Shuf.least {S a b : List Int} (s : Shuf S a b) (ha : a.length ≤ 6) (hb : b.length ≤ 6) : leastV S a b = (a.length : Int) + b.length - S.length := by
  have t := (s.told (H := S) (A := a) (B := b) 0 0 0 (Nat.zero_le _) rfl rfl rfl).tv S.length (by omega)
  have := tv_bnd mayA (H := S) ha hb
  unfold leastV
  have e : (tvx mayA S a b S.length (0, 0, 0)).1 = (Proofs.Ytfcnhnbnjdccfaa.tv mayA S a b (0, 0, 0)).1 := rfl
  omega
end Go.Proofs.Ytfcnhnbnjdccfaa

namespace Go.Proofs.Ytfcnhnbnjdccfaa
set_option linter.all false
open Go

section
variable {N : Nat} {T : List (List Int)} {H : List Int} {f : Int}
theorem indexi_gen (N : Nat) (v : Int) : ∀ (n : Nat) (s : List Int) (u u2 : Int), indexi_l1 N n s v u u2 = ixL (fun x => some (decide (v = x))) n s u u2
  | 0, _, _, _ => rfl
  | n + 1, s, u, u2 => by simp only [indexi_l1, ixL, indexi_gen N v n, Option.bind_some]
theorem containsi_v {s : List Int} {v : Int} (hs : s.length ≤ 1000) (hN : s.length < N) : containsi_S N s v = some (s.contains v) := by
  have := ixS_any (f := fun x : Int => some (decide (v = x))) (p := fun x => decide (v = x)) (s := s) (N := N) (fun _ _ => rfl) (by omega) hN
  unfold containsi_S
  have e : indexi_S N s v = ixS (fun x : Int => some (decide (v = x))) N s := by
    unfold indexi_S ixS
    rw [indexi_gen] <;> rfl
  rw [e, this]
  congr 1
  rw [Bool.eq_iff_iff, List.any_eq_true, List.contains_iff_mem]
  simp only [decide_eq_true_eq]
  constructor
  · rintro ⟨a, h, rfl⟩; exact h
  · intro h; exact ⟨_, h, rfl⟩
/-- The texts that can be with one. -/
def withL (T : List (List Int)) (H : List Int) (f : Int) (a k : Nat) : List Int := ((List.range k).filter (pE T H f a)).map fun (x : Nat) => (x : Int)
theorem withL_len (T : List (List Int)) (H : List Int) (f : Int) (a k : Nat) : (withL T H f a k).length ≤ k := by
  unfold withL
  have := List.length_filter_le (pE T H f a) (List.range k)
  simp at this ⊢; omega
theorem mem_withL {a k : Nat} {o : Nat} : (o : Int) ∈ withL T H f a k ↔ o < k ∧ pE T H f a o = true := by
  unfold withL
  simp only [List.mem_map, List.mem_filter, List.mem_range]
  constructor
  · rintro ⟨x, ⟨h1, h2⟩, h3⟩
    have : x = o := by omega
    subst this; exact ⟨h1, h2⟩
  · rintro ⟨h1, h2⟩; exact ⟨o, ⟨h1, h2⟩, rfl⟩
theorem withL_succ (a k : Nat) : withL T H f a (k + 1) = withL T H f a k ++ (if pE T H f a k = true then [(k : Int)] else []) := by
  unfold withL
  rw [List.range_succ, List.filter_append, List.map_append]
  by_cases hp : pE T H f a k = true <;> simp [hp]
theorem with_l1_p (hN : 20 ≤ N) (h : Fine T H f) {a : Nat} (ha : a < T.length) : ∀ (n k : Nat), T.length < n + k → k ≤ T.length → with__l1 N n a (T.length : Int) k T H f (withL T H f a k) = some (withL T H f a T.length)
  | 0, k, h1, h2 => by omega
  | n + 1, k, h1, h2 => by
    unfold with__l1
    have hT := h.n
    by_cases c : k < T.length
    · rw [br_dec (by omega), eleast_v hN h (by omega) (by omega)]
      simp only [Option.bind_some, Int.toNat_natCast]
      have next := with_l1_p hN h ha n (k + 1) (by omega) (by omega)
      rw [show ((k + 1 : Nat) : Int) = (k : Int) + 1 by omega, withL_succ] at next
      have wl := withL_len T H f a k
      by_cases d : leastV H (T.getD a []) (T.getD k []) ≤ f
      · rw [br_dec d, lim_eq (by simp; omega)]
        unfold with__j1
        rw [if_pos (by simpa [pE] using d)] at next
        rw [chk_eq (by omega)]
        exact next
      · rw [br_ndec d]
        unfold with__j1
        rw [if_neg (by simpa [pE] using d), List.append_nil] at next
        rw [chk_eq (by omega)]
        exact next
    · have e : k = T.length := by omega
      rw [br_ndec (by omega), e]
theorem with_v (hN : 20 ≤ N) (h : Fine T H f) {a : Int} (ha : 0 ≤ a ∧ a < T.length) : with__S N T H f a = some (withL T H f a.toNat T.length, 0) := by
  unfold with__S
  have hT := h.n
  obtain ⟨k, rfl⟩ : ∃ k : Nat, a = k := ⟨a.toNat, by omega⟩
  rw [check_v hN, h.check]
  simp only [Option.bind_some, decide_true, Bool.not_true, br_false]
  rw [text_v N H f _ (by omega)]
  simp only [Option.bind_some, ha, and_self, decide_true, Bool.not_true, br_false, Int.toNat_natCast]
  have := with_l1_p (N := N) hN h (a := k) (by omega) N 0 (by omega) (by omega)
  rw [show withL T H f k 0 = [] from rfl, show ((0 : Nat) : Int) = 0 from rfl] at this
  rw [this]; rfl

theorem eafter_l1_p {often x2 p p2 : Int} {q : List Int} (ho : 2 ≤ often ∧ often ≤ 9) : ∀ (n : Nat) (lost q2 q3 : Int) (a b O : List Int), a.length + b.length < n → a.length + b.length ≤ 100 → 0 ≤ lost ∧ lost + a.length + b.length ≤ 1000 → O.length + a.length + b.length ≤ 1000 → Bell q q2 → InR 0 9 a → InR 0 9 b →
    ∃ S l', eafter_l1 N n lost often T x2 q q2 q3 p p2 a b O = some (l', T, x2, p, p2, O ++ S) ∧ Shuf S a b ∧ InR 0 9 S ∧ l' = lost + a.length + b.length - S.length
  | 0, lost, q2, q3, a, b, O, h, _, _, _, _, _, _ => by omega
  | n + 1, lost, q2, q3, a, b, O, h, h1, h2, h3, hq, hia, hib => by
    unfold eafter_l1
    rw [chk_eq (by omega)]
    have bb : ∀ (k : Int), -1000 ≤ k ∧ k ≤ 1000 → ∀ y2 y3, Bell q y2 → ∃ s z2 z3, seldom_S N k q y2 y3 = some (s, q, z2, z3) ∧ Bell q z2 := fun k hk y2 y3 hb2 => by
      obtain ⟨⟨s, b', z2, z3⟩, e, hb', hbl⟩ := seldom_ok N (n := k) (b3 := y3) hb2 hk
      dsimp only at hb' hbl
      subst hb'
      exact ⟨s, z2, z3, e, hbl⟩
    have g1 : ∀ l : List Int, 0 < l.length → decide ((0 : Int) ≤ 1 ∧ 1 ≤ (l.length : Int)) = true := fun l hl => by simp; omega
    by_cases c : 0 < (a.length : Int) + (b.length : Int)
    · rw [br_dec c]
      -- one word of b, or of a, goes
      have rb : ∀ y2 y3, Bell q y2 → 0 < b.length → ∃ S l', ((seldom_S N often q y2 y3).bind fun (x_27, y_28, y_29, y_30) => br x_27 (chk (lost + 1) <| grd (decide ((0 : Int) ≤ 1 ∧ 1 ≤ (b.length : Int))) <| eafter_l1 N n (lost + 1) often T x2 y_28 y_29 y_30 p p2 a (b.drop 1) O)
          (idx b 0 fun x_31 => lim (O.length + [x_31].length) <| grd (decide ((0 : Int) ≤ 1 ∧ 1 ≤ (b.length : Int))) <| eafter_l1 N n lost often T x2 y_28 y_29 y_30 p p2 a (b.drop 1) (O ++ [x_31]))) = some (l', T, x2, p, p2, O ++ S) ∧ Shuf S a b ∧ InR 0 9 S ∧ l' = lost + a.length + b.length - S.length := by
        intro y2 y3 hb2 hl
        obtain ⟨s, z2, z3, e, hbl⟩ := bb often (by omega) y2 y3 hb2
        rw [e]
        simp only [Option.bind_some]
        cases b with
        | nil => simp at hl
        | cons w b =>
          simp only [List.length_cons] at *
          cases s with
          | true =>
            rw [br_true, chk_eq (by omega), grd_eq (by simp only [decide_eq_true_eq]; omega)]
            obtain ⟨S, l', e2, s2, hS, hl'⟩ := eafter_l1_p ho n (lost + 1) z2 z3 a b O (by omega) (by omega) (by omega) (by omega) hbl hia (fun x hx => hib x (by simp [hx]))
            refine ⟨S, l', e2, .skipB w s2, hS, by omega⟩
          | false =>
            rw [br_false, idx_get 0 (by omega) (by simp only [List.length_cons]; omega), lim_eq (by simp only [List.length_cons, List.length_nil]; omega), grd_eq (by simp only [decide_eq_true_eq]; omega)]
            obtain ⟨S, l', e2, s2, hS, hl'⟩ := eafter_l1_p ho n lost z2 z3 a b (O ++ [w]) (by omega) (by omega) (by omega) (by simp only [List.length_append, List.length_cons, List.length_nil]; omega) hbl hia (fun x hx => hib x (by simp [hx]))
            refine ⟨w :: S, l', by rw [List.append_assoc] at e2; exact e2, .takeB w s2, fun x hx => ?_, by simp only [List.length_cons]; omega⟩
            rcases List.mem_cons.1 hx with rfl | hx
            · exact hib _ (by simp)
            · exact hS x hx
      have ra : ∀ y2 y3, Bell q y2 → 0 < a.length → ∃ S l', ((seldom_S N often q y2 y3).bind fun (x_27, y_28, y_29, y_30) => br x_27 (chk (lost + 1) <| grd (decide ((0 : Int) ≤ 1 ∧ 1 ≤ (a.length : Int))) <| eafter_l1 N n (lost + 1) often T x2 y_28 y_29 y_30 p p2 (a.drop 1) b O)
          (idx a 0 fun x_31 => lim (O.length + [x_31].length) <| grd (decide ((0 : Int) ≤ 1 ∧ 1 ≤ (a.length : Int))) <| eafter_l1 N n lost often T x2 y_28 y_29 y_30 p p2 (a.drop 1) b (O ++ [x_31]))) = some (l', T, x2, p, p2, O ++ S) ∧ Shuf S a b ∧ InR 0 9 S ∧ l' = lost + a.length + b.length - S.length := by
        intro y2 y3 hb2 hl
        obtain ⟨s, z2, z3, e, hbl⟩ := bb often (by omega) y2 y3 hb2
        rw [e]
        simp only [Option.bind_some]
        cases a with
        | nil => simp at hl
        | cons w a =>
          simp only [List.length_cons] at *
          cases s with
          | true =>
            rw [br_true, chk_eq (by omega), grd_eq (by simp only [decide_eq_true_eq]; omega)]
            obtain ⟨S, l', e2, s2, hS, hl'⟩ := eafter_l1_p ho n (lost + 1) z2 z3 a b O (by omega) (by omega) (by omega) (by omega) hbl (fun x hx => hia x (by simp [hx])) hib
            refine ⟨S, l', e2, .skipA w s2, hS, by omega⟩
          | false =>
            rw [br_false, idx_get 0 (by omega) (by simp only [List.length_cons]; omega), lim_eq (by simp only [List.length_cons, List.length_nil]; omega), grd_eq (by simp only [decide_eq_true_eq]; omega)]
            obtain ⟨S, l', e2, s2, hS, hl'⟩ := eafter_l1_p ho n lost z2 z3 a b (O ++ [w]) (by omega) (by omega) (by omega) (by simp only [List.length_append, List.length_cons, List.length_nil]; omega) hbl (fun x hx => hia x (by simp [hx])) hib
            refine ⟨w :: S, l', by rw [List.append_assoc] at e2; exact e2, .takeA w s2, fun x hx => ?_, by simp only [List.length_cons]; omega⟩
            rcases List.mem_cons.1 hx with rfl | hx
            · exact hia _ (by simp)
            · exact hS x hx
      by_cases d1 : (a.length : Int) = 0
      · rw [br_dec d1]
        exact rb q2 q3 hq (by omega)
      · rw [br_ndec d1]
        by_cases d2 : 0 < (b.length : Int)
        · rw [br_dec d2]
          obtain ⟨s, z2, z3, e, hbl⟩ := bb 2 (by omega) q2 q3 hq
          rw [e]
          simp only [Option.bind_some]
          cases s with
          | true => rw [br_true]; exact rb z2 z3 hbl (by omega)
          | false => rw [br_false]; exact ra z2 z3 hbl (by omega)
        · rw [br_ndec d2]
          exact ra q2 q3 hq (by omega)
    · rw [br_ndec c]
      have ha : a = [] := List.eq_nil_of_length_eq_zero (by omega)
      have hb : b = [] := List.eq_nil_of_length_eq_zero (by omega)
      subst ha hb
      exact ⟨[], lost, by simp, .nil, InR.nil, by simp⟩
theorem eafter_true {ns ts : List Int} (h1 : ns.length ≤ 9223372036854775807) (h2 : ts.length ≤ 9223372036854775807) : eafter_S 1100 ns ts = some true := by
  unfold eafter_S hang_S
  simp only [Option.bind_some]
  obtain ⟨T, H, f, b2, b3, e, hb, hT, hn, hH, hl, hf⟩ := made_p (N := 1100) (by omega) (tx := 4) (wo := 5) (he := 10) (by omega) (by omega) (by omega) (b := ns) (b2 := 0) (b3 := 0) ⟨h1, by omega, by omega⟩
  rw [e]
  simp only [Option.bind_some]
  have hq : Bell ts 0 := ⟨h2, by omega, by omega⟩
  rw [chk_eq (by omega)]
  obtain ⟨⟨p, b', y2, y3⟩, e, hp, hb', hbl⟩ := stroke_ok 1100 (n := (T.length : Int) - 1) (b3 := 0) hq (by omega)
  dsimp only at hb' hbl hp
  subst hb'
  rw [e]; simp only [Option.bind_some]
  rw [chk_eq (by omega)]
  obtain ⟨⟨p2, b', y2, y3⟩, e, hp2, hb', hbl⟩ := stroke_ok 1100 (n := (T.length : Int) - 1) (b3 := y3) hbl (by omega)
  dsimp only at hb' hbl hp2
  subst hb'
  rw [e]; simp only [Option.bind_some]
  rw [idx_get [] (by omega) (by omega), idx_get [] (by omega) (by omega)]
  obtain ⟨⟨often, b', y2, y3⟩, e, ho, hb', hbl⟩ := strike_ok 1100 (lo := 2) (hi := 9) (b3 := y3) hbl (by omega)
  dsimp only at hb' hbl ho
  subst hb'
  rw [e]; simp only [Option.bind_some]
  have tA := hT (T.getD p.toNat []) (getD_mem (by omega))
  have tB := hT (T.getD p2.toNat []) (getD_mem (by omega))
  obtain ⟨S, lost, e, hs, hS, hlost⟩ := eafter_l1_p (N := 1100) (T := T) (often := often) (x2 := f) (p := p) (p2 := p2) (by omega) 1100 0 y2 y3 (T.getD p.toNat []) (T.getD p2.toNat []) [] (by omega) (by omega) (by omega) (by simp only [List.length_nil]; omega) hbl (tA.1.mono (by omega) (by omega)) (tB.1.mono (by omega) (by omega))
  rw [e]; simp only [Option.bind_some, List.nil_append]
  have hsl := hs.len
  have hF : Fine T S f := ⟨by omega, by omega, fun x hx => by have := hT x hx; omega, fun x hx => (hT x hx).1.mono (by omega) (by omega), hS, by omega⟩
  have hF2 : Fine T S (min 8 lost) := ⟨by omega, by omega, fun x hx => by have := hT x hx; omega, fun x hx => (hT x hx).1.mono (by omega) (by omega), hS, by omega⟩
  have hlv := hs.least (by omega) (by omega)
  rw [least_v (by omega) hF (by omega) (by omega), hlv]
  simp only [Option.bind_some, decide_true, Bool.not_true, br_false]
  have el : (T.getD p.toNat []).length + (T.getD p2.toNat []).length - (S.length : Int) = lost := by omega
  rw [el, br_ndec (by omega), with_v (by omega) hF2 (by omega), pairs_v (by omega) hF2]
  simp only [Option.bind_some, decide_true, Bool.not_true, br_false]
  have al := allTo_len (pE T S (min 8 lost)) T.length 0 T.length
  have : T.length * T.length ≤ 4 * 4 := Nat.mul_le_mul (by omega) (by omega)
  have wl := withL_len T S (min 8 lost) p.toNat T.length
  rw [containsi_v (by omega) (by omega), containsp_v (by omega) (by omega)]
  simp only [Option.bind_some, awake_v]
  have key : lost ≤ 8 → (withL T S (min 8 lost) p.toNat T.length).contains p2 = true ∧ (allTo (pE T S (min 8 lost)) T.length 0 T.length).contains (min p p2, max p p2) = true := by
    intro h8
    have hpe : pE T S (min 8 lost) p.toNat p2.toNat = true := by simp only [pE, decide_eq_true_eq]; omega
    have hpe2 : pE T S (min 8 lost) p2.toNat p.toNat = true := by simp only [pE, decide_eq_true_eq]; rw [leastV_sym]; omega
    constructor
    · rw [List.contains_iff_mem, show p2 = ((p2.toNat : Nat) : Int) by omega]
      exact mem_withL.2 ⟨by omega, hpe⟩
    · rw [List.contains_iff_mem, mem_allTo]
      rcases Int.le_total p p2 with h | h
      · exact ⟨p.toNat, p2.toNat, by omega, by omega, by omega, hpe, by rw [Prod.mk.injEq]; omega⟩
      · exact ⟨p2.toNat, p.toNat, by omega, by omega, by omega, hpe2, by rw [Prod.mk.injEq]; omega⟩
  by_cases h8 : lost ≤ 8
  · obtain ⟨k1, k2⟩ := key h8
    by_cases h0 : lost = 0
    · simp only [h0, decide_true, br_true] at k1 k2 ⊢
      rw [k1, k2]; rfl
    · rw [br_ndec h0, br_dec h8, k1, k2]; rfl
  · rw [br_ndec (by omega), br_ndec h8]
end
end Go.Proofs.Ytfcnhnbnjdccfaa

namespace Go.Proofs.Ytfcnhnbnjdccfaa
set_option linter.all false
open Go

/-- Words of two texts are told in what was heard, between noise. -/
inductive Rd : List Int → List Int → List Int → Prop
  | nil : Rd [] [] []
  | noise (w : Int) {H a b : List Int} (s : Rd H a b) : Rd (w :: H) a b
  | ta (w : Int) {H a b : List Int} (s : Rd H a b) : Rd (w :: H) (w :: a) b
  | tb (w : Int) {H a b : List Int} (s : Rd H a b) : Rd (w :: H) a (w :: b)
theorem Rd.none : ∀ H : List Int, Rd H [] []
  | [] => .nil
  | w :: H => .noise w (Rd.none H)
theorem Rd.sub {H a b : List Int} (s : Rd H a b) : ∀ a' b' : List Int, a'.Sublist a → b'.Sublist b → Rd H a' b' := by
  induction s with
  | nil => intro a' b' ha hb; rw [List.sublist_nil.1 ha, List.sublist_nil.1 hb]; exact .nil
  | noise w s ih => intro a' b' ha hb; exact .noise w (ih a' b' ha hb)
  | ta w s ih =>
    intro a' b' ha hb
    cases ha with
    | cons _ h => exact .noise w (ih a' b' h hb)
    | cons_cons _ h => exact .ta w (ih _ b' h hb)
  | tb w s ih =>
    intro a' b' ha hb
    cases hb with
    | cons _ h => exact .noise w (ih a' b' ha h)
    | cons_cons _ h => exact .tb w (ih a' _ ha h)
theorem sub_at {A a : List Int} {w : Int} : ∀ (n i : Nat), A.length = i + n → (w :: a).Sublist (A.drop i) → ∃ j, i ≤ j ∧ j < A.length ∧ A.getD j 0 = w ∧ a.Sublist (A.drop (j + 1))
  | 0, i, h, hs => by rw [List.drop_of_length_le (by omega)] at hs; cases hs
  | n + 1, i, h, hs => by
    rw [drop_cons (by omega)] at hs
    cases hs with
    | cons _ h' =>
      obtain ⟨j, h1, h2, h3, h4⟩ := sub_at n (i + 1) (by omega) h'
      exact ⟨j, by omega, h2, h3, h4⟩
    | cons_cons _ h' => exact ⟨i, Nat.le_refl _, by omega, rfl, h'⟩
theorem tvx_ge (H A B : List Int) : ∀ (n h i k : Nat) (a b : List Int), H.length = h + n → Rd (H.drop h) a b → a.Sublist (A.drop i) → b.Sublist (B.drop k) → ((a.length : Int) + b.length) ≤ (tvx mayA H A B n (h, i, k)).1
  | 0, h, i, k, a, b, hn, s, _, _ => by
    rw [List.drop_of_length_le (by omega)] at s
    cases s; simp [tvx]
  | n + 1, h, i, k, a, b, hn, s, ha, hb => by
    rw [drop_cons (by omega)] at s
    have g := (fold_ge (h := h) (t := tvx mayA H A B n) (movesL A B (H.getD h 0) (h, i, k)) (-1, 0)).2
    rw [tvx]
    dsimp only
    cases s with
    | noise _ s =>
      have := tvx_ge H A B n (h + 1) i k a b (by omega) s ha hb
      have g1 := g ((3, 0), (h + 1, i, k)) (by simp [movesL])
      have e : ∀ w : Int, wT 3 w = w := fun w => by simp [wT]
      dsimp only at g1
      rw [e] at g1
      omega
    | ta _ s =>
      obtain ⟨j, h1, h2, h3, h4⟩ := sub_at (A.length - i) i (by have := ha.length_le; simp at this; omega) ha
      have := tvx_ge H A B n (h + 1) (j + 1) k _ b (by omega) s h4 hb
      have g1 := g ((1, (j : Int)), (h + 1, j + 1, k)) (by
        simp only [movesL, List.mem_cons, List.mem_append, List.mem_map]
        exact .inr (.inl ⟨j, mem_standsL.2 ⟨h1, h2, h3⟩, rfl⟩))
      dsimp only [wT] at g1
      rw [if_pos ⟨by omega, by decide⟩] at g1
      simp only [List.length_cons]
      omega
    | tb _ s =>
      obtain ⟨j, h1, h2, h3, h4⟩ := sub_at (B.length - k) k (by have := hb.length_le; simp at this; omega) hb
      have := tvx_ge H A B n (h + 1) i (j + 1) a _ (by omega) s ha h4
      have g1 := g ((2, (j : Int)), (h + 1, i, j + 1)) (by
        simp only [movesL, List.mem_cons, List.mem_append, List.mem_map]
        exact .inr (.inr ⟨j, mem_standsL.2 ⟨h1, h2, h3⟩, rfl⟩))
      dsimp only [wT] at g1
      rw [if_pos ⟨by omega, by decide⟩] at g1
      simp only [List.length_cons]
      omega
theorem fold_has {h : Nat} {t : At3 → Int × Int} : ∀ (ms : List Mv) (best : Int × Int), (ms.foldl (stepT mayA h t) best).1 = best.1 ∨ ∃ m ∈ ms, (ms.foldl (stepT mayA h t) best).1 = wT m.1.1 (t m.2).1
  | [], best => .inl rfl
  | m :: ms, best => by
    rw [List.foldl_cons]
    rcases fold_has (h := h) (t := t) ms (stepT mayA h t best m) with h1 | ⟨m', hm, h1⟩
    · rw [stepT_fst] at h1
      rcases Int.le_total best.1 (wT m.1.1 (t m.2).1) with h2 | h2
      · exact .inr ⟨m, by simp, by omega⟩
      · exact .inl (by omega)
    · exact .inr ⟨m', by simp [hm], h1⟩
theorem tvx_nonneg (H A B : List Int) {n h i k : Nat} (hn : H.length = h + n) : 0 ≤ (tvx mayA H A B n (h, i, k)).1 := by
  have := tvx_ge H A B n h i k [] [] hn (Rd.none _) (List.nil_sublist _) (List.nil_sublist _)
  simpa using this
theorem tvx_has (H A B : List Int) : ∀ (n h i k : Nat), H.length = h + n → ∃ a b, Rd (H.drop h) a b ∧ a.Sublist (A.drop i) ∧ b.Sublist (B.drop k) ∧ ((a.length : Int) + b.length) = (tvx mayA H A B n (h, i, k)).1
  | 0, h, i, k, hn => ⟨[], [], by rw [List.drop_of_length_le (by omega)]; exact .nil, List.nil_sublist _, List.nil_sublist _, by simp [tvx]⟩
  | n + 1, h, i, k, hn => by
    have nn := tvx_nonneg H A B (i := i) (k := k) hn
    rw [tvx] at nn ⊢
    dsimp only at nn ⊢
    rw [drop_cons (a := H) (by omega)]
    rcases fold_has (h := h) (t := tvx mayA H A B n) (movesL A B (H.getD h 0) (h, i, k)) (-1, 0) with h1 | ⟨m, hm, h1⟩
    · rw [h1] at nn; exact absurd nn (by decide)
    · rw [h1]
      simp only [movesL, List.mem_cons, List.mem_append, List.mem_map] at hm
      rcases hm with rfl | ⟨j, hj, rfl⟩ | ⟨j, hj, rfl⟩
      · obtain ⟨a, b, s, ha, hb, e⟩ := tvx_has H A B n (h + 1) i k (by omega)
        have e3 : ∀ w : Int, wT 3 w = w := fun w => by simp [wT]
        exact ⟨a, b, .noise _ s, ha, hb, by rw [e3]; exact e⟩
      · obtain ⟨a, b, s, ha, hb, e⟩ := tvx_has H A B n (h + 1) (j + 1) k (by omega)
        obtain ⟨j1, j2, j3⟩ := mem_standsL.1 hj
        have h0 := tvx_nonneg H A B (n := n) (h := h + 1) (i := j + 1) (k := k) (by omega)
        refine ⟨H.getD h 0 :: a, b, .ta _ s, ?_, hb, ?_⟩
        · have s1 : (H.getD h 0 :: a).Sublist (A.drop j) := by rw [drop_cons j2, j3]; exact ha.cons_cons _
          have : A.drop j = (A.drop i).drop (j - i) := by rw [List.drop_drop]; congr 1; omega
          rw [this] at s1
          exact s1.trans (List.drop_sublist _ _)
        · dsimp only [wT]
          rw [if_pos ⟨by omega, by decide⟩]
          simp only [List.length_cons]; omega
      · obtain ⟨a, b, s, ha, hb, e⟩ := tvx_has H A B n (h + 1) i (j + 1) (by omega)
        obtain ⟨j1, j2, j3⟩ := mem_standsL.1 hj
        have h0 := tvx_nonneg H A B (n := n) (h := h + 1) (i := i) (k := j + 1) (by omega)
        refine ⟨a, H.getD h 0 :: b, .tb _ s, ha, ?_, ?_⟩
        · have s1 : (H.getD h 0 :: b).Sublist (B.drop j) := by rw [drop_cons j2, j3]; exact hb.cons_cons _
          have : B.drop j = (B.drop k).drop (j - k) := by rw [List.drop_drop]; congr 1; omega
          rw [this] at s1
          exact s1.trans (List.drop_sublist _ _)
        · dsimp only [wT]
          rw [if_pos ⟨by omega, by decide⟩]
          simp only [List.length_cons]; omega
/-- The most words that are told. -/
theorem leastV_le {H A B a b : List Int} (s : Rd H a b) (ha : a.Sublist A) (hb : b.Sublist B) : leastV H A B ≤ (A.length : Int) + B.length + H.length - 2 * (a.length + b.length) := by
  have := tvx_ge H A B H.length 0 0 0 a b (by omega) s ha hb
  have e : (tvx mayA H A B H.length (0, 0, 0)).1 = (tv mayA H A B (0, 0, 0)).1 := rfl
  unfold leastV
  omega
theorem leastV_has (H A B : List Int) : ∃ a b, Rd H a b ∧ a.Sublist A ∧ b.Sublist B ∧ leastV H A B = (A.length : Int) + B.length + H.length - 2 * (a.length + b.length) := by
  obtain ⟨a, b, s, ha, hb, h⟩ := tvx_has H A B H.length 0 0 0 (by omega)
  have e : (tvx mayA H A B H.length (0, 0, 0)).1 = (tv mayA H A B (0, 0, 0)).1 := rfl
  refine ⟨a, b, s, ha, hb, ?_⟩
  unfold leastV
  omega
/-- With another text the least faults change by the distance at most. -/
theorem leastV_far (H A B O : List Int) : leastV H A B ≤ leastV H A O + distI B O := by
  obtain ⟨a, c, s, ha, hc, h⟩ := leastV_has H A O
  obtain ⟨d, d1, d2, d3⟩ := lc_has B O
  obtain ⟨e, e1, e2, e3⟩ := sub_meet O c d hc d2
  have := leastV_le (s.sub a e (List.Sublist.refl _) e1) ha (e2.trans d1)
  rw [distI_eq]
  omega
/-- A word more. -/
theorem Rd.more (w : Int) {H a b : List Int} (s : Rd H a b) : ∀ p : Nat, Rd (H.take p ++ w :: H.drop p) a b := by
  induction s with
  | nil => intro p; cases p <;> simpa using Rd.noise w .nil
  | noise v s ih =>
    intro p; cases p with
    | zero => exact .noise w (.noise v s)
    | succ p => exact .noise v (ih p)
  | ta v s ih =>
    intro p; cases p with
    | zero => exact .noise w (.ta v s)
    | succ p => exact .ta v (ih p)
  | tb v s ih =>
    intro p; cases p with
    | zero => exact .noise w (.tb v s)
    | succ p => exact .tb v (ih p)
theorem Rd.less (w : Int) : ∀ (p : Nat) (H a b : List Int), Rd (H.take p ++ w :: H.drop p) a b → ∃ a' b', Rd H a' b' ∧ a'.Sublist a ∧ b'.Sublist b ∧ a.length + b.length ≤ a'.length + b'.length + 1
  | 0, H, a, b, s => by
    rw [List.take_zero, List.drop_zero, List.nil_append] at s
    cases s with
    | noise _ s => exact ⟨a, b, s, List.Sublist.refl _, List.Sublist.refl _, by omega⟩
    | ta _ s => exact ⟨_, b, s, List.sublist_cons_self _ _, List.Sublist.refl _, by simp only [List.length_cons]; omega⟩
    | tb _ s => exact ⟨a, _, s, List.Sublist.refl _, List.sublist_cons_self _ _, by simp only [List.length_cons]; omega⟩
  | p + 1, [], a, b, s => by
    rw [List.take_nil, List.drop_nil, List.nil_append] at s
    exact Rd.less w 0 [] a b (by simpa using s)
  | p + 1, v :: H, a, b, s => by
    rw [List.take_succ_cons, List.drop_succ_cons, List.cons_append] at s
    cases s with
    | noise _ s =>
      obtain ⟨a', b', s', h1, h2, h3⟩ := Rd.less w p H a b s
      exact ⟨a', b', .noise v s', h1, h2, h3⟩
    | ta _ s =>
      obtain ⟨a', b', s', h1, h2, h3⟩ := Rd.less w p H _ b s
      exact ⟨v :: a', b', .ta v s', h1.cons_cons _, h2, by simp only [List.length_cons]; omega⟩
    | tb _ s =>
      obtain ⟨a', b', s', h1, h2, h3⟩ := Rd.less w p H a _ s
      exact ⟨a', v :: b', .tb v s', h1, h2.cons_cons _, by simp only [List.length_cons]; omega⟩
theorem leastV_word (H A B : List Int) (w : Int) (p : Nat) : leastV (H.take p ++ w :: H.drop p) A B = leastV H A B + 1 ∨ leastV (H.take p ++ w :: H.drop p) A B = leastV H A B - 1 := by
  obtain ⟨a, b, s, ha, hb, h⟩ := leastV_has H A B
  obtain ⟨c, d, s2, hc, hd, h2⟩ := leastV_has (H.take p ++ w :: H.drop p) A B
  have l1 := leastV_le (s.more w p) ha hb
  obtain ⟨c', d', s3, hc', hd', h3⟩ := s2.less
  have l2 := leastV_le s3 (hc'.trans hc) (hd'.trans hd)
  have e : (H.take p ++ w :: H.drop p).length = H.length + 1 := by simp; omega
  omega
end Go.Proofs.Ytfcnhnbnjdccfaa

namespace Go.Proofs.Ytfcnhnbnjdccfaa
set_option linter.all false
open Go

def musts1_S (N : Nat) (p : Int) (p2 : Int) (u : Int) : Option Bool :=
  br (decide (p = u))
    (some true)
    (some (decide (p2 = u)))
def every1m_S (N : Nat) (x : Int) (x2 : Int) (g : Int) : Option (Bool × Int) :=
  (musts1_S N x x2 g).bind fun x_1 =>
  some ((!x_1), g)
def ixfm_l1 (N : Nat) : Nat → (List (Int × Int)) → Int → Int → Int → Option ((Int × Int) ⊕ (Int))
  | 0, _, _, _, _ => none
  | n_ + 1, s, u, u2, f =>
    br (decide (u2 < u))
      (idx s u2 fun x_1 =>
      (every1m_S N x_1.1 x_1.2 f).bind fun (x_2, y_3) =>
      br x_2
        (some (.inl (u2, y_3)))
        (chk (u2 + 1) <|
        ixfm_l1 N n_ s u (u2 + 1) y_3))
      (some (.inr f))
def ixfm_S (N : Nat) (s : List (Int × Int)) (f : Int) : Option (Int × Int) :=
  (ixfm_l1 N N s (s.length : Int) 0 f).bind fun e => match e with
  | .inl (i_4, g_5) =>
    some (i_4, g_5)
  | .inr g_6 =>
    some (-1, g_6)
def cofm_S (N : Nat) (s : List (Int × Int)) (f : Int) : Option (Bool × Int) :=
  (ixfm_S N s f).bind fun (x_1, y_2) =>
  some ((decide (0 ≤ x_1)), y_2)
def everym_S (N : Nat) (l : List (Int × Int)) (holds : Int) : Option Bool :=
  (cofm_S N l holds).bind fun (x_1, y_2) =>
  some (!x_1)
def musts_j1 (N : Nat) (rec : (List (Int × Int)) → Int → Int → (List Int) → Option (List Int)) (l : List (Int × Int)) (u : Int) (u2 : Int) (out : List Int) : Option (List Int) :=
  chk (u2 + 1) <|
  rec l u (u2 + 1) out
def musts_l1 (N : Nat) : Nat → (List (Int × Int)) → Int → Int → (List Int) → Option (List Int)
  | 0, _, _, _, _ => none
  | n_ + 1, l, u, u2, out =>
    br (decide (u2 < u))
      ((everym_S N l u2).bind fun x_3 =>
      br x_3
        (lim (out.length + [u2].length) <|
        musts_j1 N (musts_l1 N n_) l u u2 (out ++ [u2]))
        (musts_j1 N (musts_l1 N n_) l u u2 out))
      (some (out))
def musts_S (N : Nat) (e : List (List Int)) (e2 : List Int) (e3 : Int) : Option (List Int × Int) :=
  (check_S N e e2 e3).bind fun x_1 =>
  br (!decide (x_1 = 0))
    (some ([], x_1))
    ((epairs_S N e e2 e3).bind fun x_2 =>
    br (decide ((x_2.length : Int) = 0))
      (some ([], 6))
      ((musts_l1 N N x_2 (e.length : Int) 0 []).bind fun out_4 =>
      some (out_4, 0)))
def eother_l2 (N : Nat) : Nat → Int → (List (Int × Int)) → (List Int) → Bool → Int → (List (Int × Int)) → Int → Int → Int → Int → (List (List Int)) → (List Int) → Int → Int → Int → Int → Int → Option ((Unit) ⊕ (Int × (List (Int × Int)) × List Int × Bool × (List (Int × Int)) × Int × Int × List (List Int) × List Int × Int × Int × Int))
  | 0, _, _, _, _, _, _, _, _, _, _, _, _, _, _, _, _, _ => none
  | n_ + 1, least, can, musts, met, n, u, u2, u3, u4, u5, x, x2, x3, best, best2, p, p2 =>
    br (decide (u5 < u4))
      ((least_S N x x2 x3 p u5).bind fun (x_22, y_23) =>
      (dist_S N x x2 x3 p2 u5).bind fun (x_24, y_25) =>
      br (!decide (y_23 = 0))
        (some (.inl ()))
        (br (!decide (y_25 = 0))
          (some (.inl ()))
          (chk (n + x_24) <|
          br (decide ((n + x_24) < x_22))
            (some (.inl ()))
            (chk (x_22 + x_24) <|
            br (decide ((x_22 + x_24) < n))
              (some (.inl ()))
              (chk (u5 + 1) <|
              eother_l2 N n_ least can musts met n u u2 u3 u4 (u5 + 1) x x2 x3 best best2 p p2)))))
      (some (.inr (least, can, musts, met, u, u2, u3, x, x2, x3, best, best2)))
def eother_l1 (N : Nat) : Nat → Int → (List (Int × Int)) → (List Int) → Bool → (List (Int × Int)) → Int → Int → (List (List Int)) → (List Int) → Int → Int → Int → Option ((Unit) ⊕ ((Unit) ⊕ ((List (Int × Int)) × List Int × Bool × List (List Int) × List Int × Int)))
  | 0, _, _, _, _, _, _, _, _, _, _, _, _ => none
  | n_ + 1, least, can, musts, met, u, u2, u3, x, x2, x3, best, best2 =>
    br (decide (u3 < u2))
      (idx u u3 fun x_19 =>
      (least_S N x x2 x3 x_19.1 x_19.2).bind fun (x_20, y_21) =>
      br (!decide (y_21 = 0))
        (some (.inl ()))
        (br (decide (x_20 < least))
          (some (.inl ()))
          (br (decide (x_19.1 = best) && decide (x_19.2 = best2))
            (br (!decide (x_20 = least))
              (some (.inl ()))
              (br (decide (x_20 = least))
                (br (!met)
                  (br (!(decide (x_19.1 = best) && decide (x_19.2 = best2)))
                    (some (.inl ()))
                    (br met
                      ((eother_l2 N N least can musts true x_20 u u2 u3 (x.length : Int) 0 x x2 x3 best best2 x_19.1 x_19.2).bind fun e => match e with
                      | .inl _ =>
                        some (.inr (.inl ()))
                      | .inr (least_26, can_27, musts_28, met_29, u_30, u2_31, u3_32, x_33, x2_34, x3_35, best_36, best2_37) =>
                        chk (u3_32 + 1) <|
                        eother_l1 N n_ least_26 can_27 musts_28 met_29 u_30 u2_31 (u3_32 + 1) x_33 x2_34 x3_35 best_36 best2_37)
                      ((eother_l2 N N least can musts (decide (x_19.1 = best) && decide (x_19.2 = best2)) x_20 u u2 u3 (x.length : Int) 0 x x2 x3 best best2 x_19.1 x_19.2).bind fun e => match e with
                      | .inl _ =>
                        some (.inr (.inl ()))
                      | .inr (least_38, can_39, musts_40, met_41, u_42, u2_43, u3_44, x_45, x2_46, x3_47, best_48, best2_49) =>
                        chk (u3_44 + 1) <|
                        eother_l1 N n_ least_38 can_39 musts_40 met_41 u_42 u2_43 (u3_44 + 1) x_45 x2_46 x3_47 best_48 best2_49)))
                  (br met
                    ((eother_l2 N N least can musts true x_20 u u2 u3 (x.length : Int) 0 x x2 x3 best best2 x_19.1 x_19.2).bind fun e => match e with
                    | .inl _ =>
                      some (.inr (.inl ()))
                    | .inr (least_50, can_51, musts_52, met_53, u_54, u2_55, u3_56, x_57, x2_58, x3_59, best_60, best2_61) =>
                      chk (u3_56 + 1) <|
                      eother_l1 N n_ least_50 can_51 musts_52 met_53 u_54 u2_55 (u3_56 + 1) x_57 x2_58 x3_59 best_60 best2_61)
                    ((eother_l2 N N least can musts (decide (x_19.1 = best) && decide (x_19.2 = best2)) x_20 u u2 u3 (x.length : Int) 0 x x2 x3 best best2 x_19.1 x_19.2).bind fun e => match e with
                    | .inl _ =>
                      some (.inr (.inl ()))
                    | .inr (least_62, can_63, musts_64, met_65, u_66, u2_67, u3_68, x_69, x2_70, x3_71, best_72, best2_73) =>
                      chk (u3_68 + 1) <|
                      eother_l1 N n_ least_62 can_63 musts_64 met_65 u_66 u2_67 (u3_68 + 1) x_69 x2_70 x3_71 best_72 best2_73)))
                (br met
                  ((eother_l2 N N least can musts true x_20 u u2 u3 (x.length : Int) 0 x x2 x3 best best2 x_19.1 x_19.2).bind fun e => match e with
                  | .inl _ =>
                    some (.inr (.inl ()))
                  | .inr (least_74, can_75, musts_76, met_77, u_78, u2_79, u3_80, x_81, x2_82, x3_83, best_84, best2_85) =>
                    chk (u3_80 + 1) <|
                    eother_l1 N n_ least_74 can_75 musts_76 met_77 u_78 u2_79 (u3_80 + 1) x_81 x2_82 x3_83 best_84 best2_85)
                  ((eother_l2 N N least can musts (decide (x_19.1 = best) && decide (x_19.2 = best2)) x_20 u u2 u3 (x.length : Int) 0 x x2 x3 best best2 x_19.1 x_19.2).bind fun e => match e with
                  | .inl _ =>
                    some (.inr (.inl ()))
                  | .inr (least_86, can_87, musts_88, met_89, u_90, u2_91, u3_92, x_93, x2_94, x3_95, best_96, best2_97) =>
                    chk (u3_92 + 1) <|
                    eother_l1 N n_ least_86 can_87 musts_88 met_89 u_90 u2_91 (u3_92 + 1) x_93 x2_94 x3_95 best_96 best2_97))))
            (br (decide (x_20 = least))
              (br (!met)
                (br (!(decide (x_19.1 = best) && decide (x_19.2 = best2)))
                  (some (.inl ()))
                  (br met
                    ((eother_l2 N N least can musts true x_20 u u2 u3 (x.length : Int) 0 x x2 x3 best best2 x_19.1 x_19.2).bind fun e => match e with
                    | .inl _ =>
                      some (.inr (.inl ()))
                    | .inr (least_98, can_99, musts_100, met_101, u_102, u2_103, u3_104, x_105, x2_106, x3_107, best_108, best2_109) =>
                      chk (u3_104 + 1) <|
                      eother_l1 N n_ least_98 can_99 musts_100 met_101 u_102 u2_103 (u3_104 + 1) x_105 x2_106 x3_107 best_108 best2_109)
                    ((eother_l2 N N least can musts (decide (x_19.1 = best) && decide (x_19.2 = best2)) x_20 u u2 u3 (x.length : Int) 0 x x2 x3 best best2 x_19.1 x_19.2).bind fun e => match e with
                    | .inl _ =>
                      some (.inr (.inl ()))
                    | .inr (least_110, can_111, musts_112, met_113, u_114, u2_115, u3_116, x_117, x2_118, x3_119, best_120, best2_121) =>
                      chk (u3_116 + 1) <|
                      eother_l1 N n_ least_110 can_111 musts_112 met_113 u_114 u2_115 (u3_116 + 1) x_117 x2_118 x3_119 best_120 best2_121)))
                (br met
                  ((eother_l2 N N least can musts true x_20 u u2 u3 (x.length : Int) 0 x x2 x3 best best2 x_19.1 x_19.2).bind fun e => match e with
                  | .inl _ =>
                    some (.inr (.inl ()))
                  | .inr (least_122, can_123, musts_124, met_125, u_126, u2_127, u3_128, x_129, x2_130, x3_131, best_132, best2_133) =>
                    chk (u3_128 + 1) <|
                    eother_l1 N n_ least_122 can_123 musts_124 met_125 u_126 u2_127 (u3_128 + 1) x_129 x2_130 x3_131 best_132 best2_133)
                  ((eother_l2 N N least can musts (decide (x_19.1 = best) && decide (x_19.2 = best2)) x_20 u u2 u3 (x.length : Int) 0 x x2 x3 best best2 x_19.1 x_19.2).bind fun e => match e with
                  | .inl _ =>
                    some (.inr (.inl ()))
                  | .inr (least_134, can_135, musts_136, met_137, u_138, u2_139, u3_140, x_141, x2_142, x3_143, best_144, best2_145) =>
                    chk (u3_140 + 1) <|
                    eother_l1 N n_ least_134 can_135 musts_136 met_137 u_138 u2_139 (u3_140 + 1) x_141 x2_142 x3_143 best_144 best2_145)))
              (br met
                ((eother_l2 N N least can musts true x_20 u u2 u3 (x.length : Int) 0 x x2 x3 best best2 x_19.1 x_19.2).bind fun e => match e with
                | .inl _ =>
                  some (.inr (.inl ()))
                | .inr (least_146, can_147, musts_148, met_149, u_150, u2_151, u3_152, x_153, x2_154, x3_155, best_156, best2_157) =>
                  chk (u3_152 + 1) <|
                  eother_l1 N n_ least_146 can_147 musts_148 met_149 u_150 u2_151 (u3_152 + 1) x_153 x2_154 x3_155 best_156 best2_157)
                ((eother_l2 N N least can musts (decide (x_19.1 = best) && decide (x_19.2 = best2)) x_20 u u2 u3 (x.length : Int) 0 x x2 x3 best best2 x_19.1 x_19.2).bind fun e => match e with
                | .inl _ =>
                  some (.inr (.inl ()))
                | .inr (least_158, can_159, musts_160, met_161, u_162, u2_163, u3_164, x_165, x2_166, x3_167, best_168, best2_169) =>
                  chk (u3_164 + 1) <|
                  eother_l1 N n_ least_158 can_159 musts_160 met_161 u_162 u2_163 (u3_164 + 1) x_165 x2_166 x3_167 best_168 best2_169))))))
      (some (.inr (.inr (can, musts, met, x, x2, x3))))
def eother_l4 (N : Nat) : Nat → (List (Int × Int)) → (List Int) → Bool → Int → Bool → Int → Int → (List (Int × Int)) → Int → Int → (List (List Int)) → (List Int) → Int → Option ((List (Int × Int)) × List Int × Bool × Int × Bool × Int × Int × List (List Int) × List Int × Int)
  | 0, _, _, _, _, _, _, _, _, _, _, _, _, _ => none
  | n_ + 1, can, musts, met, t, all, u, u2, u3, u4, u5, x, x2, x3 =>
    br (decide (u5 < u4))
      (idx u3 u5 fun x_176 =>
      br all
        (br (decide (x_176.1 = t))
          (chk (u5 + 1) <|
          eother_l4 N n_ can musts met t true u u2 u3 u4 (u5 + 1) x x2 x3)
          (chk (u5 + 1) <|
          eother_l4 N n_ can musts met t (decide (x_176.2 = t)) u u2 u3 u4 (u5 + 1) x x2 x3))
        (chk (u5 + 1) <|
        eother_l4 N n_ can musts met t false u u2 u3 u4 (u5 + 1) x x2 x3))
      (some ((can, musts, met, t, all, u, u2, x, x2, x3)))
def eother_l5 (N : Nat) : Nat → (List (Int × Int)) → (List Int) → Bool → Int → (List Int) → Int → Int → Int → Int → (List (List Int)) → (List Int) → Int → Option ((Unit) ⊕ ((List (Int × Int)) × List Int × Bool × Int × Int × List (List Int) × List Int × Int))
  | 0, _, _, _, _, _, _, _, _, _, _, _, _ => none
  | n_ + 1, can, musts, met, t, l, u, u2, u3, u4, x, x2, x3 =>
    br (decide (u4 < u3))
      ((containsi_S N l u4).bind fun x_190 =>
      (containsp_S N can (min t u4) (max t u4)).bind fun x_191 =>
      br (!(x_190 == x_191))
        (some (.inl ()))
        (chk (u4 + 1) <|
        eother_l5 N n_ can musts met t l u u2 u3 (u4 + 1) x x2 x3))
      (some (.inr (can, musts, met, u, u2, x, x2, x3)))
def eother_l3 (N : Nat) : Nat → (List (Int × Int)) → (List Int) → Bool → Int → Int → (List (List Int)) → (List Int) → Int → Option ((Unit) ⊕ ((Unit) ⊕ (Bool)))
  | 0, _, _, _, _, _, _, _, _ => none
  | n_ + 1, can, musts, met, u, u2, x, x2, x3 =>
    br (decide (u2 < u))
      ((eother_l4 N N can musts met u2 (decide (0 < (can.length : Int))) u u2 can (can.length : Int) 0 x x2 x3).bind fun (can_177, musts_178, met_179, t_180, all_181, u_182, u2_183, x_184, x2_185, x3_186) =>
      (with__S N x_184 x2_185 x3_186 t_180).bind fun (x_187, y_188) =>
      br (!decide (y_188 = 0))
        (some (.inl ()))
        ((containsi_S N musts_178 t_180).bind fun x_189 =>
        br (!(all_181 == x_189))
          (some (.inl ()))
          ((eother_l5 N N can_177 musts_178 met_179 t_180 x_187 u_182 u2_183 (x_184.length : Int) 0 x_184 x2_185 x3_186).bind fun e => match e with
          | .inl _ =>
            some (.inr (.inl ()))
          | .inr (can_192, musts_193, met_194, u_195, u2_196, x_197, x2_198, x3_199) =>
            chk (u2_196 + 1) <|
            eother_l3 N n_ can_192 musts_193 met_194 u_195 (u2_196 + 1) x_197 x2_198 x3_199)))
      (some (.inr (.inr met)))
def eother_S (N : Nat) (numbers : List Int) : Option Bool :=
  (hang_S N numbers).bind fun (x_1, y_2, y_3) =>
  (made_S N 4 5 8 x_1 y_2 y_3).bind fun (x_4, y_5, y_6, y_7, y_8, y_9) =>
  (closest_S N x_4 y_5 y_6).bind fun (x_10, y_11, y_12, y_13) =>
  (pairs_S N x_4 y_5 y_6).bind fun (x_14, y_15) =>
  (musts_S N x_4 y_5 y_6).bind fun (x_16, y_17) =>
  br (!decide (y_13 = 0))
    (some false)
    (br (!decide (y_15 = 0))
      (some false)
      (br (!((decide (y_17 = 6)) == (decide ((x_14.length : Int) = 0))))
        (some false)
        (br (!decide (y_17 = 0))
          (br (!decide (y_17 = 6))
            (some false)
            ((lpairs_S N x_4 y_5 y_6).bind fun x_18 =>
            (eother_l1 N N y_12 x_14 x_16 false x_18 (x_18.length : Int) 0 x_4 y_5 y_6 x_10 y_11).bind fun e => match e with
            | .inl _ =>
              some false
            | .inr (.inl _) =>
              some false
            | .inr (.inr (can_170, musts_171, met_172, x_173, x2_174, x3_175)) =>
              (eother_l3 N N can_170 musts_171 met_172 (x_173.length : Int) 0 x_173 x2_174 x3_175).bind fun e => match e with
              | .inl _ =>
                some false
              | .inr (.inl _) =>
                some false
              | .inr (.inr met_200) =>
                br met_200
                  ((awake_S N).bind fun x_201 =>
                  some x_201)
                  (some false)))
          ((lpairs_S N x_4 y_5 y_6).bind fun x_202 =>
          (eother_l1 N N y_12 x_14 x_16 false x_202 (x_202.length : Int) 0 x_4 y_5 y_6 x_10 y_11).bind fun e => match e with
          | .inl _ =>
            some false
          | .inr (.inl _) =>
            some false
          | .inr (.inr (can_203, musts_204, met_205, x_206, x2_207, x3_208)) =>
            (eother_l3 N N can_203 musts_204 met_205 (x_206.length : Int) 0 x_206 x2_207 x3_208).bind fun e => match e with
            | .inl _ =>
              some false
            | .inr (.inl _) =>
              some false
            | .inr (.inr met_209) =>
              br met_209
                ((awake_S N).bind fun x_210 =>
                some x_210)
                (some false)))))
def off_S (N : Nat) (n : Int) (lo : Int) (hi : Int) : Option Bool :=
  br (decide (n < lo))
    (some true)
    (some (decide (hi < n)))
noncomputable def off_sp (N : Nat) : List Spec := []
theorem off_all (N : Nat) : AllP (SpecOK Try.prog) (off_sp N) := trivial
noncomputable def off_c : Code := (Try.f96.body).getD .skip
noncomputable abbrev off_B : Body := { c := off_c, n := 15, res := [.tmp 6], outs := [⟨[.b], []⟩], m0 := 0 }
abbrev off_rt : altD off_B.outs → Option Bool := fun r => some r.1.1
abbrev off_st : Sta := ⟨[0, 1, 2], ⟨[.i .i64, .i .i64, .i .i64], []⟩⟩
theorem off_eq (N : Nat) (n : Int) (lo : Int) (hi : Int) : ev (Z := Bool) Try.prog (off_sp N) off_B [] [] (some off_rt) 400 false [.c [0], .c [1]] (stL off_st ((n, lo, hi, ()), ())) (stH off_st ((n, lo, hi, ()), ())) = off_S N n lo hi := by kernel_rfl
noncomputable def sp_off (N : Nat) : Spec := { f := 96, ins := ⟨[.i .i64, .i .i64, .i .i64], []⟩, outs := [⟨[.b], []⟩], run := fun p k => (off_S N p.1.1 p.1.2.1 p.1.2.2.1).bind fun r => k ((r, ()), ()) }
theorem sp_off_ok (N : Nat) : SpecOK Try.prog (sp_off N) := fn_sound (B := off_B) (loops := []) (leaves := []) (fun p => off_S N p.1.1 p.1.2.1 p.1.2.2.1) (fun r => ((r, ()), ())) off_rt (fun _ _ _ => rfl) (fun r z h => by cases h; rfl) Try.func96 (by kernel_rfl) (by kernel_rfl) (by kernel_rfl) rfl rfl (by kernel_rfl) (fun args w => Sem.pv_run _ _ _ (by kernel_rfl) w) (off_all N) mixed trivial (fun z E Xc hE hX hret => trivial) (fun p => off_eq N p.1.1 p.1.2.1 p.1.2.2.1)

def rcheck_l1 (N : Nat) : Nat → Int → (List (List Int)) → (List Int) → Int → Option ((Unit) ⊕ (List (List Int) × List Int × Int))
  | 0, _, _, _, _ => none
  | n_ + 1, t, e, e2, e3 =>
    br (decide (t < (e.length : Int)))
      (idx e t fun x_2 =>
      (off_S N (x_2.length : Int) 1 6).bind fun x_3 =>
      br x_3
        (some (.inl ()))
        (chk (t + 1) <|
        rcheck_l1 N n_ (t + 1) e e2 e3))
      (some (.inr (e, e2, e3)))
def rcheck_l3 (N : Nat) : Nat → Int → Int → (List (List Int)) → (List Int) → Int → Option ((Unit) ⊕ (Int × List (List Int) × List Int × Int))
  | 0, _, _, _, _, _ => none
  | n_ + 1, t, k, e, e2, e3 =>
    idx e t fun x_7 =>
    br (decide (k < (x_7.length : Int)))
      (idx e t fun x_8 =>
      idx x_8 k fun x_9 =>
      (off_S N x_9 0 9).bind fun x_10 =>
      br x_10
        (some (.inl ()))
        (chk (k + 1) <|
        rcheck_l3 N n_ t (k + 1) e e2 e3))
      (some (.inr (t, e, e2, e3)))
def rcheck_l2 (N : Nat) : Nat → Int → (List (List Int)) → (List Int) → Int → Option ((Unit) ⊕ (List (List Int) × List Int × Int))
  | 0, _, _, _, _ => none
  | n_ + 1, t, e, e2, e3 =>
    br (decide (t < (e.length : Int)))
      ((rcheck_l3 N N t 0 e e2 e3).bind fun e => match e with
      | .inl _ =>
        some (.inl ())
      | .inr (t_11, e_12, e2_13, e3_14) =>
        chk (t_11 + 1) <|
        rcheck_l2 N n_ (t_11 + 1) e_12 e2_13 e3_14)
      (some (.inr (e, e2, e3)))
def rcheck_l4 (N : Nat) : Nat → Int → (List (List Int)) → (List Int) → Int → Option ((Unit) ⊕ (List (List Int) × List Int × Int))
  | 0, _, _, _, _ => none
  | n_ + 1, i, e, e2, e3 =>
    br (decide (i < (e2.length : Int)))
      (idx e2 i fun x_18 =>
      (off_S N x_18 0 9).bind fun x_19 =>
      br x_19
        (some (.inl ()))
        (chk (i + 1) <|
        rcheck_l4 N n_ (i + 1) e e2 e3))
      (some (.inr (e, e2, e3)))
def rcheck_S (N : Nat) (e : List (List Int)) (e2 : List Int) (e3 : Int) : Option Int :=
  (off_S N (e.length : Int) 1 5).bind fun x_1 =>
  br x_1
    (some 2)
    (br (decide (10 < (e2.length : Int)))
      (some 2)
      ((rcheck_l1 N N 0 e e2 e3).bind fun e => match e with
      | .inl _ =>
        some 2
      | .inr (e_4, e2_5, e3_6) =>
        (rcheck_l2 N N 0 e_4 e2_5 e3_6).bind fun e => match e with
        | .inl _ =>
          some 3
        | .inr (e_15, e2_16, e3_17) =>
          (rcheck_l4 N N 0 e_15 e2_16 e3_17).bind fun e => match e with
          | .inl _ =>
            some 3
          | .inr (e_20, e2_21, e3_22) =>
            (off_S N e3_22 0 8).bind fun x_23 =>
            br x_23
              (some 3)
              (some 0)))
noncomputable def rcheck_sp (N : Nat) : List Spec := [sp_off N]
theorem rcheck_all (N : Nat) : AllP (SpecOK Try.prog) (rcheck_sp N) := ⟨sp_off_ok N, trivial⟩
noncomputable def rcheck_c : Code := (Try.f41.body).getD .skip
noncomputable abbrev rcheck_B : Body := { c := rcheck_c, n := 73, res := [.tmp 2], outs := [⟨[.i .i64], []⟩], m0 := 0 }
abbrev rcheck_rt : altD rcheck_B.outs → Option Int := fun r => some r.1.1
abbrev rcheck_l1_at : List PI := [.c [1, 1, 0, 1, 0, 0, 0, 0], .c [1, 1, 0, 1, 0, 0, 0, 1], .c [1, 1, 0, 1, 0, 0, 1], .l [1, 1, 0, 1, 0, 0], .b 0, .c [1, 1, 1]]
abbrev rcheck_l1_st : Sta := ⟨[1, 3], ⟨[.own 0 0, .i .i64], [.segs [.sl (.sl (.int .i64)), .sl (.int .i64), .i .i64]]⟩⟩
abbrev rcheck_l1_h (rec : Int → (List (List Int)) → (List Int) → Int → Option ((Unit) ⊕ (List (List Int) × List Int × Int))) : Leaf ((Unit) ⊕ (List (List Int) × List Int × Int)) := ⟨rcheck_l1_at, rcheck_l1_st, fun p => rec p.1.2.1 p.2.1.1 p.2.1.2.1 p.2.1.2.2.1⟩
abbrev rcheck_l1_e0 : Leaf ((Unit) ⊕ (List (List Int) × List Int × Int)) := ⟨[.c [1, 1, 0, 1, 0, 0, 1, 0, 0, 1, 0, 0], .c [1, 1, 0, 1, 0, 0, 1, 0, 0, 1, 0, 1], .b 1, .c [1, 1, 0, 1, 0, 0, 1, 1], .l [1, 1, 0, 1, 0, 0], .b 0, .c [1, 1, 1]], ⟨[], ⟨[], []⟩⟩, fun p => some (.inl ())⟩
abbrev rcheck_l1_e1 : Leaf ((Unit) ⊕ (List (List Int) × List Int × Int)) := ⟨[.c [1, 1, 1, 0, 0], .c [1, 1, 1, 0, 1], .c [1, 1, 1, 1]], ⟨[1], ⟨[.own 0 0], [.segs [.sl (.sl (.int .i64)), .sl (.int .i64), .i .i64]]⟩⟩, fun p => some (.inr (p.2.1.1, p.2.1.2.1, p.2.1.2.2.1))⟩
noncomputable def rcheck_l1_L (N : Nat) : LoopS := { at_ := rcheck_l1_at, sta := rcheck_l1_st, exits := [([.c [1, 1, 0, 1, 0, 0, 1, 0, 0, 1, 0, 0], .c [1, 1, 0, 1, 0, 0, 1, 0, 0, 1, 0, 1], .b 1, .c [1, 1, 0, 1, 0, 0, 1, 1], .l [1, 1, 0, 1, 0, 0], .b 0, .c [1, 1, 1]], ⟨[], ⟨[], []⟩⟩), ([.c [1, 1, 1, 0, 0], .c [1, 1, 1, 0, 1], .c [1, 1, 1, 1]], ⟨[1], ⟨[.own 0 0], [.segs [.sl (.sl (.int .i64)), .sl (.int .i64), .i .i64]]⟩⟩)], run := fun p k => (rcheck_l1 N N p.1.2.1 p.2.1.1 p.2.1.2.1 p.2.1.2.2.1).bind fun e => match e with | .inl x => k (.inl ((), ())) | .inr x => k (.inr (.inl (((), ()), ((x.1, x.2.1, x.2.2, ()), ())))) }
theorem rcheck_l1_eq (N n_ : Nat) (t : Int) (e : List (List Int)) (e2 : List Int) (e3 : Int) : ev (Z := (Unit) ⊕ (List (List Int) × List Int × Int)) Try.prog (rcheck_sp N) rcheck_B [] [rcheck_l1_h (rcheck_l1 N n_), rcheck_l1_e0, rcheck_l1_e1] none 400 true rcheck_l1_at (stL rcheck_l1_st (((), t, ()), ((e, e2, e3, ()), ()))) (stH rcheck_l1_st (((), t, ()), ((e, e2, e3, ()), ()))) = rcheck_l1 N (n_ + 1) t e e2 e3 := by kernel_rfl
theorem rcheck_l1_ok (N : Nat) {top : Bool} : LoopOK Try.prog rcheck_B.c rcheck_B.n rcheck_B.m0 top (rcheck_l1_L N) := loop_of_ev (Z := (Unit) ⊕ (List (List Int) × List Int × Int)) (N := N) (fun m p => rcheck_l1 N m p.1.2.1 p.2.1.1 p.2.1.2.1 p.2.1.2.2.1) (fun e => match e with | .inl x => .inl ((), ()) | .inr x => .inr (.inl (((), ()), ((x.1, x.2.1, x.2.2, ()), ())))) (fun _ p k => bind_congr_ (rcheck_l1 N N p.1.2.1 p.2.1.1 p.2.1.2.1 p.2.1.2.2.1) _ _ (fun e => by rcases e with x | x <;> rfl)) (fun _ => rfl) (fun m z E Xc hE hX hrec hx => leaf_of_ev (B := rcheck_B) (loops := []) (leaves := [rcheck_l1_h (rcheck_l1 N m), rcheck_l1_e0, rcheck_l1_e1]) (rcheck_all N) mixed trivial hE hX ⟨hrec, (fun p hp => by obtain rfl := Option.some.inj hp; exact hx), (fun p hp => by obtain rfl := Option.some.inj hp; exact hx), trivial⟩ RetOK.no (fun p => rcheck_l1_eq N m p.1.2.1 p.2.1.1 p.2.1.2.1 p.2.1.2.2.1))
abbrev rcheck_l3_at : List PI := [.c [1, 1, 1, 0, 1, 0, 0, 1, 0, 0, 1, 0, 0, 0, 0], .c [1, 1, 1, 0, 1, 0, 0, 1, 0, 0, 1, 0, 0, 0, 1], .c [1, 1, 1, 0, 1, 0, 0, 1, 0, 0, 1, 0, 0, 1], .l [1, 1, 1, 0, 1, 0, 0, 1, 0, 0, 1, 0, 0], .b 4, .b 3, .c [1, 1, 1, 0, 1, 0, 0, 1, 1], .l [1, 1, 1, 0, 1, 0, 0], .b 2, .c [1, 1, 1, 1]]
abbrev rcheck_l3_st : Sta := ⟨[1, 4, 5], ⟨[.own 0 0, .i .i64, .i .i64], [.segs [.sl (.sl (.int .i64)), .sl (.int .i64), .i .i64]]⟩⟩
abbrev rcheck_l3_h (rec : Int → Int → (List (List Int)) → (List Int) → Int → Option ((Unit) ⊕ (Int × List (List Int) × List Int × Int))) : Leaf ((Unit) ⊕ (Int × List (List Int) × List Int × Int)) := ⟨rcheck_l3_at, rcheck_l3_st, fun p => rec p.1.2.1 p.1.2.2.1 p.2.1.1 p.2.1.2.1 p.2.1.2.2.1⟩
abbrev rcheck_l3_e0 : Leaf ((Unit) ⊕ (Int × List (List Int) × List Int × Int)) := ⟨[.c [1, 1, 1, 0, 1, 0, 0, 1, 0, 0, 1, 0, 0, 1, 0, 0, 1, 0, 0], .c [1, 1, 1, 0, 1, 0, 0, 1, 0, 0, 1, 0, 0, 1, 0, 0, 1, 0, 1], .b 5, .c [1, 1, 1, 0, 1, 0, 0, 1, 0, 0, 1, 0, 0, 1, 1], .l [1, 1, 1, 0, 1, 0, 0, 1, 0, 0, 1, 0, 0], .b 4, .b 3, .c [1, 1, 1, 0, 1, 0, 0, 1, 1], .l [1, 1, 1, 0, 1, 0, 0], .b 2, .c [1, 1, 1, 1]], ⟨[], ⟨[], []⟩⟩, fun p => some (.inl ())⟩
abbrev rcheck_l3_e1 : Leaf ((Unit) ⊕ (Int × List (List Int) × List Int × Int)) := ⟨[.c [1, 1, 1, 0, 1, 0, 0, 1, 1], .l [1, 1, 1, 0, 1, 0, 0], .b 2, .c [1, 1, 1, 1]], ⟨[1, 4], ⟨[.own 0 0, .i .i64], [.segs [.sl (.sl (.int .i64)), .sl (.int .i64), .i .i64]]⟩⟩, fun p => some (.inr (p.1.2.1, p.2.1.1, p.2.1.2.1, p.2.1.2.2.1))⟩
noncomputable def rcheck_l3_L (N : Nat) : LoopS := { at_ := rcheck_l3_at, sta := rcheck_l3_st, exits := [([.c [1, 1, 1, 0, 1, 0, 0, 1, 0, 0, 1, 0, 0, 1, 0, 0, 1, 0, 0], .c [1, 1, 1, 0, 1, 0, 0, 1, 0, 0, 1, 0, 0, 1, 0, 0, 1, 0, 1], .b 5, .c [1, 1, 1, 0, 1, 0, 0, 1, 0, 0, 1, 0, 0, 1, 1], .l [1, 1, 1, 0, 1, 0, 0, 1, 0, 0, 1, 0, 0], .b 4, .b 3, .c [1, 1, 1, 0, 1, 0, 0, 1, 1], .l [1, 1, 1, 0, 1, 0, 0], .b 2, .c [1, 1, 1, 1]], ⟨[], ⟨[], []⟩⟩), ([.c [1, 1, 1, 0, 1, 0, 0, 1, 1], .l [1, 1, 1, 0, 1, 0, 0], .b 2, .c [1, 1, 1, 1]], ⟨[1, 4], ⟨[.own 0 0, .i .i64], [.segs [.sl (.sl (.int .i64)), .sl (.int .i64), .i .i64]]⟩⟩)], run := fun p k => (rcheck_l3 N N p.1.2.1 p.1.2.2.1 p.2.1.1 p.2.1.2.1 p.2.1.2.2.1).bind fun e => match e with | .inl x => k (.inl ((), ())) | .inr x => k (.inr (.inl (((), x.1, ()), ((x.2.1, x.2.2.1, x.2.2.2, ()), ())))) }
theorem rcheck_l3_eq (N n_ : Nat) (t : Int) (k : Int) (e : List (List Int)) (e2 : List Int) (e3 : Int) : ev (Z := (Unit) ⊕ (Int × List (List Int) × List Int × Int)) Try.prog (rcheck_sp N) rcheck_B [rcheck_l1_L N] [rcheck_l3_h (rcheck_l3 N n_), rcheck_l3_e0, rcheck_l3_e1] none 400 true rcheck_l3_at (stL rcheck_l3_st (((), t, k, ()), ((e, e2, e3, ()), ()))) (stH rcheck_l3_st (((), t, k, ()), ((e, e2, e3, ()), ()))) = rcheck_l3 N (n_ + 1) t k e e2 e3 := by kernel_rfl
theorem rcheck_l3_ok (N : Nat) {top : Bool} : LoopOK Try.prog rcheck_B.c rcheck_B.n rcheck_B.m0 top (rcheck_l3_L N) := loop_of_ev (Z := (Unit) ⊕ (Int × List (List Int) × List Int × Int)) (N := N) (fun m p => rcheck_l3 N m p.1.2.1 p.1.2.2.1 p.2.1.1 p.2.1.2.1 p.2.1.2.2.1) (fun e => match e with | .inl x => .inl ((), ()) | .inr x => .inr (.inl (((), x.1, ()), ((x.2.1, x.2.2.1, x.2.2.2, ()), ())))) (fun _ p k => bind_congr_ (rcheck_l3 N N p.1.2.1 p.1.2.2.1 p.2.1.1 p.2.1.2.1 p.2.1.2.2.1) _ _ (fun e => by rcases e with x | x <;> rfl)) (fun _ => rfl) (fun m z E Xc hE hX hrec hx => leaf_of_ev (B := rcheck_B) (loops := [rcheck_l1_L N]) (leaves := [rcheck_l3_h (rcheck_l3 N m), rcheck_l3_e0, rcheck_l3_e1]) (rcheck_all N) mixed ⟨rcheck_l1_ok N, trivial⟩ hE hX ⟨hrec, (fun p hp => by obtain rfl := Option.some.inj hp; exact hx), (fun p hp => by obtain rfl := Option.some.inj hp; exact hx), trivial⟩ RetOK.no (fun p => rcheck_l3_eq N m p.1.2.1 p.1.2.2.1 p.2.1.1 p.2.1.2.1 p.2.1.2.2.1))
abbrev rcheck_l2_at : List PI := [.c [1, 1, 1, 0, 1, 0, 0, 0, 0], .c [1, 1, 1, 0, 1, 0, 0, 0, 1], .c [1, 1, 1, 0, 1, 0, 0, 1], .l [1, 1, 1, 0, 1, 0, 0], .b 2, .c [1, 1, 1, 1]]
abbrev rcheck_l2_st : Sta := ⟨[1, 4], ⟨[.own 0 0, .i .i64], [.segs [.sl (.sl (.int .i64)), .sl (.int .i64), .i .i64]]⟩⟩
abbrev rcheck_l2_h (rec : Int → (List (List Int)) → (List Int) → Int → Option ((Unit) ⊕ (List (List Int) × List Int × Int))) : Leaf ((Unit) ⊕ (List (List Int) × List Int × Int)) := ⟨rcheck_l2_at, rcheck_l2_st, fun p => rec p.1.2.1 p.2.1.1 p.2.1.2.1 p.2.1.2.2.1⟩
abbrev rcheck_l2_e0 : Leaf ((Unit) ⊕ (List (List Int) × List Int × Int)) := ⟨[.c [1, 1, 1, 0, 1, 0, 0, 1, 0, 0, 1, 0, 0, 1, 0, 0, 1, 0, 0], .c [1, 1, 1, 0, 1, 0, 0, 1, 0, 0, 1, 0, 0, 1, 0, 0, 1, 0, 1], .b 5, .c [1, 1, 1, 0, 1, 0, 0, 1, 0, 0, 1, 0, 0, 1, 1], .l [1, 1, 1, 0, 1, 0, 0, 1, 0, 0, 1, 0, 0], .b 4, .b 3, .c [1, 1, 1, 0, 1, 0, 0, 1, 1], .l [1, 1, 1, 0, 1, 0, 0], .b 2, .c [1, 1, 1, 1]], ⟨[], ⟨[], []⟩⟩, fun p => some (.inl ())⟩
abbrev rcheck_l2_e1 : Leaf ((Unit) ⊕ (List (List Int) × List Int × Int)) := ⟨[.c [1, 1, 1, 1, 0, 0], .c [1, 1, 1, 1, 0, 1], .c [1, 1, 1, 1, 1]], ⟨[1], ⟨[.own 0 0], [.segs [.sl (.sl (.int .i64)), .sl (.int .i64), .i .i64]]⟩⟩, fun p => some (.inr (p.2.1.1, p.2.1.2.1, p.2.1.2.2.1))⟩
noncomputable def rcheck_l2_L (N : Nat) : LoopS := { at_ := rcheck_l2_at, sta := rcheck_l2_st, exits := [([.c [1, 1, 1, 0, 1, 0, 0, 1, 0, 0, 1, 0, 0, 1, 0, 0, 1, 0, 0], .c [1, 1, 1, 0, 1, 0, 0, 1, 0, 0, 1, 0, 0, 1, 0, 0, 1, 0, 1], .b 5, .c [1, 1, 1, 0, 1, 0, 0, 1, 0, 0, 1, 0, 0, 1, 1], .l [1, 1, 1, 0, 1, 0, 0, 1, 0, 0, 1, 0, 0], .b 4, .b 3, .c [1, 1, 1, 0, 1, 0, 0, 1, 1], .l [1, 1, 1, 0, 1, 0, 0], .b 2, .c [1, 1, 1, 1]], ⟨[], ⟨[], []⟩⟩), ([.c [1, 1, 1, 1, 0, 0], .c [1, 1, 1, 1, 0, 1], .c [1, 1, 1, 1, 1]], ⟨[1], ⟨[.own 0 0], [.segs [.sl (.sl (.int .i64)), .sl (.int .i64), .i .i64]]⟩⟩)], run := fun p k => (rcheck_l2 N N p.1.2.1 p.2.1.1 p.2.1.2.1 p.2.1.2.2.1).bind fun e => match e with | .inl x => k (.inl ((), ())) | .inr x => k (.inr (.inl (((), ()), ((x.1, x.2.1, x.2.2, ()), ())))) }
theorem rcheck_l2_eq (N n_ : Nat) (t : Int) (e : List (List Int)) (e2 : List Int) (e3 : Int) : ev (Z := (Unit) ⊕ (List (List Int) × List Int × Int)) Try.prog (rcheck_sp N) rcheck_B [rcheck_l1_L N, rcheck_l3_L N] [rcheck_l2_h (rcheck_l2 N n_), rcheck_l2_e0, rcheck_l2_e1] none 400 true rcheck_l2_at (stL rcheck_l2_st (((), t, ()), ((e, e2, e3, ()), ()))) (stH rcheck_l2_st (((), t, ()), ((e, e2, e3, ()), ()))) = rcheck_l2 N (n_ + 1) t e e2 e3 := by kernel_rfl
theorem rcheck_l2_ok (N : Nat) {top : Bool} : LoopOK Try.prog rcheck_B.c rcheck_B.n rcheck_B.m0 top (rcheck_l2_L N) := loop_of_ev (Z := (Unit) ⊕ (List (List Int) × List Int × Int)) (N := N) (fun m p => rcheck_l2 N m p.1.2.1 p.2.1.1 p.2.1.2.1 p.2.1.2.2.1) (fun e => match e with | .inl x => .inl ((), ()) | .inr x => .inr (.inl (((), ()), ((x.1, x.2.1, x.2.2, ()), ())))) (fun _ p k => bind_congr_ (rcheck_l2 N N p.1.2.1 p.2.1.1 p.2.1.2.1 p.2.1.2.2.1) _ _ (fun e => by rcases e with x | x <;> rfl)) (fun _ => rfl) (fun m z E Xc hE hX hrec hx => leaf_of_ev (B := rcheck_B) (loops := [rcheck_l1_L N, rcheck_l3_L N]) (leaves := [rcheck_l2_h (rcheck_l2 N m), rcheck_l2_e0, rcheck_l2_e1]) (rcheck_all N) mixed ⟨rcheck_l1_ok N, rcheck_l3_ok N, trivial⟩ hE hX ⟨hrec, (fun p hp => by obtain rfl := Option.some.inj hp; exact hx), (fun p hp => by obtain rfl := Option.some.inj hp; exact hx), trivial⟩ RetOK.no (fun p => rcheck_l2_eq N m p.1.2.1 p.2.1.1 p.2.1.2.1 p.2.1.2.2.1))
abbrev rcheck_l4_at : List PI := [.c [1, 1, 1, 1, 0, 1, 0, 0, 0, 0], .c [1, 1, 1, 1, 0, 1, 0, 0, 0, 1], .c [1, 1, 1, 1, 0, 1, 0, 0, 1], .l [1, 1, 1, 1, 0, 1, 0, 0], .b 6, .c [1, 1, 1, 1, 1]]
abbrev rcheck_l4_st : Sta := ⟨[1, 6], ⟨[.own 0 0, .i .i64], [.segs [.sl (.sl (.int .i64)), .sl (.int .i64), .i .i64]]⟩⟩
abbrev rcheck_l4_h (rec : Int → (List (List Int)) → (List Int) → Int → Option ((Unit) ⊕ (List (List Int) × List Int × Int))) : Leaf ((Unit) ⊕ (List (List Int) × List Int × Int)) := ⟨rcheck_l4_at, rcheck_l4_st, fun p => rec p.1.2.1 p.2.1.1 p.2.1.2.1 p.2.1.2.2.1⟩
abbrev rcheck_l4_e0 : Leaf ((Unit) ⊕ (List (List Int) × List Int × Int)) := ⟨[.c [1, 1, 1, 1, 0, 1, 0, 0, 1, 0, 0, 1, 0, 0], .c [1, 1, 1, 1, 0, 1, 0, 0, 1, 0, 0, 1, 0, 1], .b 7, .c [1, 1, 1, 1, 0, 1, 0, 0, 1, 1], .l [1, 1, 1, 1, 0, 1, 0, 0], .b 6, .c [1, 1, 1, 1, 1]], ⟨[], ⟨[], []⟩⟩, fun p => some (.inl ())⟩
abbrev rcheck_l4_e1 : Leaf ((Unit) ⊕ (List (List Int) × List Int × Int)) := ⟨[.c [1, 1, 1, 1, 1, 0, 0], .c [1, 1, 1, 1, 1, 0, 1], .c [1, 1, 1, 1, 1, 1]], ⟨[1], ⟨[.own 0 0], [.segs [.sl (.sl (.int .i64)), .sl (.int .i64), .i .i64]]⟩⟩, fun p => some (.inr (p.2.1.1, p.2.1.2.1, p.2.1.2.2.1))⟩
noncomputable def rcheck_l4_L (N : Nat) : LoopS := { at_ := rcheck_l4_at, sta := rcheck_l4_st, exits := [([.c [1, 1, 1, 1, 0, 1, 0, 0, 1, 0, 0, 1, 0, 0], .c [1, 1, 1, 1, 0, 1, 0, 0, 1, 0, 0, 1, 0, 1], .b 7, .c [1, 1, 1, 1, 0, 1, 0, 0, 1, 1], .l [1, 1, 1, 1, 0, 1, 0, 0], .b 6, .c [1, 1, 1, 1, 1]], ⟨[], ⟨[], []⟩⟩), ([.c [1, 1, 1, 1, 1, 0, 0], .c [1, 1, 1, 1, 1, 0, 1], .c [1, 1, 1, 1, 1, 1]], ⟨[1], ⟨[.own 0 0], [.segs [.sl (.sl (.int .i64)), .sl (.int .i64), .i .i64]]⟩⟩)], run := fun p k => (rcheck_l4 N N p.1.2.1 p.2.1.1 p.2.1.2.1 p.2.1.2.2.1).bind fun e => match e with | .inl x => k (.inl ((), ())) | .inr x => k (.inr (.inl (((), ()), ((x.1, x.2.1, x.2.2, ()), ())))) }
theorem rcheck_l4_eq (N n_ : Nat) (i : Int) (e : List (List Int)) (e2 : List Int) (e3 : Int) : ev (Z := (Unit) ⊕ (List (List Int) × List Int × Int)) Try.prog (rcheck_sp N) rcheck_B [rcheck_l1_L N, rcheck_l3_L N, rcheck_l2_L N] [rcheck_l4_h (rcheck_l4 N n_), rcheck_l4_e0, rcheck_l4_e1] none 400 true rcheck_l4_at (stL rcheck_l4_st (((), i, ()), ((e, e2, e3, ()), ()))) (stH rcheck_l4_st (((), i, ()), ((e, e2, e3, ()), ()))) = rcheck_l4 N (n_ + 1) i e e2 e3 := by kernel_rfl
theorem rcheck_l4_ok (N : Nat) {top : Bool} : LoopOK Try.prog rcheck_B.c rcheck_B.n rcheck_B.m0 top (rcheck_l4_L N) := loop_of_ev (Z := (Unit) ⊕ (List (List Int) × List Int × Int)) (N := N) (fun m p => rcheck_l4 N m p.1.2.1 p.2.1.1 p.2.1.2.1 p.2.1.2.2.1) (fun e => match e with | .inl x => .inl ((), ()) | .inr x => .inr (.inl (((), ()), ((x.1, x.2.1, x.2.2, ()), ())))) (fun _ p k => bind_congr_ (rcheck_l4 N N p.1.2.1 p.2.1.1 p.2.1.2.1 p.2.1.2.2.1) _ _ (fun e => by rcases e with x | x <;> rfl)) (fun _ => rfl) (fun m z E Xc hE hX hrec hx => leaf_of_ev (B := rcheck_B) (loops := [rcheck_l1_L N, rcheck_l3_L N, rcheck_l2_L N]) (leaves := [rcheck_l4_h (rcheck_l4 N m), rcheck_l4_e0, rcheck_l4_e1]) (rcheck_all N) mixed ⟨rcheck_l1_ok N, rcheck_l3_ok N, rcheck_l2_ok N, trivial⟩ hE hX ⟨hrec, (fun p hp => by obtain rfl := Option.some.inj hp; exact hx), (fun p hp => by obtain rfl := Option.some.inj hp; exact hx), trivial⟩ RetOK.no (fun p => rcheck_l4_eq N m p.1.2.1 p.2.1.1 p.2.1.2.1 p.2.1.2.2.1))
abbrev rcheck_st : Sta := ⟨[0], ⟨[.agg [.sl (.sl (.int .i64)), .sl (.int .i64), .i .i64]], []⟩⟩
theorem rcheck_eq (N : Nat) (e : List (List Int)) (e2 : List Int) (e3 : Int) : ev (Z := Int) Try.prog (rcheck_sp N) rcheck_B [rcheck_l1_L N, rcheck_l3_L N, rcheck_l2_L N, rcheck_l4_L N] [] (some rcheck_rt) 400 false [.c [0], .c [1]] (stL rcheck_st (((e, e2, e3, ()), ()), ())) (stH rcheck_st (((e, e2, e3, ()), ()), ())) = rcheck_S N e e2 e3 := by kernel_rfl
noncomputable def sp_rcheck (N : Nat) : Spec := { f := 41, ins := ⟨[.agg [.sl (.sl (.int .i64)), .sl (.int .i64), .i .i64]], []⟩, outs := [⟨[.i .i64], []⟩], run := fun p k => (rcheck_S N p.1.1.1 p.1.1.2.1 p.1.1.2.2.1).bind fun r => k ((r, ()), ()) }
theorem sp_rcheck_ok (N : Nat) : SpecOK Try.prog (sp_rcheck N) := fn_sound (B := rcheck_B) (loops := [rcheck_l1_L N, rcheck_l3_L N, rcheck_l2_L N, rcheck_l4_L N]) (leaves := []) (fun p => rcheck_S N p.1.1.1 p.1.1.2.1 p.1.1.2.2.1) (fun r => ((r, ()), ())) rcheck_rt (fun _ _ _ => rfl) (fun r z h => by cases h; rfl) Try.func41 (by kernel_rfl) (by kernel_rfl) (by kernel_rfl) rfl rfl (by kernel_rfl) (fun args w => Sem.pv_run _ _ _ (by kernel_rfl) w) (rcheck_all N) mixed ⟨rcheck_l1_ok N, rcheck_l3_ok N, rcheck_l2_ok N, rcheck_l4_ok N, trivial⟩ (fun z E Xc hE hX hret => trivial) (fun p => rcheck_eq N p.1.1.1 p.1.1.2.1 p.1.1.2.2.1)

def rtwo_S (N : Nat) (e : List (List Int)) (e2 : List Int) (e3 : Int) (p : Int) (p2 : Int) : Option Int :=
  (rcheck_S N e e2 e3).bind fun x_1 =>
  br (!decide (x_1 = 0))
    (some x_1)
    (chk ((e.length : Int) - 1) <|
    (off_S N p 0 ((e.length : Int) - 1)).bind fun x_2 =>
    br x_2
      (some 1)
      (chk ((e.length : Int) - 1) <|
      (off_S N p2 0 ((e.length : Int) - 1)).bind fun x_3 =>
      br x_3
        (some 1)
        (some 0)))
noncomputable def rtwo_sp (N : Nat) : List Spec := [sp_off N, sp_rcheck N]
theorem rtwo_all (N : Nat) : AllP (SpecOK Try.prog) (rtwo_sp N) := ⟨sp_off_ok N, sp_rcheck_ok N, trivial⟩
noncomputable def rtwo_c : Code := (Try.f42.body).getD .skip
noncomputable abbrev rtwo_B : Body := { c := rtwo_c, n := 27, res := [.tmp 4], outs := [⟨[.i .i64], []⟩], m0 := 0 }
abbrev rtwo_rt : altD rtwo_B.outs → Option Int := fun r => some r.1.1
abbrev rtwo_st : Sta := ⟨[0, 1], ⟨[.agg [.sl (.sl (.int .i64)), .sl (.int .i64), .i .i64], .agg [.i .i64, .i .i64]], []⟩⟩
theorem rtwo_eq (N : Nat) (e : List (List Int)) (e2 : List Int) (e3 : Int) (p : Int) (p2 : Int) : ev (Z := Int) Try.prog (rtwo_sp N) rtwo_B [] [] (some rtwo_rt) 400 false [.c [0], .c [1]] (stL rtwo_st (((e, e2, e3, ()), (p, p2, ()), ()), ())) (stH rtwo_st (((e, e2, e3, ()), (p, p2, ()), ()), ())) = rtwo_S N e e2 e3 p p2 := by kernel_rfl
noncomputable def sp_rtwo (N : Nat) : Spec := { f := 42, ins := ⟨[.agg [.sl (.sl (.int .i64)), .sl (.int .i64), .i .i64], .agg [.i .i64, .i .i64]], []⟩, outs := [⟨[.i .i64], []⟩], run := fun p k => (rtwo_S N p.1.1.1 p.1.1.2.1 p.1.1.2.2.1 p.1.2.1.1 p.1.2.1.2.1).bind fun r => k ((r, ()), ()) }
theorem sp_rtwo_ok (N : Nat) : SpecOK Try.prog (sp_rtwo N) := fn_sound (B := rtwo_B) (loops := []) (leaves := []) (fun p => rtwo_S N p.1.1.1 p.1.1.2.1 p.1.1.2.2.1 p.1.2.1.1 p.1.2.1.2.1) (fun r => ((r, ()), ())) rtwo_rt (fun _ _ _ => rfl) (fun r z h => by cases h; rfl) Try.func42 (by kernel_rfl) (by kernel_rfl) (by kernel_rfl) rfl rfl (by kernel_rfl) (fun args w => Sem.pv_run _ _ _ (by kernel_rfl) w) (rtwo_all N) mixed trivial (fun z E Xc hE hX hret => trivial) (fun p => rtwo_eq N p.1.1.1 p.1.1.2.1 p.1.1.2.2.1 p.1.2.1.1 p.1.2.1.2.1)

def fits_j1 (N : Nat) (rec : (List (Int × Int)) → Int → Int → Int → (List (List Int)) → (List Int) → Int → Int → Int → Option ((Unit) ⊕ ((Unit) ⊕ ((Unit) ⊕ (Unit))))) (l : List (Int × Int)) (a : Int) (b : Int) (i : Int) (e : List (List Int)) (e2 : List Int) (e3 : Int) (p : Int) (p2 : Int) : Option ((Unit) ⊕ ((Unit) ⊕ ((Unit) ⊕ (Unit)))) :=
  chk (i + 1) <|
  rec l a b (i + 1) e e2 e3 p p2
def fits_l1 (N : Nat) : Nat → (List (Int × Int)) → Int → Int → Int → (List (List Int)) → (List Int) → Int → Int → Int → Option ((Unit) ⊕ ((Unit) ⊕ ((Unit) ⊕ (Unit))))
  | 0, _, _, _, _, _, _, _, _, _ => none
  | n_ + 1, l, a, b, i, e, e2, e3, p, p2 =>
    br (decide (i < (l.length : Int)))
      (idx l i fun x_1 =>
      br (decide (x_1.1 = 1))
        (idx l i fun x_2 =>
        br (decide (x_2.2 ≤ a))
          (some (.inl ()))
          (idx l i fun x_3 =>
          idx e p fun x_4 =>
          br (decide ((x_4.length : Int) ≤ x_3.2))
            (some (.inl ()))
            (idx e p fun x_5 =>
            idx l i fun x_6 =>
            idx x_5 x_6.2 fun x_7 =>
            idx e2 i fun x_8 =>
            br (!decide (x_7 = x_8))
              (some (.inl ()))
              (idx l i fun x_9 =>
              fits_j1 N (fits_l1 N n_) l x_9.2 b i e e2 e3 p p2))))
        (idx l i fun x_10 =>
        br (decide (x_10.1 = 2))
          (idx l i fun x_11 =>
          br (decide (x_11.2 ≤ b))
            (some (.inr (.inl ())))
            (idx l i fun x_12 =>
            idx e p2 fun x_13 =>
            br (decide ((x_13.length : Int) ≤ x_12.2))
              (some (.inr (.inl ())))
              (idx e p2 fun x_14 =>
              idx l i fun x_15 =>
              idx x_14 x_15.2 fun x_16 =>
              idx e2 i fun x_17 =>
              br (!decide (x_16 = x_17))
                (some (.inr (.inl ())))
                (idx l i fun x_18 =>
                fits_j1 N (fits_l1 N n_) l a x_18.2 i e e2 e3 p p2))))
          (idx l i fun x_19 =>
          br (!decide (x_19.1 = 3))
            (some (.inr (.inr (.inl ()))))
            (idx l i fun x_20 =>
            br (!decide (x_20.2 = 0))
              (some (.inr (.inr (.inl ()))))
              (fits_j1 N (fits_l1 N n_) l a b i e e2 e3 p p2)))))
      (some (.inr (.inr (.inr ()))))
def fits_S (N : Nat) (e : List (List Int)) (e2 : List Int) (e3 : Int) (p : Int) (p2 : Int) (l : List (Int × Int)) : Option Bool :=
  (fits_l1 N N l (-1) (-1) 0 e e2 e3 p p2).bind fun e => match e with
  | .inl _ =>
    some false
  | .inr (.inl _) =>
    some false
  | .inr (.inr (.inl _)) =>
    some false
  | .inr (.inr (.inr _)) =>
    some true
def faulty_j1 (N : Nat) (rec : (List (Int × Int)) → Int → Int → Option Int) (l : List (Int × Int)) (n : Int) (i : Int) : Option Int :=
  chk (i + 1) <|
  rec l n (i + 1)
def faulty_l1 (N : Nat) : Nat → (List (Int × Int)) → Int → Int → Option Int
  | 0, _, _, _ => none
  | n_ + 1, l, n, i =>
    br (decide (i < (l.length : Int)))
      (idx l i fun x_3 =>
      br (decide (x_3.1 = 3))
        (chk (n + 1) <|
        faulty_j1 N (faulty_l1 N n_) l (n + 1) i)
        (chk (n - 1) <|
        faulty_j1 N (faulty_l1 N n_) l (n - 1) i))
      (some (n))
def faulty_S (N : Nat) (e : List (List Int)) (e2 : List Int) (e3 : Int) (p : Int) (p2 : Int) (l : List (Int × Int)) : Option Int :=
  idx e p fun x_1 =>
  idx e p2 fun x_2 =>
  chk ((x_1.length : Int) + (x_2.length : Int)) <|
  (faulty_l1 N N l ((x_1.length : Int) + (x_2.length : Int)) 0).bind fun n_4 =>
  some n_4
def rfaults_S (N : Nat) (e : List (List Int)) (e2 : List Int) (e3 : Int) (p : Int) (p2 : Int) (l : List (Int × Int)) : Option (Int × Int) :=
  (rtwo_S N e e2 e3 p p2).bind fun x_1 =>
  br (!decide (x_1 = 0))
    (some (0, x_1))
    (br (!decide ((l.length : Int) = (e2.length : Int)))
      (some (0, 2))
      ((fits_S N e e2 e3 p p2 l).bind fun x_2 =>
      br (!x_2)
        (some (0, 8))
        ((faulty_S N e e2 e3 p p2 l).bind fun x_3 =>
        some (x_3, 0))))
def great_l1 (N : Nat) : Nat → (List (List Int)) → Int → Int → Option ((Unit) ⊕ (Unit))
  | 0, _, _, _ => none
  | n_ + 1, u, u2, u3 =>
    br (decide (u3 < u2))
      (idx u u3 fun x_1 =>
      br (decide (9 < (x_1.length : Int)))
        (some (.inl ()))
        (chk (u3 + 1) <|
        great_l1 N n_ u u2 (u3 + 1)))
      (some (.inr ()))
def great_S (N : Nat) (e : List (List Int)) (e2 : List Int) (e3 : Int) : Option Bool :=
  br (decide (8 < (e.length : Int)))
    (some true)
    (br (decide (14 < (e2.length : Int)))
      (some true)
      ((great_l1 N N e (e.length : Int) 0).bind fun e => match e with
      | .inl _ =>
        some true
      | .inr _ =>
        some false))
noncomputable def great_sp (N : Nat) : List Spec := []
theorem great_all (N : Nat) : AllP (SpecOK Try.prog) (great_sp N) := trivial
noncomputable def great_c : Code := (Try.f38.body).getD .skip
noncomputable abbrev great_B : Body := { c := great_c, n := 26, res := [.tmp 2], outs := [⟨[.b], []⟩], m0 := 0 }
abbrev great_rt : altD great_B.outs → Option Bool := fun r => some r.1.1
abbrev great_l1_at : List PI := [.c [1, 1, 0, 1, 0, 0, 0], .c [1, 1, 0, 1, 0, 0, 1], .l [1, 1, 0, 1, 0, 0], .b 0, .c [1, 1, 1]]
abbrev great_l1_st : Sta := ⟨[16, 17, 18], ⟨[.sl (.sl (.int .i64)), .i .i64, .i .i64], []⟩⟩
abbrev great_l1_h (rec : (List (List Int)) → Int → Int → Option ((Unit) ⊕ (Unit))) : Leaf ((Unit) ⊕ (Unit)) := ⟨great_l1_at, great_l1_st, fun p => rec p.1.1 p.1.2.1 p.1.2.2.1⟩
abbrev great_l1_e0 : Leaf ((Unit) ⊕ (Unit)) := ⟨[.c [1, 1, 0, 1, 0, 0, 1, 1, 0, 0, 1, 1, 0, 0], .c [1, 1, 0, 1, 0, 0, 1, 1, 0, 0, 1, 1, 0, 1], .b 1, .c [1, 1, 0, 1, 0, 0, 1, 1, 1], .l [1, 1, 0, 1, 0, 0], .b 0, .c [1, 1, 1]], ⟨[], ⟨[], []⟩⟩, fun p => some (.inl ())⟩
abbrev great_l1_e1 : Leaf ((Unit) ⊕ (Unit)) := ⟨[.c [1, 1, 1, 0], .c [1, 1, 1, 1]], ⟨[], ⟨[], []⟩⟩, fun p => some (.inr ())⟩
noncomputable def great_l1_L (N : Nat) : LoopS := { at_ := great_l1_at, sta := great_l1_st, exits := [([.c [1, 1, 0, 1, 0, 0, 1, 1, 0, 0, 1, 1, 0, 0], .c [1, 1, 0, 1, 0, 0, 1, 1, 0, 0, 1, 1, 0, 1], .b 1, .c [1, 1, 0, 1, 0, 0, 1, 1, 1], .l [1, 1, 0, 1, 0, 0], .b 0, .c [1, 1, 1]], ⟨[], ⟨[], []⟩⟩), ([.c [1, 1, 1, 0], .c [1, 1, 1, 1]], ⟨[], ⟨[], []⟩⟩)], run := fun p k => (great_l1 N N p.1.1 p.1.2.1 p.1.2.2.1).bind fun e => match e with | .inl x => k (.inl ((), ())) | .inr x => k (.inr (.inl ((), ()))) }
theorem great_l1_eq (N n_ : Nat) (u : List (List Int)) (u2 : Int) (u3 : Int) : ev (Z := (Unit) ⊕ (Unit)) Try.prog (great_sp N) great_B [] [great_l1_h (great_l1 N n_), great_l1_e0, great_l1_e1] none 400 true great_l1_at (stL great_l1_st ((u, u2, u3, ()), ())) (stH great_l1_st ((u, u2, u3, ()), ())) = great_l1 N (n_ + 1) u u2 u3 := by kernel_rfl
theorem great_l1_ok (N : Nat) {top : Bool} : LoopOK Try.prog great_B.c great_B.n great_B.m0 top (great_l1_L N) := loop_of_ev (Z := (Unit) ⊕ (Unit)) (N := N) (fun m p => great_l1 N m p.1.1 p.1.2.1 p.1.2.2.1) (fun e => match e with | .inl x => .inl ((), ()) | .inr x => .inr (.inl ((), ()))) (fun _ p k => bind_congr_ (great_l1 N N p.1.1 p.1.2.1 p.1.2.2.1) _ _ (fun e => by rcases e with x | x <;> rfl)) (fun _ => rfl) (fun m z E Xc hE hX hrec hx => leaf_of_ev (B := great_B) (loops := []) (leaves := [great_l1_h (great_l1 N m), great_l1_e0, great_l1_e1]) (great_all N) mixed trivial hE hX ⟨hrec, (fun p hp => by obtain rfl := Option.some.inj hp; exact hx), (fun p hp => by obtain rfl := Option.some.inj hp; exact hx), trivial⟩ RetOK.no (fun p => great_l1_eq N m p.1.1 p.1.2.1 p.1.2.2.1))
abbrev great_st : Sta := ⟨[0], ⟨[.agg [.sl (.sl (.int .i64)), .sl (.int .i64), .i .i64]], []⟩⟩
theorem great_eq (N : Nat) (e : List (List Int)) (e2 : List Int) (e3 : Int) : ev (Z := Bool) Try.prog (great_sp N) great_B [great_l1_L N] [] (some great_rt) 400 false [.c [0], .c [1]] (stL great_st (((e, e2, e3, ()), ()), ())) (stH great_st (((e, e2, e3, ()), ()), ())) = great_S N e e2 e3 := by kernel_rfl
noncomputable def sp_great (N : Nat) : Spec := { f := 38, ins := ⟨[.agg [.sl (.sl (.int .i64)), .sl (.int .i64), .i .i64]], []⟩, outs := [⟨[.b], []⟩], run := fun p k => (great_S N p.1.1.1 p.1.1.2.1 p.1.1.2.2.1).bind fun r => k ((r, ()), ()) }
theorem sp_great_ok (N : Nat) : SpecOK Try.prog (sp_great N) := fn_sound (B := great_B) (loops := [great_l1_L N]) (leaves := []) (fun p => great_S N p.1.1.1 p.1.1.2.1 p.1.1.2.2.1) (fun r => ((r, ()), ())) great_rt (fun _ _ _ => rfl) (fun r z h => by cases h; rfl) Try.func38 (by kernel_rfl) (by kernel_rfl) (by kernel_rfl) rfl rfl (by kernel_rfl) (fun args w => Sem.pv_run _ _ _ (by kernel_rfl) w) (great_all N) mixed ⟨great_l1_ok N, trivial⟩ (fun z E Xc hE hX hret => trivial) (fun p => great_eq N p.1.1.1 p.1.1.2.1 p.1.1.2.2.1)

def wide_l1 (N : Nat) : Nat → Int → (List (List Int)) → Int → Int → Option ((Unit) ⊕ (Unit))
  | 0, _, _, _, _ => none
  | n_ + 1, words, u, u2, u3 =>
    br (decide (u3 < u2))
      (idx u u3 fun x_1 =>
      br (decide (words < (x_1.length : Int)))
        (br (decide ((x_1.length : Int) ≤ 6))
          (some (.inl ()))
          (chk (u3 + 1) <|
          wide_l1 N n_ words u u2 (u3 + 1)))
        (chk (u3 + 1) <|
        wide_l1 N n_ words u u2 (u3 + 1)))
      (some (.inr ()))
def wide_S (N : Nat) (e : List (List Int)) (e2 : List Int) (e3 : Int) (heard : Int) (words : Int) : Option Bool :=
  br (decide (heard < (e2.length : Int)))
    (br (decide ((e2.length : Int) ≤ 10))
      (some true)
      ((wide_l1 N N words e (e.length : Int) 0).bind fun e => match e with
      | .inl _ =>
        some true
      | .inr _ =>
        some false))
    ((wide_l1 N N words e (e.length : Int) 0).bind fun e => match e with
    | .inl _ =>
      some true
    | .inr _ =>
      some false)
def places_l1 (N : Nat) : Nat → (List (Int × Int)) → Int → Int → (List (Int × Int)) → Option (List (Int × Int))
  | 0, _, _, _, _ => none
  | n_ + 1, u, u2, u3, out =>
    br (decide (u3 < u2))
      (idx u u3 fun x_1 =>
      lim (out.length + [(x_1.1, x_1.2)].length) <|
      chk (u3 + 1) <|
      places_l1 N n_ u u2 (u3 + 1) (out ++ [(x_1.1, x_1.2)]))
      (some (out))
def places_S (N : Nat) (l : List (Int × Int)) : Option (List (Int × Int)) :=
  (places_l1 N N l (l.length : Int) 0 []).bind fun out_2 =>
  some out_2
def equalf_l1 (N : Nat) : Nat → (List (List Int)) → (List (List Int)) → Int → Int → Option ((Unit) ⊕ (Unit))
  | 0, _, _, _, _ => none
  | n_ + 1, s2, u, u2, u3 =>
    br (decide (u3 < u2))
      (idx u u3 fun x_1 =>
      idx s2 u3 fun x_2 =>
      (equali_S N x_1 x_2).bind fun x_3 =>
      br (!x_3)
        (some (.inl ()))
        (chk (u3 + 1) <|
        equalf_l1 N n_ s2 u u2 (u3 + 1)))
      (some (.inr ()))
def equalf_S (N : Nat) (s1 : List (List Int)) (s2 : List (List Int)) : Option Bool :=
  br (!decide ((s1.length : Int) = (s2.length : Int)))
    (some false)
    ((equalf_l1 N N s2 s1 (s1.length : Int) 0).bind fun e => match e with
    | .inl _ =>
      some false
    | .inr _ =>
      some true)
noncomputable def equalf_sp (N : Nat) : List Spec := [sp_equali N]
theorem equalf_all (N : Nat) : AllP (SpecOK Try.prog) (equalf_sp N) := ⟨sp_equali_ok N, trivial⟩
noncomputable def equalf_c : Code := (Try.f112.body).getD .skip
noncomputable abbrev equalf_B : Body := { c := equalf_c, n := 32, res := [.tmp 6], outs := [⟨[.b], []⟩], m0 := 0 }
abbrev equalf_rt : altD equalf_B.outs → Option Bool := fun r => some r.1.1
abbrev equalf_l1_at : List PI := [.c [1, 1, 0, 1, 0, 0, 0], .c [1, 1, 0, 1, 0, 0, 1], .l [1, 1, 0, 1, 0, 0], .b 0, .c [1, 1, 1]]
abbrev equalf_l1_st : Sta := ⟨[1, 2, 15, 16, 17], ⟨[.sl (.sl (.int .i64)), .fn 103 [] [], .sl (.sl (.int .i64)), .i .i64, .i .i64], []⟩⟩
abbrev equalf_l1_h (rec : (List (List Int)) → (List (List Int)) → Int → Int → Option ((Unit) ⊕ (Unit))) : Leaf ((Unit) ⊕ (Unit)) := ⟨equalf_l1_at, equalf_l1_st, fun p => rec p.1.1 p.1.2.2.1 p.1.2.2.2.1 p.1.2.2.2.2.1⟩
abbrev equalf_l1_e0 : Leaf ((Unit) ⊕ (Unit)) := ⟨[.c [1, 1, 0, 1, 0, 0, 1, 1, 0, 0, 1, 1, 1, 0, 0], .c [1, 1, 0, 1, 0, 0, 1, 1, 0, 0, 1, 1, 1, 0, 1], .b 1, .c [1, 1, 0, 1, 0, 0, 1, 1, 1], .l [1, 1, 0, 1, 0, 0], .b 0, .c [1, 1, 1]], ⟨[], ⟨[], []⟩⟩, fun p => some (.inl ())⟩
abbrev equalf_l1_e1 : Leaf ((Unit) ⊕ (Unit)) := ⟨[.c [1, 1, 1, 0], .c [1, 1, 1, 1]], ⟨[], ⟨[], []⟩⟩, fun p => some (.inr ())⟩
noncomputable def equalf_l1_L (N : Nat) : LoopS := { at_ := equalf_l1_at, sta := equalf_l1_st, exits := [([.c [1, 1, 0, 1, 0, 0, 1, 1, 0, 0, 1, 1, 1, 0, 0], .c [1, 1, 0, 1, 0, 0, 1, 1, 0, 0, 1, 1, 1, 0, 1], .b 1, .c [1, 1, 0, 1, 0, 0, 1, 1, 1], .l [1, 1, 0, 1, 0, 0], .b 0, .c [1, 1, 1]], ⟨[], ⟨[], []⟩⟩), ([.c [1, 1, 1, 0], .c [1, 1, 1, 1]], ⟨[], ⟨[], []⟩⟩)], run := fun p k => (equalf_l1 N N p.1.1 p.1.2.2.1 p.1.2.2.2.1 p.1.2.2.2.2.1).bind fun e => match e with | .inl x => k (.inl ((), ())) | .inr x => k (.inr (.inl ((), ()))) }
theorem equalf_l1_eq (N n_ : Nat) (s2 : List (List Int)) (u : List (List Int)) (u2 : Int) (u3 : Int) : ev (Z := (Unit) ⊕ (Unit)) Try.prog (equalf_sp N) equalf_B [] [equalf_l1_h (equalf_l1 N n_), equalf_l1_e0, equalf_l1_e1] none 400 true equalf_l1_at (stL equalf_l1_st ((s2, ((), ()), u, u2, u3, ()), ())) (stH equalf_l1_st ((s2, ((), ()), u, u2, u3, ()), ())) = equalf_l1 N (n_ + 1) s2 u u2 u3 := by kernel_rfl
theorem equalf_l1_ok (N : Nat) {top : Bool} : LoopOK Try.prog equalf_B.c equalf_B.n equalf_B.m0 top (equalf_l1_L N) := loop_of_ev (Z := (Unit) ⊕ (Unit)) (N := N) (fun m p => equalf_l1 N m p.1.1 p.1.2.2.1 p.1.2.2.2.1 p.1.2.2.2.2.1) (fun e => match e with | .inl x => .inl ((), ()) | .inr x => .inr (.inl ((), ()))) (fun _ p k => bind_congr_ (equalf_l1 N N p.1.1 p.1.2.2.1 p.1.2.2.2.1 p.1.2.2.2.2.1) _ _ (fun e => by rcases e with x | x <;> rfl)) (fun _ => rfl) (fun m z E Xc hE hX hrec hx => leaf_of_ev (B := equalf_B) (loops := []) (leaves := [equalf_l1_h (equalf_l1 N m), equalf_l1_e0, equalf_l1_e1]) (equalf_all N) mixed trivial hE hX ⟨hrec, (fun p hp => by obtain rfl := Option.some.inj hp; exact hx), (fun p hp => by obtain rfl := Option.some.inj hp; exact hx), trivial⟩ RetOK.no (fun p => equalf_l1_eq N m p.1.1 p.1.2.2.1 p.1.2.2.2.1 p.1.2.2.2.2.1))
abbrev equalf_st : Sta := ⟨[0, 1, 2], ⟨[.sl (.sl (.int .i64)), .sl (.sl (.int .i64)), .fn 103 [] []], []⟩⟩
theorem equalf_eq (N : Nat) (s1 : List (List Int)) (s2 : List (List Int)) : ev (Z := Bool) Try.prog (equalf_sp N) equalf_B [equalf_l1_L N] [] (some equalf_rt) 400 false [.c [0], .c [1]] (stL equalf_st ((s1, s2, ((), ()), ()), ())) (stH equalf_st ((s1, s2, ((), ()), ()), ())) = equalf_S N s1 s2 := by kernel_rfl
noncomputable def sp_equalf (N : Nat) : Spec := { f := 112, ins := ⟨[.sl (.sl (.int .i64)), .sl (.sl (.int .i64)), .fn 103 [] []], []⟩, outs := [⟨[.b], []⟩], run := fun p k => (equalf_S N p.1.1 p.1.2.1).bind fun r => k ((r, ()), ()) }
theorem sp_equalf_ok (N : Nat) : SpecOK Try.prog (sp_equalf N) := fn_sound (B := equalf_B) (loops := [equalf_l1_L N]) (leaves := []) (fun p => equalf_S N p.1.1 p.1.2.1) (fun r => ((r, ()), ())) equalf_rt (fun _ _ _ => rfl) (fun r z h => by cases h; rfl) Try.func112 (by kernel_rfl) (by kernel_rfl) (by kernel_rfl) rfl rfl (by kernel_rfl) (fun args w => Sem.pv_run _ _ _ (by kernel_rfl) w) (equalf_all N) mixed ⟨equalf_l1_ok N, trivial⟩ (fun z E Xc hE hX hret => trivial) (fun p => equalf_eq N p.1.1 p.1.2.1)

def liker_S (N : Nat) (a : List (List Int)) (b : List (List Int)) : Option Bool :=
  (equalf_S N a b).bind fun x_1 =>
  some x_1
noncomputable def liker_sp (N : Nat) : List Spec := [sp_equalf N]
theorem liker_all (N : Nat) : AllP (SpecOK Try.prog) (liker_sp N) := ⟨sp_equalf_ok N, trivial⟩
noncomputable def liker_c : Code := (Try.f68.body).getD .skip
noncomputable abbrev liker_B : Body := { c := liker_c, n := 8, res := [.tmp 4], outs := [⟨[.b], []⟩], m0 := 0 }
abbrev liker_rt : altD liker_B.outs → Option Bool := fun r => some r.1.1
abbrev liker_st : Sta := ⟨[0, 1], ⟨[.sl (.sl (.int .i64)), .sl (.sl (.int .i64))], []⟩⟩
theorem liker_eq (N : Nat) (a : List (List Int)) (b : List (List Int)) : ev (Z := Bool) Try.prog (liker_sp N) liker_B [] [] (some liker_rt) 400 false [.c [0], .c [1]] (stL liker_st ((a, b, ()), ())) (stH liker_st ((a, b, ()), ())) = liker_S N a b := by kernel_rfl
noncomputable def sp_liker (N : Nat) : Spec := { f := 68, ins := ⟨[.sl (.sl (.int .i64)), .sl (.sl (.int .i64))], []⟩, outs := [⟨[.b], []⟩], run := fun p k => (liker_S N p.1.1 p.1.2.1).bind fun r => k ((r, ()), ()) }
theorem sp_liker_ok (N : Nat) : SpecOK Try.prog (sp_liker N) := fn_sound (B := liker_B) (loops := []) (leaves := []) (fun p => liker_S N p.1.1 p.1.2.1) (fun r => ((r, ()), ())) liker_rt (fun _ _ _ => rfl) (fun r z h => by cases h; rfl) Try.func68 (by kernel_rfl) (by kernel_rfl) (by kernel_rfl) rfl rfl (by kernel_rfl) (fun args w => Sem.pv_run _ _ _ (by kernel_rfl) w) (liker_all N) mixed trivial (fun z E Xc hE hX hret => trivial) (fun p => liker_eq N p.1.1 p.1.2.1)

def same_S (N : Nat) (a : List (List Int)) (a2 : List Int) (a3 : Int) (b : List (List Int)) (b2 : List Int) (b3 : Int) : Option Bool :=
  (liker_S N a b).bind fun x_1 =>
  br x_1
    ((likei_S N a2 b2).bind fun x_2 =>
    br x_2
      (some (decide (a3 = b3)))
      (some false))
    (some false)
noncomputable def same_sp (N : Nat) : List Spec := [sp_likei N, sp_liker N]
theorem same_all (N : Nat) : AllP (SpecOK Try.prog) (same_sp N) := ⟨sp_likei_ok N, sp_liker_ok N, trivial⟩
noncomputable def same_c : Code := (Try.f43.body).getD .skip
noncomputable abbrev same_B : Body := { c := same_c, n := 24, res := [.tmp 4], outs := [⟨[.b], []⟩], m0 := 0 }
abbrev same_rt : altD same_B.outs → Option Bool := fun r => some r.1.1
abbrev same_st : Sta := ⟨[0, 1], ⟨[.agg [.sl (.sl (.int .i64)), .sl (.int .i64), .i .i64], .agg [.sl (.sl (.int .i64)), .sl (.int .i64), .i .i64]], []⟩⟩
theorem same_eq (N : Nat) (a : List (List Int)) (a2 : List Int) (a3 : Int) (b : List (List Int)) (b2 : List Int) (b3 : Int) : ev (Z := Bool) Try.prog (same_sp N) same_B [] [] (some same_rt) 400 false [.c [0], .c [1]] (stL same_st (((a, a2, a3, ()), (b, b2, b3, ()), ()), ())) (stH same_st (((a, a2, a3, ()), (b, b2, b3, ()), ()), ())) = same_S N a a2 a3 b b2 b3 := by kernel_rfl
noncomputable def sp_same (N : Nat) : Spec := { f := 43, ins := ⟨[.agg [.sl (.sl (.int .i64)), .sl (.int .i64), .i .i64], .agg [.sl (.sl (.int .i64)), .sl (.int .i64), .i .i64]], []⟩, outs := [⟨[.b], []⟩], run := fun p k => (same_S N p.1.1.1 p.1.1.2.1 p.1.1.2.2.1 p.1.2.1.1 p.1.2.1.2.1 p.1.2.1.2.2.1).bind fun r => k ((r, ()), ()) }
theorem sp_same_ok (N : Nat) : SpecOK Try.prog (sp_same N) := fn_sound (B := same_B) (loops := []) (leaves := []) (fun p => same_S N p.1.1.1 p.1.1.2.1 p.1.1.2.2.1 p.1.2.1.1 p.1.2.1.2.1 p.1.2.1.2.2.1) (fun r => ((r, ()), ())) same_rt (fun _ _ _ => rfl) (fun r z h => by cases h; rfl) Try.func43 (by kernel_rfl) (by kernel_rfl) (by kernel_rfl) rfl rfl (by kernel_rfl) (fun args w => Sem.pv_run _ _ _ (by kernel_rfl) w) (same_all N) mixed trivial (fun z E Xc hE hX hret => trivial) (fun p => same_eq N p.1.1.1 p.1.1.2.1 p.1.1.2.2.1 p.1.2.1.1 p.1.2.1.2.1 p.1.2.1.2.2.1)

def equalq_l1 (N : Nat) : Nat → (List (Int × Int)) → (List (Int × Int)) → Int → Int → Option ((Unit) ⊕ (Unit))
  | 0, _, _, _, _ => none
  | n_ + 1, s1, s2, u, u2 =>
    br (decide (u2 < u))
      (idx s1 u2 fun x_1 =>
      idx s2 u2 fun x_2 =>
      br (!(decide (x_1.1 = x_2.1) && decide (x_1.2 = x_2.2)))
        (some (.inl ()))
        (chk (u2 + 1) <|
        equalq_l1 N n_ s1 s2 u (u2 + 1)))
      (some (.inr ()))
def equalq_S (N : Nat) (s1 : List (Int × Int)) (s2 : List (Int × Int)) : Option Bool :=
  br (!decide ((s1.length : Int) = (s2.length : Int)))
    (some false)
    ((equalq_l1 N N s1 s2 (s1.length : Int) 0).bind fun e => match e with
    | .inl _ =>
      some false
    | .inr _ =>
      some true)
def likeq_S (N : Nat) (a : List (Int × Int)) (b : List (Int × Int)) : Option Bool :=
  (equalq_S N a b).bind fun x_1 =>
  some x_1
def copyp_S (N : Nat) (l : List (Int × Int)) : Option (List (Int × Int)) :=
  grd (lmI (l.length : Int)) <|
  some (l.take (min l.length (List.replicate (l.length : Int).toNat ((0, 0) : (Int × Int))).length) ++ (List.replicate (l.length : Int).toNat ((0, 0) : (Int × Int))).drop (min l.length (List.replicate (l.length : Int).toNat ((0, 0) : (Int × Int))).length))
def efaults_S (N : Nat) (x : List (List Int)) (x2 : List Int) (x3 : Int) (p : Int) (p2 : Int) (reading : List (Int × Int)) : Option Bool :=
  (great_S N x x2 x3).bind fun x_1 =>
  br x_1
    ((awake_S N).bind fun x_2 =>
    some x_2)
    (br (decide (14 < (reading.length : Int)))
      ((awake_S N).bind fun x_3 =>
      some x_3)
      ((copye_S N x x2 x3).bind fun (x_4, y_5, y_6) =>
      (copyp_S N reading).bind fun x_7 =>
      (faults_S N x_4 y_5 y_6 p p2 x_7).bind fun (x_8, y_9) =>
      (copye_S N x x2 x3).bind fun (x_10, y_11, y_12) =>
      (places_S N reading).bind fun x_13 =>
      (rfaults_S N x_10 y_11 y_12 p p2 x_13).bind fun (x_14, y_15) =>
      br (decide (x_8 = x_14))
        (br (decide (y_9 = y_15))
          ((same_S N x_4 y_5 y_6 x x2 x3).bind fun x_16 =>
          br x_16
            ((likeq_S N x_7 reading).bind fun x_17 =>
            br x_17
              ((awake_S N).bind fun x_18 =>
              some x_18)
              (some false))
            (some false))
          (some false))
        (some false)))
def readings_l1 (N : Nat) (self : (List (List Int)) → (List Int) → Int → Int → Int → (List (Int × Int)) → Option (List (List (Int × Int)))) : Nat → (List (Int × Int)) → Int → (List (List Int)) → (List Int) → Int → Int → Int → (List (List (Int × Int))) → Option ((List (Int × Int)) × List (List Int) × List Int × Int × Int × Int × (List (List (Int × Int))))
  | 0, _, _, _, _, _, _, _, _ => none
  | n_ + 1, l, k, e, e2, e3, p, p2, out =>
    idx e p fun x_3 =>
    br (decide (k < (x_3.length : Int)))
      (lim (([] : (List (Int × Int))).length + l.length) <|
      lim ((([] : (List (Int × Int))) ++ l).length + [(1, k)].length) <|
      (self e e2 e3 p p2 ((([] : (List (Int × Int))) ++ l) ++ [(1, k)])).bind fun x_4 =>
      lim (out.length + x_4.length) <|
      chk (k + 1) <|
      readings_l1 N self n_ l (k + 1) e e2 e3 p p2 (out ++ x_4))
      (some ((l, e, e2, e3, p, p2, out)))
def readings_l2 (N : Nat) (self : (List (List Int)) → (List Int) → Int → Int → Int → (List (Int × Int)) → Option (List (List (Int × Int)))) : Nat → (List (Int × Int)) → Int → (List (List Int)) → (List Int) → Int → Int → Int → (List (List (Int × Int))) → Option (List (List (Int × Int)))
  | 0, _, _, _, _, _, _, _, _ => none
  | n_ + 1, l, k, e, e2, e3, p, p2, out =>
    idx e p2 fun x_12 =>
    br (decide (k < (x_12.length : Int)))
      (lim (([] : (List (Int × Int))).length + l.length) <|
      lim ((([] : (List (Int × Int))) ++ l).length + [(2, k)].length) <|
      (self e e2 e3 p p2 ((([] : (List (Int × Int))) ++ l) ++ [(2, k)])).bind fun x_13 =>
      lim (out.length + x_13.length) <|
      chk (k + 1) <|
      readings_l2 N self n_ l (k + 1) e e2 e3 p p2 (out ++ x_13))
      (some (out))
def readings_S (N : Nat) (self : (List (List Int)) → (List Int) → Int → Int → Int → (List (Int × Int)) → Option (List (List (Int × Int)))) (e : List (List Int)) (e2 : List Int) (e3 : Int) (p : Int) (p2 : Int) (l : List (Int × Int)) : Option (List (List (Int × Int))) :=
  (fits_S N e e2 e3 p p2 l).bind fun x_1 =>
  br (!x_1)
    (some [])
    (br (decide ((l.length : Int) = (e2.length : Int)))
      (some [l])
      (lim (([] : (List (Int × Int))).length + l.length) <|
      lim ((([] : (List (Int × Int))) ++ l).length + [(3, 0)].length) <|
      (self e e2 e3 p p2 ((([] : (List (Int × Int))) ++ l) ++ [(3, 0)])).bind fun x_2 =>
      (readings_l1 N self N l 0 e e2 e3 p p2 x_2).bind fun (l_5, e_6, e2_7, e3_8, p_9, p2_10, out_11) =>
      (readings_l2 N self N l_5 0 e_6 e2_7 e3_8 p_9 p2_10 out_11).bind fun out_14 =>
      some out_14))
def readings_R (N : Nat) : Nat → (List (List Int)) → (List Int) → Int → Int → Int → (List (Int × Int)) → Option (List (List (Int × Int)))
  | 0 => fun _ _ _ _ _ _ => none
  | n + 1 => readings_S N (readings_R N n)
def best_l1 (N : Nat) : Nat → Int → Int → (List (List Int)) → (List Int) → Int → Int → Int → (List (List (Int × Int))) → Option (Int × List (List Int) × List Int × Int × Int × Int × (List (List (Int × Int))))
  | 0, _, _, _, _, _, _, _, _ => none
  | n_ + 1, least, i, e, e2, e3, p, p2, all =>
    br (decide (i < (all.length : Int)))
      (rng i all.length <|
      get all i.toNat fun x_2 =>
      (faulty_S N e e2 e3 p p2 x_2).bind fun x_3 =>
      chk (i + 1) <|
      best_l1 N n_ (min least x_3) (i + 1) e e2 e3 p p2 all)
      (some ((least, e, e2, e3, p, p2, all)))
def best_j1 (N : Nat) (rec : Int → Int → (List (List Int)) → (List Int) → Int → Int → Int → (List (List (Int × Int))) → (List (List (Int × Int))) → Option (Int × (List (List (Int × Int))))) (least : Int) (i : Int) (e : List (List Int)) (e2 : List Int) (e3 : Int) (p : Int) (p2 : Int) (all : List (List (Int × Int))) (out : List (List (Int × Int))) : Option (Int × (List (List (Int × Int)))) :=
  chk (i + 1) <|
  rec least (i + 1) e e2 e3 p p2 all out
def best_l2 (N : Nat) : Nat → Int → Int → (List (List Int)) → (List Int) → Int → Int → Int → (List (List (Int × Int))) → (List (List (Int × Int))) → Option (Int × (List (List (Int × Int))))
  | 0, _, _, _, _, _, _, _, _, _ => none
  | n_ + 1, least, i, e, e2, e3, p, p2, all, out =>
    br (decide (i < (all.length : Int)))
      (rng i all.length <|
      get all i.toNat fun x_11 =>
      (faulty_S N e e2 e3 p p2 x_11).bind fun x_12 =>
      br (decide (x_12 = least))
        (rng i all.length <|
        get all i.toNat fun x_13 =>
        lim (out.length + [x_13].length) <|
        best_j1 N (best_l2 N n_) least i e e2 e3 p p2 all (out ++ [x_13]))
        (best_j1 N (best_l2 N n_) least i e e2 e3 p p2 all out))
      (some ((least, out)))
def best_S (N : Nat) (e : List (List Int)) (e2 : List Int) (e3 : Int) (p : Int) (p2 : Int) : Option ((List (List (Int × Int))) × Int) :=
  (readings_R N N e e2 e3 p p2 []).bind fun x_1 =>
  (best_l1 N N 99 0 e e2 e3 p p2 x_1).bind fun (least_4, e_5, e2_6, e3_7, p_8, p2_9, all_10) =>
  (best_l2 N N least_4 0 e_5 e2_6 e3_7 p_8 p2_9 all_10 []).bind fun (least_14, out_15) =>
  some (out_15, least_14)
def rpairs_j1 (N : Nat) (rec : Int → Int → (List (List Int)) → (List Int) → Int → (List (Int × Int)) → Option (Int × List (List Int) × List Int × Int × (List (Int × Int)))) (a : Int) (b : Int) (e : List (List Int)) (e2 : List Int) (e3 : Int) (out : List (Int × Int)) : Option (Int × List (List Int) × List Int × Int × (List (Int × Int))) :=
  chk (b + 1) <|
  rec a (b + 1) e e2 e3 out
def rpairs_l2 (N : Nat) : Nat → Int → Int → (List (List Int)) → (List Int) → Int → (List (Int × Int)) → Option (Int × List (List Int) × List Int × Int × (List (Int × Int)))
  | 0, _, _, _, _, _, _ => none
  | n_ + 1, a, b, e, e2, e3, out =>
    br (decide (b < (e.length : Int)))
      ((best_S N e e2 e3 a b).bind fun (x_2, y_3) =>
      br (decide (y_3 ≤ e3))
        (lim (out.length + [(a, b)].length) <|
        rpairs_j1 N (rpairs_l2 N n_) a b e e2 e3 (out ++ [(a, b)]))
        (rpairs_j1 N (rpairs_l2 N n_) a b e e2 e3 out))
      (some ((a, e, e2, e3, out)))
def rpairs_l1 (N : Nat) : Nat → Int → (List (List Int)) → (List Int) → Int → (List (Int × Int)) → Option (List (Int × Int))
  | 0, _, _, _, _, _ => none
  | n_ + 1, a, e, e2, e3, out =>
    br (decide (a < (e.length : Int)))
      ((rpairs_l2 N N a a e e2 e3 out).bind fun (a_4, e_5, e2_6, e3_7, out_8) =>
      chk (a_4 + 1) <|
      rpairs_l1 N n_ (a_4 + 1) e_5 e2_6 e3_7 out_8)
      (some (out))
def rpairs_S (N : Nat) (e : List (List Int)) (e2 : List Int) (e3 : Int) : Option ((List (Int × Int)) × Int) :=
  (rcheck_S N e e2 e3).bind fun x_1 =>
  br (!decide (x_1 = 0))
    (some ([], x_1))
    ((rpairs_l1 N N 0 e e2 e3 []).bind fun out_9 =>
    some (out_9, 0))
def rwith_j1 (N : Nat) (rec : Int → Int → (List (List Int)) → (List Int) → Int → (List Int) → Option (List Int)) (text : Int) (o : Int) (e : List (List Int)) (e2 : List Int) (e3 : Int) (out : List Int) : Option (List Int) :=
  chk (o + 1) <|
  rec text (o + 1) e e2 e3 out
def rwith_l1 (N : Nat) : Nat → Int → Int → (List (List Int)) → (List Int) → Int → (List Int) → Option (List Int)
  | 0, _, _, _, _, _, _ => none
  | n_ + 1, text, o, e, e2, e3, out =>
    br (decide (o < (e.length : Int)))
      ((best_S N e e2 e3 text o).bind fun (x_2, y_3) =>
      br (decide (y_3 ≤ e3))
        (lim (out.length + [o].length) <|
        rwith_j1 N (rwith_l1 N n_) text o e e2 e3 (out ++ [o]))
        (rwith_j1 N (rwith_l1 N n_) text o e e2 e3 out))
      (some (out))
def rwith_S (N : Nat) (e : List (List Int)) (e2 : List Int) (e3 : Int) (text : Int) : Option (List Int × Int) :=
  (rtwo_S N e e2 e3 text 0).bind fun x_1 =>
  br (!decide (x_1 = 0))
    (some ([], x_1))
    ((rwith_l1 N N text 0 e e2 e3 []).bind fun out_4 =>
    some (out_4, 0))
def rmusts_l2 (N : Nat) : Nat → (List (Int × Int)) → Int → Bool → Int → (List (List Int)) → (List Int) → Int → (List Int) → Option ((List (Int × Int)) × Int × Bool × List (List Int) × List Int × Int × List Int)
  | 0, _, _, _, _, _, _, _, _ => none
  | n_ + 1, l, t, in_, i, e, e2, e3, out =>
    br (decide (i < (l.length : Int)))
      (br in_
        (idx l i fun x_3 =>
        br (decide (x_3.1 = t))
          (chk (i + 1) <|
          rmusts_l2 N n_ l t true (i + 1) e e2 e3 out)
          (idx l i fun x_4 =>
          chk (i + 1) <|
          rmusts_l2 N n_ l t (decide (x_4.2 = t)) (i + 1) e e2 e3 out))
        (chk (i + 1) <|
        rmusts_l2 N n_ l t false (i + 1) e e2 e3 out))
      (some ((l, t, in_, e, e2, e3, out)))
def rmusts_j1 (N : Nat) (rec : (List (Int × Int)) → Int → (List (List Int)) → (List Int) → Int → (List Int) → Option (List Int)) (l : List (Int × Int)) (t : Int) (e : List (List Int)) (e2 : List Int) (e3 : Int) (out : List Int) : Option (List Int) :=
  chk (t + 1) <|
  rec l (t + 1) e e2 e3 out
def rmusts_l1 (N : Nat) : Nat → (List (Int × Int)) → Int → (List (List Int)) → (List Int) → Int → (List Int) → Option (List Int)
  | 0, _, _, _, _, _, _ => none
  | n_ + 1, l, t, e, e2, e3, out =>
    br (decide (t < (e.length : Int)))
      ((rmusts_l2 N N l t true 0 e e2 e3 out).bind fun (l_5, t_6, in__7, e_8, e2_9, e3_10, out_11) =>
      br in__7
        (lim (out_11.length + [t_6].length) <|
        rmusts_j1 N (rmusts_l1 N n_) l_5 t_6 e_8 e2_9 e3_10 (out_11 ++ [t_6]))
        (rmusts_j1 N (rmusts_l1 N n_) l_5 t_6 e_8 e2_9 e3_10 out_11))
      (some (out))
def rmusts_S (N : Nat) (e : List (List Int)) (e2 : List Int) (e3 : Int) : Option (List Int × Int) :=
  (rpairs_S N e e2 e3).bind fun (x_1, y_2) =>
  br (!decide (y_2 = 0))
    (some ([], y_2))
    (br (decide ((x_1.length : Int) = 0))
      (some ([], 6))
      ((rmusts_l1 N N x_1 0 e e2 e3 []).bind fun out_12 =>
      some (out_12, 0)))
def rclosest_j1 (N : Nat) (rec : Int → Int → Int → (List (List Int)) → (List Int) → Int → Int → Int → Int → Int → Option (Int × Int × List (List Int) × List Int × Int × Int × Int × Int × Int)) (least : Int) (a : Int) (b : Int) (e : List (List Int)) (e2 : List Int) (e3 : Int) (g : Int) (g2 : Int) (best : Int) (best2 : Int) : Option (Int × Int × List (List Int) × List Int × Int × Int × Int × Int × Int) :=
  chk (b + 1) <|
  rec least a (b + 1) e e2 e3 g g2 best best2
def rclosest_l2 (N : Nat) : Nat → Int → Int → Int → (List (List Int)) → (List Int) → Int → Int → Int → Int → Int → Option (Int × Int × List (List Int) × List Int × Int × Int × Int × Int × Int)
  | 0, _, _, _, _, _, _, _, _, _, _ => none
  | n_ + 1, least, a, b, e, e2, e3, g, g2, best, best2 =>
    br (decide (b < (e.length : Int)))
      ((best_S N e e2 e3 a b).bind fun (x_2, y_3) =>
      br (decide (y_3 < least))
        (rclosest_j1 N (rclosest_l2 N n_) y_3 a b e e2 e3 g g2 a b)
        (rclosest_j1 N (rclosest_l2 N n_) least a b e e2 e3 g g2 best best2))
      (some ((least, a, e, e2, e3, g, g2, best, best2)))
def rclosest_l1 (N : Nat) : Nat → Int → Int → (List (List Int)) → (List Int) → Int → Int → Int → Int → Int → Option (Int × Int × Int × Int × Int)
  | 0, _, _, _, _, _, _, _, _, _ => none
  | n_ + 1, least, a, e, e2, e3, g, g2, best, best2 =>
    br (decide (a < (e.length : Int)))
      ((rclosest_l2 N N least a a e e2 e3 g g2 best best2).bind fun (least_4, a_5, e_6, e2_7, e3_8, g_9, g2_10, best_11, best2_12) =>
      chk (a_5 + 1) <|
      rclosest_l1 N n_ least_4 (a_5 + 1) e_6 e2_7 e3_8 g_9 g2_10 best_11 best2_12)
      (some ((least, g, g2, best, best2)))
def rclosest_S (N : Nat) (e : List (List Int)) (e2 : List Int) (e3 : Int) : Option (Int × Int × Int × Int) :=
  (rcheck_S N e e2 e3).bind fun x_1 =>
  br (!decide (x_1 = 0))
    (some (0, 0, 0, x_1))
    ((rclosest_l1 N N 99 0 e e2 e3 0 0 0 0).bind fun (least_13, g_14, g2_15, best_16, best2_17) =>
    some (best_16, best2_17, least_13, 0))
def epairsl_l1 (N : Nat) : Nat → Int → (List (Int × Int)) → (List (Int × Int)) → Int → Int → (List (List Int)) → (List Int) → Int → (List (List Int)) → (List Int) → Int → (List (List Int)) → (List Int) → Int → Option ((Unit) ⊕ (Int × List (List Int) × List Int × Int × List (List Int) × List Int × Int × List (List Int) × List Int × Int))
  | 0, _, _, _, _, _, _, _, _, _, _, _, _, _, _ => none
  | n_ + 1, text, want, u, u2, u3, x, x2, x3, own, own2, own3, y, y2, y3 =>
    br (decide (u3 < u2))
      (idx u u3 fun x_15 =>
      idx want u3 fun x_16 =>
      br (!(decide (x_15.1 = x_16.1) && decide (x_15.2 = x_16.2)))
        (some (.inl ()))
        (chk (u3 + 1) <|
        epairsl_l1 N n_ text want u u2 (u3 + 1) x x2 x3 own own2 own3 y y2 y3))
      (some (.inr (text, x, x2, x3, own, own2, own3, y, y2, y3)))
def epairsl_S (N : Nat) (x : List (List Int)) (x2 : List Int) (x3 : Int) (text : Int) : Option Bool :=
  (great_S N x x2 x3).bind fun x_1 =>
  br x_1
    ((awake_S N).bind fun x_2 =>
    some x_2)
    ((wide_S N x x2 x3 4 3).bind fun x_3 =>
    br x_3
      ((awake_S N).bind fun x_4 =>
      some x_4)
      ((copye_S N x x2 x3).bind fun (x_5, y_6, y_7) =>
      (copye_S N x x2 x3).bind fun (x_8, y_9, y_10) =>
      (pairs_S N x_5 y_6 y_7).bind fun (x_11, y_12) =>
      (rpairs_S N x_8 y_9 y_10).bind fun (x_13, y_14) =>
      br (!decide (y_12 = y_14))
        (some false)
        (br (!decide ((x_11.length : Int) = (x_13.length : Int)))
          (some false)
          ((epairsl_l1 N N text x_13 x_11 (x_11.length : Int) 0 x x2 x3 x_5 y_6 y_7 x_8 y_9 y_10).bind fun e => match e with
          | .inl _ =>
            some false
          | .inr (text_17, x_18, x2_19, x3_20, own_21, own2_22, own3_23, y_24, y2_25, y3_26) =>
            (with__S N own_21 own2_22 own3_23 text_17).bind fun (x_27, y_28) =>
            (rwith_S N y_24 y2_25 y3_26 text_17).bind fun (x_29, y_30) =>
            br (!decide (y_28 = y_30))
              (some false)
              ((likei_S N x_27 x_29).bind fun x_31 =>
              br (!x_31)
                (some false)
                ((musts_S N own_21 own2_22 own3_23).bind fun (x_32, y_33) =>
                (rmusts_S N y_24 y2_25 y3_26).bind fun (x_34, y_35) =>
                br (!decide (y_33 = y_35))
                  (some false)
                  ((likei_S N x_32 x_34).bind fun x_36 =>
                  br (!x_36)
                    (some false)
                    ((closest_S N own_21 own2_22 own3_23).bind fun (x_37, y_38, y_39, y_40) =>
                    (rclosest_S N y_24 y2_25 y3_26).bind fun (x_41, y_42, y_43, y_44) =>
                    br (decide (x_37 = x_41) && decide (y_38 = y_42))
                      (br (decide (y_39 = y_43))
                        (br (decide (y_40 = y_44))
                          ((same_S N own_21 own2_22 own3_23 x_18 x2_19 x3_20).bind fun x_45 =>
                          br x_45
                            ((awake_S N).bind fun x_46 =>
                            some x_46)
                            (some false))
                          (some false))
                        (some false))
                      (some false)))))))))
end Go.Proofs.Ytfcnhnbnjdccfaa

/-
  Parts of a proof, put together: Pl12, Pl13, Pl14, Pl15.
  Conditions: none.
-/
import Derived.Test.YtfcnhnbnjdccfaaZe
import Derived.Test.YtfcnhnbnjdccfaaZg
namespace Go.Proofs.Ytfcnhnbnjdccfaa
set_option linter.all false
open Go

section
variable {N : Nat} {T : List (List Int)} {H : List Int} {f : Int}
/-! ### The first least one -/
def clS (v : Int × Int → Int) (s : (Int × Int) × Int) (p : Int × Int) : (Int × Int) × Int := if v p < s.2 then (p, v p) else s
theorem clS_ok (v : Int × Int → Int) : ∀ (P : List (Int × Int)) (s : (Int × Int) × Int), v s.1 = s.2 →
    v (P.foldl (clS v) s).1 = (P.foldl (clS v) s).2 ∧ (P.foldl (clS v) s).2 ≤ s.2 ∧ (∀ p ∈ P, (P.foldl (clS v) s).2 ≤ v p) ∧ (P.foldl (clS v) s = s ∨ (P.foldl (clS v) s).1 ∈ P ∧ (P.foldl (clS v) s).2 < s.2) ∧
    (∀ j (hj : j < P.length), v P[j] = (P.foldl (clS v) s).2 → (P.foldl (clS v) s).1 ∈ P.take (j + 1) ∨ (P.foldl (clS v) s).1 = s.1)
  | [], s, h => ⟨h, Int.le_refl _, (fun _ h => by cases h), .inl rfl, fun j hj => by simp at hj⟩
  | p :: P, s, h => by
    rw [List.foldl_cons]
    have hs : clS v s p = (p, v p) ∧ v p < s.2 ∨ clS v s p = s ∧ s.2 ≤ v p := by
      unfold clS
      by_cases c : v p < s.2
      · exact .inl ⟨if_pos c, c⟩
      · exact .inr ⟨if_neg c, by omega⟩
    rcases hs with ⟨e, c⟩ | ⟨e, c⟩
    · rw [e]
      obtain ⟨h1, h2, h3, h4, h5⟩ := clS_ok v P (p, v p) rfl
      dsimp only at h2
      refine ⟨h1, by omega, ?_, .inr ⟨?_, by omega⟩, ?_⟩
      · intro q hq
        rcases List.mem_cons.1 hq with rfl | hq
        · exact h2
        · exact h3 q hq
      · rcases h4 with h4 | h4
        · rw [h4]; simp
        · simp [h4.1]
      · intro j hj hv
        cases j with
        | zero =>
          simp only [List.getElem_cons_zero] at hv
          rcases h4 with h4 | h4
          · rw [h4]; simp
          · have := h4.2; dsimp only at this; omega
        | succ j =>
          simp only [List.getElem_cons_succ] at hv
          rw [List.take_succ_cons]
          rcases h5 j (by simpa using hj) hv with h6 | h6
          · exact .inl (List.mem_cons_of_mem _ h6)
          · rw [h6]; simp
    · rw [e]
      obtain ⟨h1, h2, h3, h4, h5⟩ := clS_ok v P s h
      refine ⟨h1, h2, ?_, ?_, ?_⟩
      · intro q hq
        rcases List.mem_cons.1 hq with rfl | hq
        · omega
        · exact h3 q hq
      · rcases h4 with h4 | h4
        · exact .inl h4
        · exact .inr ⟨List.mem_cons_of_mem _ h4.1, h4.2⟩
      · intro j hj hv
        cases j with
        | zero =>
          simp only [List.getElem_cons_zero] at hv
          rcases h4 with h4 | h4
          · rw [h4]; exact .inr rfl
          · have := h4.2; omega
        | succ j =>
          simp only [List.getElem_cons_succ] at hv
          rw [List.take_succ_cons]
          rcases h5 j (by simpa using hj) hv with h6 | h6
          · exact .inl (List.mem_cons_of_mem _ h6)
          · exact .inr h6
def tt2 (_ _ : Nat) : Bool := true
/-- All pairs of texts. -/
def prs (n : Nat) : List (Int × Int) := allTo tt2 n 0 n
theorem mem_prs {n : Nat} {x : Int × Int} : x ∈ prs n ↔ 0 ≤ x.1 ∧ x.1 ≤ x.2 ∧ x.2 < n := by
  unfold prs
  rw [mem_allTo]
  constructor
  · rintro ⟨i, j, h1, h2, h3, _, rfl⟩; dsimp only; omega
  · obtain ⟨a, b⟩ := x
    dsimp only
    intro h; exact ⟨a.toNat, b.toNat, by omega, by omega, by omega, rfl, by rw [Prod.mk.injEq]; omega⟩
theorem prs_len (n : Nat) : (prs n).length ≤ n * n := allTo_len tt2 n 0 n
theorem prs_cons {n : Nat} (h : 1 ≤ n) : ∃ l, prs n = (0, 0) :: l := by
  obtain ⟨n, rfl⟩ : ∃ m, n = m + 1 := ⟨n - 1, by omega⟩
  have e1 : rowTo tt2 0 0 (n + 1) = (0, 0) :: ((List.range' 1 n).filter (tt2 0)).map (fun (x : Nat) => (((0 : Nat) : Int), (x : Int))) := by
    unfold rowTo
    rw [Nat.sub_zero, List.range'_succ, List.filter_cons_of_pos rfl, List.map_cons]; rfl
  have e2 : allTo tt2 (n + 1) 0 (n + 1) = rowTo tt2 0 (0 + 0) (n + 1) ++ (((List.range n).map Nat.succ).flatMap fun x => rowTo tt2 x (x + 0) (n + 1)) := by
    unfold allTo
    conv => lhs; rw [List.range_succ_eq_map]
    rw [List.flatMap_cons]
  unfold prs
  rw [e2, Nat.zero_add, e1]
  exact ⟨_, rfl⟩
theorem lpairs_l2_p {a s : Nat} {u u2 : Int} {O : List (Int × Int)} (hT : T.length ≤ 100) (ha : a < T.length) (hO : O.length ≤ 10000) : ∀ (n k : Nat), T.length < n + k → s ≤ k → k ≤ T.length →
    lpairs_l2 N n a k u u2 T H f (O ++ rowTo tt2 a s k) = some (u, u2, T, H, f, O ++ rowTo tt2 a s T.length)
  | 0, k, h1, h2, h3 => by omega
  | n + 1, k, h1, h2, h3 => by
    unfold lpairs_l2
    by_cases c : k < T.length
    · rw [br_dec (by omega)]
      have rl := rowTo_len tt2 a s k
      have next := lpairs_l2_p (s := s) (u := u) (u2 := u2) hT ha hO n (k + 1) (by omega) (by omega) (by omega)
      rw [show ((k + 1 : Nat) : Int) = (k : Int) + 1 by omega] at next
      rw [lim_eq (by simp; omega), chk_eq (by omega), List.append_assoc, ← rowTo_yes h2 rfl]
      exact next
    · have e : k = T.length := by omega
      rw [br_ndec (by omega), e]
theorem lpairs_l1_p (hT : T.length ≤ 20) (hN : T.length < N) : ∀ (n k : Nat), T.length < n + k → k ≤ T.length → lpairs_l1 N n (T.length : Int) k T H f (allTo tt2 T.length 0 k) = some (prs T.length)
  | 0, k, h1, h2 => by omega
  | n + 1, k, h1, h2 => by
    unfold lpairs_l1
    by_cases c : k < T.length
    · have al := allTo_len tt2 T.length 0 k
      have : k * T.length ≤ 20 * 20 := Nat.mul_le_mul (by omega) (by omega)
      rw [br_dec (by omega)]
      have e := lpairs_l2_p (N := N) (T := T) (H := H) (f := f) (s := k) (u := (T.length : Int)) (u2 := (k : Int)) (O := allTo tt2 T.length 0 k) (by omega) c (by omega) N k (by omega) (by omega) (by omega)
      rw [rowTo_zero, List.append_nil] at e
      rw [e]
      simp only [Option.bind_some]
      rw [chk_eq (by omega)]
      have next := lpairs_l1_p hT hN n (k + 1) (by omega) (by omega)
      rw [allTo_succ, Nat.add_zero, show ((k + 1 : Nat) : Int) = (k : Int) + 1 by omega] at next
      exact next
    · have e : k = T.length := by omega
      rw [br_ndec (by omega), e]; rfl
theorem lpairs_v (hT : T.length ≤ 20) (hN : T.length < N) : lpairs_S N T H f = some (prs T.length) := by
  unfold lpairs_S
  have := lpairs_l1_p (N := N) (T := T) (H := H) (f := f) hT hN N 0 (by omega) (by omega)
  rw [show allTo tt2 T.length 0 0 = [] from rfl] at this
  rw [show ((0 : Nat) : Int) = 0 from rfl] at this
  rw [this]; rfl
def vP (T : List (List Int)) (H : List Int) (p : Int × Int) : Int := leastV H (T.getD p.1.toNat []) (T.getD p.2.toNat [])
/-- The closest pair, and its least faults. -/
def clV (T : List (List Int)) (H : List Int) : (Int × Int) × Int := (prs T.length).foldl (clS (vP T H)) ((0, 0), vP T H (0, 0))
theorem closest_l2_p (hN : 20 ≤ N) (h : Fine T H f) {a s : Nat} {u u2 g g2 : Int} {O : List (Int × Int)} {z : (Int × Int) × Int} (ha : a < T.length) : ∀ (n k : Nat), T.length < n + k → s ≤ k → k ≤ T.length →
    closest_l2 N n ((O ++ rowTo tt2 a s k).foldl (clS (vP T H)) z).2 a k u u2 T H f g g2 ((O ++ rowTo tt2 a s k).foldl (clS (vP T H)) z).1.1 ((O ++ rowTo tt2 a s k).foldl (clS (vP T H)) z).1.2
     = some (((O ++ rowTo tt2 a s T.length).foldl (clS (vP T H)) z).2, u, u2, T, H, f, g, g2, ((O ++ rowTo tt2 a s T.length).foldl (clS (vP T H)) z).1.1, ((O ++ rowTo tt2 a s T.length).foldl (clS (vP T H)) z).1.2)
  | 0, k, h1, h2, h3 => by omega
  | n + 1, k, h1, h2, h3 => by
    unfold closest_l2
    have hT := h.n
    by_cases c : k < T.length
    · rw [br_dec (by omega), eleast_v hN h (by omega) (by omega)]
      simp only [Option.bind_some, Int.toNat_natCast]
      have next := closest_l2_p hN h (s := s) (u := u) (u2 := u2) (g := g) (g2 := g2) (O := O) (z := z) ha n (k + 1) (by omega) (by omega) (by omega)
      rw [show ((k + 1 : Nat) : Int) = (k : Int) + 1 by omega, rowTo_yes h2 (show tt2 a k = true from rfl), ← List.append_assoc, List.foldl_append (l := O ++ rowTo tt2 a s k)] at next
      generalize (O ++ rowTo tt2 a s k).foldl (clS (vP T H)) z = S at next ⊢
      rw [List.foldl_cons, List.foldl_nil] at next
      have ev : leastV H (T.getD a []) (T.getD k []) = vP T H ((a : Int), (k : Int)) := by simp [vP]
      rw [ev]
      unfold clS at next
      by_cases d : vP T H ((a : Int), (k : Int)) < S.2
      · rw [br_dec d]
        rw [if_pos d] at next
        unfold closest_j1
        rw [chk_eq (by omega)]
        exact next
      · rw [br_ndec d]
        rw [if_neg d] at next
        unfold closest_j1
        rw [chk_eq (by omega)]
        exact next
    · have e : k = T.length := by omega
      rw [br_ndec (by omega), e]
theorem closest_l1_p (hN : 20 ≤ N) (h : Fine T H f) {g g2 : Int} {z : (Int × Int) × Int} : ∀ (n k : Nat), T.length < n + k → k ≤ T.length →
    closest_l1 N n ((allTo tt2 T.length 0 k).foldl (clS (vP T H)) z).2 (T.length : Int) k T H f g g2 ((allTo tt2 T.length 0 k).foldl (clS (vP T H)) z).1.1 ((allTo tt2 T.length 0 k).foldl (clS (vP T H)) z).1.2
     = some (((prs T.length).foldl (clS (vP T H)) z).2, g, g2, ((prs T.length).foldl (clS (vP T H)) z).1.1, ((prs T.length).foldl (clS (vP T H)) z).1.2)
  | 0, k, h1, h2 => by omega
  | n + 1, k, h1, h2 => by
    unfold closest_l1
    have hT := h.n
    by_cases c : k < T.length
    · rw [br_dec (by omega)]
      have e := closest_l2_p (N := N) hN h (s := k) (u := (T.length : Int)) (u2 := (k : Int)) (g := g) (g2 := g2) (O := allTo tt2 T.length 0 k) (z := z) c N k (by omega) (by omega) (by omega)
      rw [rowTo_zero, List.append_nil] at e
      rw [e]
      simp only [Option.bind_some]
      rw [chk_eq (by omega)]
      have next := closest_l1_p hN h (g := g) (g2 := g2) (z := z) n (k + 1) (by omega) (by omega)
      rw [allTo_succ, Nat.add_zero, show ((k + 1 : Nat) : Int) = (k : Int) + 1 by omega] at next
      exact next
    · have e : k = T.length := by omega
      rw [br_ndec (by omega), e]; rfl
theorem closest_v (hN : 20 ≤ N) (h : Fine T H f) : closest_S N T H f = some ((clV T H).1.1, (clV T H).1.2, (clV T H).2, 0) := by
  unfold closest_S
  have hT := h.n
  rw [check_v hN, h.check]
  simp only [Option.bind_some, decide_true, Bool.not_true, br_false]
  rw [eleast_v hN h (by omega) (by omega)]
  simp only [Option.bind_some]
  have := closest_l1_p (N := N) hN h (g := 0) (g2 := 0) (z := ((0, 0), vP T H (0, 0))) N 0 (by omega) (by omega)
  rw [show allTo tt2 T.length 0 0 = [] from rfl] at this
  simp only [List.foldl_nil] at this
  rw [show ((0 : Nat) : Int) = 0 from rfl] at this
  rw [show vP T H (0, 0) = leastV H (T.getD (0 : Int).toNat []) (T.getD (0 : Int).toNat []) from rfl] at this
  rw [this]; rfl
/-! ### The texts that are in all pairs -/
def mustP (t : Int) (p : Int × Int) : Bool := decide (p.1 = t) || decide (p.2 = t)
theorem ixfm_gen (t : Int) : ∀ (n : Nat) (s : List (Int × Int)) (u u2 : Int), ixfm_l1 N n s u u2 t = (ixL (fun p => some (!(mustP t p))) n s u u2).bind fun e => match e with | .inl i => some (.inl (i, t)) | .inr _ => some (.inr t)
  | 0, _, _, _ => rfl
  | n + 1, s, u, u2 => by
    unfold ixfm_l1 ixL
    by_cases c : u2 < u
    · rw [br_dec c, br_dec c]
      unfold idx
      by_cases c0 : 0 ≤ u2
      · rw [if_pos c0, if_pos c0]
        cases hx : s[u2.toNat]? with
        | none => rfl
        | some p =>
          have e1 : every1m_S N p.1 p.2 t = some (!(mustP t p), t) := by
            unfold every1m_S musts1_S mustP
            by_cases c1 : p.1 = t
            · rw [br_dec c1]; simp [c1]
            · rw [br_ndec c1]; simp [c1]
          dsimp only
          rw [e1]
          simp only [Option.bind_some]
          cases mustP t p with
          | false => rfl
          | true =>
            simp only [Bool.not_true, br_false]
            unfold chk
            cases okI (u2 + 1) with
            | false => rfl
            | true => exact ixfm_gen t n s u (u2 + 1)
      · rw [if_neg c0, if_neg c0]; rfl
    · rw [br_ndec c, br_ndec c]; rfl
theorem everym_v {s : List (Int × Int)} {t : Int} (hs : s.length ≤ 1000) (hN : s.length < N) : everym_S N s t = some (s.all (mustP t)) := by
  obtain ⟨r, h1, h2⟩ := ixL_ok (f := fun p => some (!(mustP t p))) (p := fun p => !(mustP t p)) (s := s) (fun _ _ => rfl) (by omega) N 0 (by omega) (by omega)
  unfold everym_S cofm_S ixfm_S
  rw [ixfm_gen]
  rw [show ((0 : Nat) : Int) = 0 from rfl] at h1
  rw [h1]
  rw [← any_not]
  cases r with
  | inl i => simp only [List.drop_zero] at h2; simp [h2.1.1, h2.2]
  | inr u => simp only [List.drop_zero] at h2; simp [h2]
/-- The texts that are in all of these pairs. -/
def mustL (P : List (Int × Int)) (k : Nat) : List Int := ((List.range k).filter fun (t : Nat) => P.all (mustP t)).map fun (x : Nat) => (x : Int)
theorem mustL_len (P : List (Int × Int)) (k : Nat) : (mustL P k).length ≤ k := by
  unfold mustL
  have := List.length_filter_le (fun (t : Nat) => P.all (mustP t)) (List.range k)
  simp at this ⊢; omega
theorem mem_mustL {P : List (Int × Int)} {k o : Nat} : (o : Int) ∈ mustL P k ↔ o < k ∧ P.all (mustP o) = true := by
  unfold mustL
  simp only [List.mem_map, List.mem_filter, List.mem_range]
  constructor
  · rintro ⟨x, ⟨h1, h2⟩, h3⟩
    have : x = o := by omega
    subst this; exact ⟨h1, h2⟩
  · rintro ⟨h1, h2⟩; exact ⟨o, ⟨h1, h2⟩, rfl⟩
theorem mustL_succ (P : List (Int × Int)) (k : Nat) : mustL P (k + 1) = mustL P k ++ (if P.all (mustP k) = true then [(k : Int)] else []) := by
  unfold mustL
  rw [List.range_succ, List.filter_append, List.map_append]
  by_cases hp : P.all (mustP k) = true <;> simp only [hp, List.filter_cons, List.filter_nil, if_true, if_false, List.map_cons, List.map_nil, Bool.false_eq_true]
theorem musts_l1_p {P : List (Int × Int)} {m : Nat} (hP : P.length ≤ 1000) (hN : P.length < N) (hm : m ≤ 1000) : ∀ (n k : Nat), m < n + k → k ≤ m → musts_l1 N n P (m : Int) k (mustL P k) = some (mustL P m)
  | 0, k, h1, h2 => by omega
  | n + 1, k, h1, h2 => by
    unfold musts_l1
    by_cases c : k < m
    · rw [br_dec (by omega), everym_v hP hN]
      simp only [Option.bind_some]
      have next := musts_l1_p hP hN hm n (k + 1) (by omega) (by omega)
      rw [show ((k + 1 : Nat) : Int) = (k : Int) + 1 by omega, mustL_succ] at next
      have wl := mustL_len P k
      by_cases d : P.all (mustP k) = true
      · rw [if_pos d] at next
        rw [d, br_true, lim_eq (by simp; omega)]
        unfold musts_j1
        rw [chk_eq (by omega)]
        exact next
      · rw [if_neg d, List.append_nil] at next
        rw [Bool.not_eq_true] at d
        rw [d, br_false]
        unfold musts_j1
        rw [chk_eq (by omega)]
        exact next
    · have e : k = m := by omega
      rw [br_ndec (by omega), e]
theorem musts_v (hN : 30 ≤ N) (h : Fine T H f) : musts_S N T H f = some (if allTo (pE T H f) T.length 0 T.length = [] then ([], 6) else (mustL (allTo (pE T H f) T.length 0 T.length) T.length, 0)) := by
  unfold musts_S
  have hT := h.n
  have al := allTo_len (pE T H f) T.length 0 T.length
  have : T.length * T.length ≤ 5 * 5 := Nat.mul_le_mul (by omega) (by omega)
  rw [check_v (by omega), h.check]
  simp only [Option.bind_some, decide_true, Bool.not_true, br_false]
  rw [epairs_v (by omega) h]
  simp only [Option.bind_some]
  by_cases c : allTo (pE T H f) T.length 0 T.length = []
  · rw [if_pos c, c]; rfl
  · have : (allTo (pE T H f) T.length 0 T.length).length ≠ 0 := fun h => c (List.eq_nil_of_length_eq_zero h)
    rw [if_neg c, br_ndec (by omega)]
    have := musts_l1_p (N := N) (P := allTo (pE T H f) T.length 0 T.length) (m := T.length) (by omega) (by omega) (by omega) N 0 (by omega) (by omega)
    rw [show mustL (allTo (pE T H f) T.length 0 T.length) 0 = [] from rfl, show ((0 : Nat) : Int) = 0 from rfl] at this
    rw [this]; rfl

/-! ### The law -/
theorem eother_l2_p (hN : 20 ≤ N) (h : Fine T H f) {least u2 u3 best best2 : Int} {can u : List (Int × Int)} {musts : List Int} {met : Bool} {p p2 : Int} (hp : 0 ≤ p ∧ p < T.length) (hp2 : 0 ≤ p2 ∧ p2 < T.length) : ∀ (n k : Nat), T.length < n + k → k ≤ T.length →
    eother_l2 N n least can musts met (vP T H (p, p2)) u u2 u3 (T.length : Int) k T H f best best2 p p2 = some (.inr (least, can, musts, met, u, u2, u3, T, H, f, best, best2))
  | 0, k, h1, h2 => by omega
  | n + 1, k, h1, h2 => by
    unfold eother_l2
    have hT := h.n
    by_cases c : k < T.length
    · have l1 := h.l (T.getD p.toNat []) (getD_mem (by omega))
      have l2 := h.l (T.getD p2.toNat []) (getD_mem (by omega))
      have l3 := h.l (T.getD k []) (getD_mem (by omega))
      have hH := h.h
      have d1 := leastV_far H (T.getD p.toNat []) (T.getD p2.toNat []) (T.getD k [])
      have d2 := leastV_far H (T.getD p.toNat []) (T.getD k []) (T.getD p2.toNat [])
      rw [distI_symm (T.getD k [])] at d2
      have n1 := distI_nonneg (T.getD p2.toNat []) (T.getD k [])
      have n2 : distI (T.getD p2.toNat []) (T.getD k []) ≤ 12 := by unfold distI; omega
      have b1 := tv_bnd mayA (H := H) l1.2 l2.2
      have b2 := tv_bnd mayA (H := H) l1.2 l3.2
      rw [br_dec (by omega), least_v hN h hp (by omega), dist_v hN h hp2 (by omega)]
      simp only [Option.bind_some, decide_true, Bool.not_true, br_false, Int.toNat_natCast]
      have e : vP T H (p, p2) = leastV H (T.getD p.toNat []) (T.getD p2.toNat []) := rfl
      have v1 : leastV H (T.getD p.toNat []) (T.getD p2.toNat []) = ((T.getD p.toNat []).length : Int) + (T.getD p2.toNat []).length + H.length - 2 * (tv mayA H (T.getD p.toNat []) (T.getD p2.toNat []) (0, 0, 0)).1 := rfl
      have v2 : leastV H (T.getD p.toNat []) (T.getD k []) = ((T.getD p.toNat []).length : Int) + (T.getD k []).length + H.length - 2 * (tv mayA H (T.getD p.toNat []) (T.getD k []) (0, 0, 0)).1 := rfl
      have next := eother_l2_p hN h (least := least) (u := u) (u2 := u2) (u3 := u3) (best := best) (best2 := best2) (can := can) (musts := musts) (met := met) hp hp2 n (k + 1) (by omega) (by omega)
      rw [show ((k + 1 : Nat) : Int) = (k : Int) + 1 by omega] at next
      rw [chk_eq (by omega), br_ndec (by omega), chk_eq (by omega), br_ndec (by omega), chk_eq (by omega)]
      exact next
    · rw [br_ndec (by omega)]
theorem eother_l1_p (hN : 30 ≤ N) (h : Fine T H f) {can : List (Int × Int)} {musts : List Int} : ∀ (n k : Nat), (prs T.length).length < n + k → k ≤ (prs T.length).length →
    eother_l1 N n (clV T H).2 can musts (decide ((clV T H).1 ∈ (prs T.length).take k)) (prs T.length) ((prs T.length).length : Int) k T H f (clV T H).1.1 (clV T H).1.2 = some (.inr (.inr (can, musts, true, T, H, f)))
  | 0, k, h1, h2 => by omega
  | n + 1, k, h1, h2 => by
    unfold eother_l1
    have hT := h.n
    have pl := prs_len T.length
    have : T.length * T.length ≤ 5 * 5 := Nat.mul_le_mul (by omega) (by omega)
    have ht0 := prs_cons hT.1
    obtain ⟨q1, q2, q3, q4, q5⟩ := clS_ok (vP T H) (prs T.length) ((0, 0), vP T H (0, 0)) rfl
    have hb : (clV T H).1 ∈ prs T.length := by
      rcases q4 with q4 | q4
      · have : (clV T H).1 = (0, 0) := by unfold clV; rw [q4]
        obtain ⟨tl, ht⟩ := ht0
        rw [this, ht]; simp
      · exact q4.1
    by_cases c : k < (prs T.length).length
    · have hx : (prs T.length).getD k (0, 0) ∈ prs T.length := getD_mem c
      have hx2 := mem_prs.1 hx
      have hge := q3 _ hx
      have e0 : (prs T.length)[k] = (prs T.length).getD k (0, 0) := by simp [List.getD, c]
      have hmet : vP T H ((prs T.length).getD k (0, 0)) = (clV T H).2 → (clV T H).1 ∈ (prs T.length).take (k + 1) := by
        intro he
        rcases q5 k c (by rw [e0]; exact he) with h6 | h6
        · exact h6
        · have : (clV T H).1 = (0, 0) := h6
          obtain ⟨tl, ht⟩ := ht0
          rw [this, ht, List.take_succ_cons]; simp
      have htk : (prs T.length).take (k + 1) = (prs T.length).take k ++ [(prs T.length).getD k (0, 0)] := by
        rw [List.take_add_one]; simp [List.getD, c]
      rw [htk] at hmet
      have next := eother_l1_p hN h (can := can) (musts := musts) n (k + 1) (by omega) (by omega)
      rw [show ((k + 1 : Nat) : Int) = (k : Int) + 1 by omega, htk] at next
      have q1' : vP T H (clV T H).1 = (clV T H).2 := q1
      have hge' : (clV T H).2 ≤ vP T H ((prs T.length).getD k (0, 0)) := hge
      have hk : (prs T.length)[((k : Nat) : Int).toNat]? = some ((prs T.length).getD k (0, 0)) := by simp [List.getD, c]
      clear e0 htk hge q1 q2 q3 q4 q5 ht0
      generalize (prs T.length).getD k (0, 0) = p at *
      generalize clV T H = C at *
      obtain ⟨⟨c1, c2⟩, cl⟩ := C
      obtain ⟨p1, p2⟩ := p
      dsimp only at *
      rw [br_dec (by omega), idx_eq (by omega) hk]
      rw [least_v (by omega) h (by omega) (by omega)]
      simp only [Option.bind_some, decide_true, Bool.not_true, br_false]
      have ev : leastV H (T.getD p1.toNat []) (T.getD p2.toNat []) = vP T H (p1, p2) := rfl
      rw [ev]
      rw [br_ndec (by omega)]
      have l2 := fun m => eother_l2_p (N := N) (by omega) h (least := cl) (u := prs T.length) (u2 := ((prs T.length).length : Int)) (u3 := (k : Int)) (best := c1) (best2 := c2) (can := can) (musts := musts) (met := m) (p := p1) (p2 := p2) (by omega) (by omega) N 0 (by omega) (by omega)
      rw [show ((0 : Nat) : Int) = 0 from rfl] at l2
      simp only [l2, Option.bind_some]
      have hck : ∀ x : Option (Unit ⊕ (Unit ⊕ ((List (Int × Int)) × List Int × Bool × List (List Int) × List Int × Int))), chk ((k : Int) + 1) x = x := fun x => chk_eq (by omega)
      simp only [hck]
      have hB : (decide (p1 = c1) && decide (p2 = c2)) = decide ((c1, c2) = (p1, p2)) := by
        rw [Bool.eq_iff_iff]
        simp only [Bool.and_eq_true, decide_eq_true_eq, Prod.mk.injEq]
        constructor
        · rintro ⟨rfl, rfl⟩; exact ⟨rfl, rfl⟩
        · rintro ⟨rfl, rfl⟩; exact ⟨rfl, rfl⟩
      rw [hB]
      have hM : decide ((c1, c2) ∈ (prs T.length).take k ++ [(p1, p2)]) = (decide ((c1, c2) ∈ (prs T.length).take k) || decide ((c1, c2) = (p1, p2))) := by
        rw [Bool.eq_iff_iff]
        simp only [List.mem_append, List.mem_singleton, decide_eq_true_eq, Bool.or_eq_true]
      have hM2 : vP T H (p1, p2) = cl → decide ((c1, c2) ∈ (prs T.length).take k) = false → decide ((c1, c2) = (p1, p2)) = true := by
        intro h1 h2
        have h3 := hmet h1
        rcases List.mem_append.1 h3 with h3 | h3
        · simp [h3] at h2
        · simpa using h3
      have hC : decide ((c1, c2) = (p1, p2)) = true → vP T H (p1, p2) = cl := by
        intro h1
        rw [decide_eq_true_eq] at h1
        rw [← h1]; exact q1'
      rw [hM] at next
      generalize decide ((c1, c2) ∈ (prs T.length).take k) = M at *
      generalize decide ((c1, c2) = (p1, p2)) = B at *
      cases B with
      | true =>
        have hv := hC rfl
        simp only [br_true, hv, decide_true, Bool.not_true, br_false, Bool.or_true] at next ⊢
        cases M <;> simp only [Bool.not_true, Bool.not_false, br_true, br_false] <;> exact next
      | false =>
        simp only [br_false, Bool.not_false, br_true, Bool.or_false] at next ⊢
        by_cases d : vP T H (p1, p2) = cl
        · have : M = true := by
            cases M with
            | true => rfl
            | false => exact absurd (hM2 d rfl) (by decide)
          subst this
          simp only [d, decide_true, br_true, Bool.not_true, br_false]
          exact next
        · rw [br_ndec d]
          cases M <;> simp only [br_true, br_false] <;> exact next
    · have e : k = (prs T.length).length := by omega
      rw [br_ndec (by omega), e, List.take_length, decide_eq_true hb]
theorem eother_l4_p {can c2 : List (Int × Int)} {musts : List Int} {met : Bool} {t u u2 : Int} (hc : c2.length ≤ 1000) : ∀ (n k : Nat) (all : Bool), c2.length < n + k → k ≤ c2.length →
    eother_l4 N n can musts met t all u u2 c2 (c2.length : Int) k T H f = some (can, musts, met, t, (all && (c2.drop k).all (mustP t)), u, u2, T, H, f)
  | 0, k, all, h1, h2 => by omega
  | n + 1, k, all, h1, h2 => by
    unfold eother_l4
    by_cases c : k < c2.length
    · have hd : c2.drop k = c2.getD k (0, 0) :: c2.drop (k + 1) := by
        rw [List.drop_eq_getElem_cons c]; simp [List.getD, c]
      have hk : c2[((k : Nat) : Int).toNat]? = some (c2.getD k (0, 0)) := by simp [List.getD, c]
      generalize c2.getD k (0, 0) = p at *
      rw [br_dec (by omega), idx_eq (by omega) hk]
      rw [hd, List.all_cons]
      have next := fun a => eother_l4_p (can := can) (musts := musts) (met := met) (t := t) (u := u) (u2 := u2) hc n (k + 1) a (by omega) (by omega)
      rw [show ((k + 1 : Nat) : Int) = (k : Int) + 1 by omega] at next
      cases all with
      | false =>
        rw [br_false, chk_eq (by omega), next]
        simp
      | true =>
        rw [br_true]
        by_cases d : p.1 = t
        · rw [br_dec d, chk_eq (by omega), next]
          simp [mustP, d]
        · rw [br_ndec d, chk_eq (by omega), next]
          simp [mustP, d]
    · have e : k = c2.length := by omega
      rw [br_ndec (by omega), e, List.drop_length]; simp
theorem eother_l5_p (hN : 30 ≤ N) (h : Fine T H f) {musts : List Int} {met : Bool} {t : Nat} {u u2 : Int} (ht : t < T.length) : ∀ (n k : Nat), T.length < n + k → k ≤ T.length →
    eother_l5 N n (allTo (pE T H f) T.length 0 T.length) musts met t (withL T H f t T.length) u u2 (T.length : Int) k T H f = some (.inr (allTo (pE T H f) T.length 0 T.length, musts, met, u, u2, T, H, f))
  | 0, k, h1, h2 => by omega
  | n + 1, k, h1, h2 => by
    unfold eother_l5
    have hT := h.n
    have al := allTo_len (pE T H f) T.length 0 T.length
    have : T.length * T.length ≤ 5 * 5 := Nat.mul_le_mul (by omega) (by omega)
    have wl := withL_len T H f t T.length
    by_cases c : k < T.length
    · rw [br_dec (by omega), containsi_v (by omega) (by omega), containsp_v (by omega) (by omega)]
      simp only [Option.bind_some]
      have sy : pE T H f t k = pE T H f k t := by simp only [pE]; rw [leastV_sym]
      have e1 : (withL T H f t T.length).contains (k : Int) = pE T H f t k := by
        rw [Bool.eq_iff_iff, List.contains_iff_mem, mem_withL]
        exact ⟨fun h => h.2, fun h => ⟨c, h⟩⟩
      have e2 : (allTo (pE T H f) T.length 0 T.length).contains (min (t : Int) (k : Int), max (t : Int) (k : Int)) = pE T H f t k := by
        rcases Nat.le_total t k with h6 | h6
        · rw [show min (t : Int) k = ((t : Nat) : Int) by omega, show max (t : Int) k = ((k : Nat) : Int) by omega]
          exact allTo_contains ht (by omega) c
        · rw [show min (t : Int) k = ((k : Nat) : Int) by omega, show max (t : Int) k = ((t : Nat) : Int) by omega, sy]
          exact allTo_contains c (by omega) ht
      rw [e1, e2]
      simp only [beq_self_eq_true, Bool.not_true, br_false]
      rw [chk_eq (by omega)]
      have next := eother_l5_p hN h (musts := musts) (met := met) (u := u) (u2 := u2) ht n (k + 1) (by omega) (by omega)
      rw [show ((k + 1 : Nat) : Int) = (k : Int) + 1 by omega] at next
      exact next
    · rw [br_ndec (by omega)]
theorem eother_l3_p (hN : 30 ≤ N) (h : Fine T H f) {musts : List Int} {met : Bool} (hm : musts.length ≤ 100 ∧ musts.length < N) (hc : ∀ t : Nat, t < T.length → musts.contains (t : Int) = (decide (0 < ((allTo (pE T H f) T.length 0 T.length).length : Int)) && (allTo (pE T H f) T.length 0 T.length).all (mustP t))) : ∀ (n k : Nat), T.length < n + k → k ≤ T.length →
    eother_l3 N n (allTo (pE T H f) T.length 0 T.length) musts met (T.length : Int) k T H f = some (.inr (.inr met))
  | 0, k, h1, h2 => by omega
  | n + 1, k, h1, h2 => by
    unfold eother_l3
    have hT := h.n
    have al := allTo_len (pE T H f) T.length 0 T.length
    have : T.length * T.length ≤ 5 * 5 := Nat.mul_le_mul (by omega) (by omega)
    by_cases c : k < T.length
    · rw [br_dec (by omega)]
      have e4 := eother_l4_p (N := N) (T := T) (H := H) (f := f) (can := allTo (pE T H f) T.length 0 T.length) (c2 := allTo (pE T H f) T.length 0 T.length) (musts := musts) (met := met) (t := (k : Int)) (u := (T.length : Int)) (u2 := (k : Int)) (by omega) N 0 (decide (0 < ((allTo (pE T H f) T.length 0 T.length).length : Int))) (by omega) (by omega)
      rw [show ((0 : Nat) : Int) = 0 from rfl, List.drop_zero] at e4
      rw [e4]
      simp only [Option.bind_some]
      rw [with_v (by omega) h (by omega)]
      simp only [Option.bind_some, decide_true, Bool.not_true, br_false, Int.toNat_natCast]
      rw [containsi_v (by omega) (by omega), hc k c]
      simp only [Option.bind_some, beq_self_eq_true, Bool.not_true, br_false]
      have e5 := eother_l5_p (N := N) hN h (musts := musts) (met := met) (u := (T.length : Int)) (u2 := (k : Int)) c N 0 (by omega) (by omega)
      rw [show ((0 : Nat) : Int) = 0 from rfl] at e5
      rw [e5]
      simp only [Option.bind_some]
      rw [chk_eq (by omega)]
      have next := eother_l3_p hN h (met := met) hm hc n (k + 1) (by omega) (by omega)
      rw [show ((k + 1 : Nat) : Int) = (k : Int) + 1 by omega] at next
      exact next
    · rw [br_ndec (by omega)]
theorem eother_true {ns : List Int} (h1 : ns.length ≤ 9223372036854775807) : eother_S 1100 ns = some true := by
  unfold eother_S hang_S
  simp only [Option.bind_some]
  obtain ⟨T, H, f, b2, b3, e, hb, hT, hn, hH, hl, hf⟩ := made_p (N := 1100) (by omega) (tx := 4) (wo := 5) (he := 8) (by omega) (by omega) (by omega) (b := ns) (b2 := 0) (b3 := 0) ⟨h1, by omega, by omega⟩
  rw [e]
  simp only [Option.bind_some]
  have hF : Fine T H f := Fine.of_txt hT (by omega) hn hH (by omega) (by omega)
  have al := allTo_len (pE T H f) T.length 0 T.length
  have pl := prs_len T.length
  have : T.length * T.length ≤ 5 * 5 := Nat.mul_le_mul (by omega) (by omega)
  rw [closest_v (by omega) hF, pairs_v (by omega) hF, musts_v (by omega) hF]
  simp only [Option.bind_some, decide_true, Bool.not_true, br_false]
  have e1 := fun (can : List (Int × Int)) (musts : List Int) => eother_l1_p (N := 1100) (by omega) hF (can := can) (musts := musts) 1100 0 (by omega) (by omega)
  simp only [List.take_zero, List.not_mem_nil, decide_false, show ((0 : Nat) : Int) = 0 from rfl] at e1
  by_cases c : allTo (pE T H f) T.length 0 T.length = []
  · have e3 := eother_l3_p (N := 1100) (by omega) hF (musts := []) (met := true) (by simp) (fun t ht => by rw [c]; rfl) 1100 0 (by omega) (by omega)
    rw [show ((0 : Nat) : Int) = 0 from rfl, c] at e3
    rw [if_pos c, c]
    dsimp only
    simp only [List.length_nil, Int.natCast_zero, decide_true, beq_self_eq_true, Bool.not_true, br_false]
    rw [br_nnd (by omega), lpairs_v (by omega) (by omega)]
    simp only [Option.bind_some]
    rw [e1]
    simp only [Option.bind_some]
    rw [e3]
    simp only [Option.bind_some, br_true, awake_v]
  · have e3 := eother_l3_p (N := 1100) (by omega) hF (musts := mustL (allTo (pE T H f) T.length 0 T.length) T.length) (met := true) (by have := mustL_len (allTo (pE T H f) T.length 0 T.length) T.length; omega) (fun t ht => by
      have : (allTo (pE T H f) T.length 0 T.length).length ≠ 0 := fun h => c (List.eq_nil_of_length_eq_zero h)
      rw [decide_eq_true (by omega), Bool.true_and, Bool.eq_iff_iff, List.contains_iff_mem, mem_mustL]
      exact ⟨fun h => h.2, fun h => ⟨ht, h⟩⟩) 1100 0 (by omega) (by omega)
    rw [show ((0 : Nat) : Int) = 0 from rfl] at e3
    have : (allTo (pE T H f) T.length 0 T.length).length ≠ 0 := fun h => c (List.eq_nil_of_length_eq_zero h)
    rw [if_neg c]
    dsimp only
    rw [show decide ((0 : Int) = 6) = false from rfl, decide_eq_false (show ¬ (((allTo (pE T H f) T.length 0 T.length).length : Int) = 0) by omega)]
    simp only [beq_self_eq_true, Bool.not_true, br_false, decide_true]
    rw [lpairs_v (by omega) (by omega)]
    simp only [Option.bind_some]
    rw [e1]
    simp only [Option.bind_some]
    rw [e3]
    simp only [Option.bind_some, br_true, awake_v]
end
end Go.Proofs.Ytfcnhnbnjdccfaa

namespace Go.Proofs.Ytfcnhnbnjdccfaa
set_option linter.all false
open Go

section
variable {N : Nat} {T : List (List Int)} {H : List Int} {f : Int}
/-! ### What is looked at, copies, comparisons -/
theorem great_l1_p (hT : T.length ≤ 1000) : ∀ (n k : Nat), T.length < n + k → k ≤ T.length → ∃ r, great_l1 N n T (T.length : Int) k = some r ∧ ((∃ u, r = .inr u) → ∀ x ∈ T.drop k, x.length ≤ 9)
  | 0, k, h, _ => by omega
  | n + 1, k, h, hk => by
    unfold great_l1
    by_cases c : k < T.length
    · have hd : T.drop k = T.getD k [] :: T.drop (k + 1) := by
        rw [List.drop_eq_getElem_cons c]; simp [List.getD, c]
      rw [br_dec (by omega), idx_get [] (by omega) (by omega)]
      simp only [Int.toNat_natCast]
      by_cases d : 9 < ((T.getD k []).length : Int)
      · rw [br_dec d]; exact ⟨_, rfl, fun ⟨u, hu⟩ => by cases hu⟩
      · rw [br_ndec d, chk_eq (by omega)]
        obtain ⟨r, e, hr⟩ := great_l1_p hT n (k + 1) (by omega) (by omega)
        rw [show ((k + 1 : Nat) : Int) = (k : Int) + 1 by omega] at e
        refine ⟨r, e, fun hu x hx => ?_⟩
        rw [hd] at hx
        rcases List.mem_cons.1 hx with rfl | hx
        · omega
        · exact hr hu x hx
    · rw [br_ndec (by omega)]
      refine ⟨_, rfl, fun _ x hx => ?_⟩
      rw [List.drop_of_length_le (by omega)] at hx; cases hx
/-- An echo that is looked at. -/
structure Small (T : List (List Int)) (H : List Int) : Prop where
  n : T.length ≤ 8
  h : H.length ≤ 14
  l : ∀ x ∈ T, x.length ≤ 9
theorem great_v (hN : 20 ≤ N) (T : List (List Int)) (H : List Int) (f : Int) : great_S N T H f = some true ∨ great_S N T H f = some false ∧ Small T H := by
  unfold great_S
  by_cases c : 8 < (T.length : Int)
  · rw [br_dec c]; exact .inl rfl
  · rw [br_ndec c]
    by_cases d : 14 < (H.length : Int)
    · rw [br_dec d]; exact .inl rfl
    · rw [br_ndec d]
      obtain ⟨r, e, hr⟩ := great_l1_p (N := N) (T := T) (by omega) N 0 (by omega) (by omega)
      rw [show ((0 : Nat) : Int) = 0 from rfl] at e
      rw [e]
      simp only [Option.bind_some]
      cases r with
      | inl _ => exact .inl rfl
      | inr u => exact .inr ⟨rfl, by omega, by omega, by simpa using hr ⟨u, rfl⟩⟩
theorem copyp_v {l : List (Int × Int)} (h : l.length ≤ 1000000) : copyp_S N l = some l := by
  unfold copyp_S
  rw [grd_eq (lmI_iff.2 (by omega))]
  simp
theorem places_l1_p {l : List (Int × Int)} (hl : l.length ≤ 1000) : ∀ (n k : Nat), l.length < n + k → k ≤ l.length → places_l1 N n l (l.length : Int) k (l.take k) = some l
  | 0, k, h, _ => by omega
  | n + 1, k, h, hk => by
    unfold places_l1
    by_cases c : k < l.length
    · have e : l.take (k + 1) = l.take k ++ [l.getD k (0, 0)] := by rw [List.take_add_one]; simp [List.getD, c]
      rw [br_dec (by omega), idx_get (0, 0) (by omega) (by omega)]
      simp only [Int.toNat_natCast]
      rw [lim_eq (by simp; omega), chk_eq (by omega)]
      have := places_l1_p hl n (k + 1) (by omega) (by omega)
      rw [show ((k + 1 : Nat) : Int) = (k : Int) + 1 by omega, e] at this
      exact this
    · rw [br_ndec (by omega), List.take_of_length_le (by omega)]
theorem places_v {l : List (Int × Int)} (hl : l.length ≤ 1000) (hN : l.length < N) : places_S N l = some l := by
  unfold places_S
  have := places_l1_p (N := N) hl N 0 (by omega) (by omega)
  rw [List.take_zero, show ((0 : Nat) : Int) = 0 from rfl] at this
  rw [this]; rfl
theorem equali_l1_p {s : List Int} (hs : s.length ≤ 1000) : ∀ (n k : Nat), s.length < n + k → k ≤ s.length → equali_l1 N n s s (s.length : Int) k = some (.inr ())
  | 0, k, h, _ => by omega
  | n + 1, k, h, hk => by
    unfold equali_l1
    by_cases c : k < s.length
    · rw [br_dec (by omega), idx_get 0 (by omega) (by omega), idx_get 0 (by omega) (by omega), br_nd rfl, chk_eq (by omega)]
      have := equali_l1_p hs n (k + 1) (by omega) (by omega)
      rw [show ((k + 1 : Nat) : Int) = (k : Int) + 1 by omega] at this
      exact this
    · rw [br_ndec (by omega)]
theorem equali_v {s : List Int} (hs : s.length ≤ 1000) (hN : s.length < N) : equali_S N s s = some true := by
  unfold equali_S
  have := equali_l1_p (N := N) hs N 0 (by omega) (by omega)
  rw [show ((0 : Nat) : Int) = 0 from rfl] at this
  rw [br_nd rfl, this]; rfl
theorem likei_v {s : List Int} (hs : s.length ≤ 1000) (hN : s.length < N) : likei_S N s s = some true := by
  unfold likei_S
  rw [equali_v hs hN]; rfl
theorem equalq_l1_p {s : List (Int × Int)} (hs : s.length ≤ 1000) : ∀ (n k : Nat), s.length < n + k → k ≤ s.length → equalq_l1 N n s s (s.length : Int) k = some (.inr ())
  | 0, k, h, _ => by omega
  | n + 1, k, h, hk => by
    unfold equalq_l1
    by_cases c : k < s.length
    · rw [br_dec (by omega), idx_get (0, 0) (by omega) (by omega), idx_get (0, 0) (by omega) (by omega)]
      simp only [decide_true, Bool.and_self, Bool.not_true, br_false]
      rw [chk_eq (by omega)]
      have := equalq_l1_p hs n (k + 1) (by omega) (by omega)
      rw [show ((k + 1 : Nat) : Int) = (k : Int) + 1 by omega] at this
      exact this
    · rw [br_ndec (by omega)]
theorem likeq_v {s : List (Int × Int)} (hs : s.length ≤ 1000) (hN : s.length < N) : likeq_S N s s = some true := by
  unfold likeq_S equalq_S
  have := equalq_l1_p (N := N) hs N 0 (by omega) (by omega)
  rw [show ((0 : Nat) : Int) = 0 from rfl] at this
  rw [br_nd rfl, this]; rfl
theorem equalf_l1_p (hT : T.length ≤ 1000) (hl : ∀ x ∈ T, x.length ≤ 1000 ∧ x.length < N) : ∀ (n k : Nat), T.length < n + k → k ≤ T.length → equalf_l1 N n T T (T.length : Int) k = some (.inr ())
  | 0, k, h, _ => by omega
  | n + 1, k, h, hk => by
    unfold equalf_l1
    by_cases c : k < T.length
    · have l1 := hl (T.getD k []) (getD_mem c)
      rw [br_dec (by omega), idx_get [] (by omega) (by omega), idx_get [] (by omega) (by omega)]
      simp only [Int.toNat_natCast]
      rw [equali_v l1.1 l1.2]
      simp only [Option.bind_some, Bool.not_true, br_false]
      rw [chk_eq (by omega)]
      have := equalf_l1_p hT hl n (k + 1) (by omega) (by omega)
      rw [show ((k + 1 : Nat) : Int) = (k : Int) + 1 by omega] at this
      exact this
    · rw [br_ndec (by omega)]
theorem same_v (hN : 20 ≤ N) (h : Small T H) (f : Int) : same_S N T H f T H f = some true := by
  have hT := h.n
  have hH := h.h
  unfold same_S liker_S equalf_S
  have := equalf_l1_p (N := N) (T := T) (by omega) (fun x hx => by have := h.l x hx; omega) N 0 (by omega) (by omega)
  rw [show ((0 : Nat) : Int) = 0 from rfl] at this
  rw [br_nd rfl, this]
  simp only [Option.bind_some, br_true]
  rw [likei_v (by omega) (by omega)]
  simp only [Option.bind_some, br_true, decide_true]
theorem copye_small (hN : 1010 ≤ N) (h : Small T H) (f : Int) : copye_S N T H f = some (T, H, f) :=
  copye_v (by have := h.n; have := h.h; omega) (fun x hx => by have := h.l x hx; omega) hN

/-! ### The reference's errors -/
theorem off_v (n lo hi : Int) : off_S N n lo hi = some (!decide (lo ≤ n ∧ n ≤ hi)) := by
  unfold off_S
  by_cases c : n < lo
  · rw [br_dec c, decide_eq_false (by omega)]; rfl
  · rw [br_ndec c]
    congr 1
    rw [Bool.eq_iff_iff]
    simp only [decide_eq_true_eq, Bool.not_eq_true', decide_eq_false_iff_not]
    omega
theorem rcheck_l1_p (hT : T.length ≤ 1000) : ∀ (n k : Nat), T.length < n + k → k ≤ T.length → rcheck_l1 N n k T H f = some (if (T.drop k).all okL then .inr (T, H, f) else .inl ())
  | 0, k, h, _ => by omega
  | n + 1, k, h, hk => by
    unfold rcheck_l1
    by_cases c : k < T.length
    · have hd : T.drop k = T.getD k [] :: T.drop (k + 1) := by
        rw [List.drop_eq_getElem_cons c]; simp [List.getD, c]
      have hk' : T[((k : Nat) : Int).toNat]? = some (T.getD k []) := by simp [List.getD, c]
      generalize T.getD k [] = x at *
      rw [br_dec (by omega), idx_eq (by omega) hk', off_v, hd, List.all_cons]
      simp only [Option.bind_some]
      have ex : okL x = decide (1 ≤ (x.length : Int) ∧ (x.length : Int) ≤ 6) := rfl
      rw [← ex]
      cases okL x with
      | false => rfl
      | true =>
        simp only [Bool.not_true, br_false, Bool.true_and]
        rw [chk_eq (by omega)]
        have := rcheck_l1_p hT n (k + 1) (by omega) (by omega)
        rw [show ((k + 1 : Nat) : Int) = (k : Int) + 1 by omega] at this
        exact this
    · rw [br_ndec (by omega), List.drop_of_length_le (by omega)]; rfl
theorem rcheck_l3_p {t : Nat} {x : List Int} (ht : T[t]? = some x) (hx : x.length ≤ 1000) : ∀ (n k : Nat), x.length < n + k → k ≤ x.length → rcheck_l3 N n t k T H f = some (if (x.drop k).all okW then .inr ((t : Int), T, H, f) else .inl ())
  | 0, k, h, _ => by omega
  | n + 1, k, h, hk => by
    unfold rcheck_l3
    have ht' : T[((t : Nat) : Int).toNat]? = some x := by simpa using ht
    rw [idx_eq (by omega) ht']
    by_cases c : k < x.length
    · have hd : x.drop k = x.getD k 0 :: x.drop (k + 1) := drop_cons c
      have hk' : x[((k : Nat) : Int).toNat]? = some (x.getD k 0) := by simp [List.getD, c]
      generalize x.getD k 0 = y at *
      rw [br_dec (by omega), idx_eq (by omega) ht', idx_eq (by omega) hk', off_v, hd, List.all_cons]
      simp only [Option.bind_some]
      have ex : okW y = decide (0 ≤ y ∧ y ≤ 9) := rfl
      rw [← ex]
      cases okW y with
      | false => rfl
      | true =>
        simp only [Bool.not_true, br_false, Bool.true_and]
        rw [chk_eq (by omega)]
        have := rcheck_l3_p ht hx n (k + 1) (by omega) (by omega)
        rw [show ((k + 1 : Nat) : Int) = (k : Int) + 1 by omega] at this
        exact this
    · rw [br_ndec (by omega), List.drop_of_length_le (by omega)]; rfl
theorem rcheck_l2_p (hT : T.length ≤ 1000) (hl : ∀ x ∈ T, x.length ≤ 1000 ∧ x.length < N) : ∀ (n k : Nat), T.length < n + k → k ≤ T.length → rcheck_l2 N n k T H f = some (if (T.drop k).all (fun x => x.all okW) then .inr (T, H, f) else .inl ())
  | 0, k, h, _ => by omega
  | n + 1, k, h, hk => by
    unfold rcheck_l2
    by_cases c : k < T.length
    · have l1 := hl (T.getD k []) (getD_mem c)
      have hd : T.drop k = T.getD k [] :: T.drop (k + 1) := by
        rw [List.drop_eq_getElem_cons c]; simp [List.getD, c]
      have hk' : T[k]? = some (T.getD k []) := by simp [List.getD, c]
      generalize T.getD k [] = x at *
      have e3 := rcheck_l3_p (N := N) (H := H) (f := f) hk' l1.1 N 0 (by omega) (by omega)
      rw [show ((0 : Nat) : Int) = 0 from rfl, List.drop_zero] at e3
      rw [br_dec (by omega), e3, hd, List.all_cons]
      simp only [Option.bind_some]
      cases x.all okW with
      | false => rfl
      | true =>
        simp only [Bool.true_and, if_true]
        rw [chk_eq (by omega)]
        have := rcheck_l2_p hT hl n (k + 1) (by omega) (by omega)
        rw [show ((k + 1 : Nat) : Int) = (k : Int) + 1 by omega] at this
        exact this
    · rw [br_ndec (by omega), List.drop_of_length_le (by omega)]; rfl
theorem rcheck_l4_p (hH : H.length ≤ 1000) : ∀ (n k : Nat), H.length < n + k → k ≤ H.length → rcheck_l4 N n k T H f = some (if (H.drop k).all okW then .inr (T, H, f) else .inl ())
  | 0, k, h, _ => by omega
  | n + 1, k, h, hk => by
    unfold rcheck_l4
    by_cases c : k < H.length
    · have hd : H.drop k = H.getD k 0 :: H.drop (k + 1) := drop_cons c
      have hk' : H[((k : Nat) : Int).toNat]? = some (H.getD k 0) := by simp [List.getD, c]
      generalize H.getD k 0 = y at *
      rw [br_dec (by omega), idx_eq (by omega) hk', off_v, hd, List.all_cons]
      simp only [Option.bind_some]
      have ex : okW y = decide (0 ≤ y ∧ y ≤ 9) := rfl
      rw [← ex]
      cases okW y with
      | false => rfl
      | true =>
        simp only [Bool.not_true, br_false, Bool.true_and]
        rw [chk_eq (by omega)]
        have := rcheck_l4_p hH n (k + 1) (by omega) (by omega)
        rw [show ((k + 1 : Nat) : Int) = (k : Int) + 1 by omega] at this
        exact this
    · rw [br_ndec (by omega), List.drop_of_length_le (by omega)]; rfl
theorem rcheck_v (hN : 20 ≤ N) (h : Small T H) : rcheck_S N T H f = some (checkE T H f) := by
  have hT := h.n
  have hH := h.h
  unfold rcheck_S checkE
  rw [off_v]
  simp only [Option.bind_some]
  by_cases c1 : 1 ≤ T.length ∧ T.length ≤ 5
  · rw [if_neg (by simpa using c1), show decide ((1 : Int) ≤ (T.length : Int) ∧ (T.length : Int) ≤ 5) = true by simp; omega]
    simp only [Bool.not_true, br_false]
    by_cases c2 : 10 < H.length
    · rw [if_pos c2, br_dec (by omega)]
    · rw [if_neg c2, br_ndec (by omega)]
      have e1 := rcheck_l1_p (N := N) (T := T) (H := H) (f := f) (by omega) N 0 (by omega) (by omega)
      have e2 := rcheck_l2_p (N := N) (T := T) (H := H) (f := f) (by omega) (fun x hx => by have := h.l x hx; omega) N 0 (by omega) (by omega)
      have e4 := rcheck_l4_p (N := N) (T := T) (H := H) (f := f) (by omega) N 0 (by omega) (by omega)
      rw [show ((0 : Nat) : Int) = 0 from rfl, List.drop_zero] at e1 e2 e4
      rw [e1]
      cases T.all okL with
      | false => rfl
      | true =>
        simp only [Option.bind_some, if_true, not_true_eq_false, if_false]
        rw [e2]
        cases T.all fun x => x.all okW with
        | false => rfl
        | true =>
          simp only [Option.bind_some, if_true, not_true_eq_false, if_false]
          rw [e4]
          cases H.all okW with
          | false => rfl
          | true =>
            simp only [Option.bind_some, if_true, not_true_eq_false, if_false]
            rw [off_v]
            simp only [Option.bind_some]
            by_cases c5 : 0 ≤ f ∧ f ≤ 8
            · rw [decide_eq_true c5]; simp [c5, br]
            · rw [decide_eq_false c5]; simp only [Bool.not_false, br_true]; rw [if_pos c5]
  · rw [if_pos (by simpa using c1), show decide ((1 : Int) ≤ (T.length : Int) ∧ (T.length : Int) ≤ 5) = false by simp; omega]
    rfl
theorem rtwo_v (hN : 20 ≤ N) (h : Small T H) (a b : Int) : rtwo_S N T H f a b = some (openE T H f a b) := by
  unfold rtwo_S openE
  have hT := h.n
  rw [rcheck_v hN h]
  simp only [Option.bind_some]
  by_cases c : checkE T H f = 0
  · rw [br_nd c, if_neg (by simpa using c), chk_eq (by omega), off_v]
    simp only [Option.bind_some]
    by_cases ha : 0 ≤ a ∧ a < T.length
    · rw [show decide (0 ≤ a ∧ a ≤ (T.length : Int) - 1) = true by simp; omega]
      simp only [Bool.not_true, br_false]
      rw [chk_eq (by omega), off_v]
      simp only [Option.bind_some]
      by_cases hb : 0 ≤ b ∧ b < T.length
      · rw [show decide (0 ≤ b ∧ b ≤ (T.length : Int) - 1) = true by simp; omega, if_neg (by simp; omega)]; rfl
      · rw [show decide (0 ≤ b ∧ b ≤ (T.length : Int) - 1) = false by simp; omega, if_pos (.inr hb)]; rfl
    · rw [show decide (0 ≤ a ∧ a ≤ (T.length : Int) - 1) = false by simp; omega, if_pos (.inl ha)]; rfl
  · rw [br_nnd c, if_pos c]

/-! ### Readings -/
/-- What is behind when a word that was heard has a place. -/
def stepF (A B : List Int) (w : Int) (x : At3) (q : Int × Int) : Option At3 :=
  if q.1 = 1 then (if (x.2.1 : Int) ≤ q.2 ∧ q.2 < A.length ∧ A.getD q.2.toNat 0 = w then some (x.1 + 1, q.2.toNat + 1, x.2.2) else none)
  else if q.1 = 2 then (if (x.2.2 : Int) ≤ q.2 ∧ q.2 < B.length ∧ B.getD q.2.toNat 0 = w then some (x.1 + 1, x.2.1, q.2.toNat + 1) else none)
  else if q.1 = 3 ∧ q.2 = 0 then some (x.1 + 1, x.2.1, x.2.2) else none
theorem mem_movesL {A B : List Int} {w : Int} {x : At3} {m : Mv} : m ∈ movesL A B w x ↔ stepF A B w x m.1 = some m.2 := by
  obtain ⟨⟨s, p⟩, y⟩ := m
  simp only [movesL, List.mem_cons, List.mem_append, List.mem_map, stepF]
  constructor
  · rintro (h | ⟨j, hj, h⟩ | ⟨j, hj, h⟩)
    · simp only [Prod.mk.injEq] at h
      obtain ⟨⟨rfl, rfl⟩, rfl⟩ := h
      simp
    · simp only [Prod.mk.injEq] at h
      obtain ⟨⟨rfl, rfl⟩, rfl⟩ := h
      obtain ⟨h1, h2, h3⟩ := mem_standsL.1 hj
      rw [if_pos rfl, if_pos ⟨by omega, by omega, by simpa using h3⟩]; simp
    · simp only [Prod.mk.injEq] at h
      obtain ⟨⟨rfl, rfl⟩, rfl⟩ := h
      obtain ⟨h1, h2, h3⟩ := mem_standsL.1 hj
      rw [if_neg (by decide), if_pos rfl, if_pos ⟨by omega, by omega, by simpa using h3⟩]; simp
  · intro h
    by_cases c1 : s = 1
    · rw [if_pos c1] at h
      split at h
      · rename_i hc
        simp only [Option.some.injEq] at h
        refine .inr (.inl ⟨p.toNat, mem_standsL.2 ⟨by omega, by omega, hc.2.2⟩, ?_⟩)
        rw [← h, c1, show ((p.toNat : Nat) : Int) = p by omega]
      · cases h
    · rw [if_neg c1] at h
      by_cases c2 : s = 2
      · rw [if_pos c2] at h
        split at h
        · rename_i hc
          simp only [Option.some.injEq] at h
          refine .inr (.inr ⟨p.toNat, mem_standsL.2 ⟨by omega, by omega, hc.2.2⟩, ?_⟩)
          rw [← h, c2, show ((p.toNat : Nat) : Int) = p by omega]
        · cases h
      · rw [if_neg c2] at h
        split at h
        · rename_i hc
          simp only [Option.some.injEq] at h
          exact .inl (by rw [← h, hc.1, hc.2])
        · cases h
/-- A reading that goes on from some place. -/
def fitL (H A B : List Int) : List (Int × Int) → At3 → Bool
  | [], _ => true
  | q :: r, x => match stepF A B (H.getD x.1 0) x q with
    | none => false
    | some y => fitL H A B r y
def toldN : List (Int × Int) → Int
  | [] => 0
  | q :: r => (if q.1 = 3 then 0 else 1) + toldN r
theorem toldN_bnd : ∀ l : List (Int × Int), 0 ≤ toldN l ∧ toldN l ≤ l.length
  | [] => by simp [toldN]
  | q :: r => by
    have := toldN_bnd r
    unfold toldN
    simp only [List.length_cons]
    split <;> omega
theorem stepF_at {A B : List Int} {w : Int} {x y : At3} {q : Int × Int} (h : stepF A B w x q = some y) (ha : x.2.1 ≤ A.length) (hb : x.2.2 ≤ B.length) : y.1 = x.1 + 1 ∧ y.2.1 ≤ A.length ∧ y.2.2 ≤ B.length :=
  movesL_ok ha hb (mem_movesL.2 (show stepF A B w x ((q, y) : Mv).1 = some y from h))
theorem nextR_v {h i k : Nat} {T : List (List Int)} {H A B : List Int} {f : Int} (hh : h < H.length) (hH : H.length ≤ 10) (hA : A.length ≤ 6) (hB : B.length ≤ 6) (hi : i ≤ A.length) (hk : k ≤ B.length) : nextR ((h : Int), (i : Int), (k : Int)) (T, H, f, A, B) = some ((movesL A B (H.getD h 0) (h, i, k)).map movP) := by
  unfold nextR
  rw [if_pos ⟨⟨by simp, by simp; omega⟩, ⟨by simp, by simp; omega⟩, ⟨by simp, by simp; omega⟩, by dsimp only; omega, by dsimp only; omega, by dsimp only; omega⟩]
  simp
theorem faults_l2_p {u u2 words u4 u5 : Int} {d : Desk} {u3 : List (Int × Int)} {u6 : Int × Int × Int} {u7 : Desk} {x x2 x3 : Int} {q : Int × Int} : ∀ (ms : List Mv),
    faults_l2 N (ms.map movP) u u2 d words u3 u4 u5 u6 u7 x x2 x3 q.1 q.2 false = some (match ms.find? (fun m => m.1 == q) with
      | some m => (u, u2, d, words, u3, u4, u5, (m.2.1 : Int), (m.2.2.1 : Int), (m.2.2.2 : Int), q.1, q.2, true)
      | none => (u, u2, d, words, u3, u4, u5, x, x2, x3, q.1, q.2, false))
  | [] => rfl
  | m :: ms => by
    obtain ⟨⟨m1, m2⟩, y1, y2, y3⟩ := m
    obtain ⟨q1, q2⟩ := q
    rw [List.map_cons, List.find?_cons]
    have next := faults_l2_p (u := u) (u2 := u2) (words := words) (u4 := u4) (u5 := u5) (d := d) (u3 := u3) (u6 := u6) (u7 := u7) (x := x) (x2 := x2) (x3 := x3) (q := (q1, q2)) ms
    show br (decide (m1 = q1) && decide (m2 = q2)) (some (u, u2, d, words, u3, u4, u5, (y1 : Int), (y2 : Int), (y3 : Int), q1, q2, true)) (faults_l2 N (ms.map movP) u u2 d words u3 u4 u5 u6 u7 x x2 x3 q1 q2 false) = _
    have e : (((m1, m2) : Int × Int) == (q1, q2)) = (decide (m1 = q1) && decide (m2 = q2)) := by
      rw [Bool.eq_iff_iff]; simp
    rw [e]
    cases decide (m1 = q1) && decide (m2 = q2) with
    | true => rfl
    | false =>
      rw [br_false]
      exact next
theorem find_movesL {A B : List Int} {w : Int} {x : At3} (q : Int × Int) : (movesL A B w x).find? (fun m => m.1 == q) = (stepF A B w x q).map fun y => (q, y) := by
  cases h : stepF A B w x q with
  | none =>
    rw [Option.map_none, List.find?_eq_none]
    intro m hm he
    have := mem_movesL.1 hm
    rw [beq_iff_eq.1 he, h] at this
    cases this
  | some y =>
    rw [Option.map_some]
    cases h2 : (movesL A B w x).find? (fun m => m.1 == q) with
    | none =>
      have := List.find?_eq_none.1 h2 (q, y) (mem_movesL.2 h)
      simp at this
    | some m =>
      have h3 := List.find?_some h2
      have h4 := mem_movesL.1 (List.mem_of_find?_eq_some h2)
      rw [beq_iff_eq.1 h3, h] at h4
      simp only [Option.some.injEq] at h4
      rw [h4, ← beq_iff_eq.1 h3]
theorem faults_l1_p {A B : List Int} {l : List (Int × Int)} (hH : H.length ≤ 10) (hA : A.length ≤ 6) (hB : B.length ≤ 6) (hl : l.length = H.length) : ∀ (n : Nat) (x : At3) (u u2 words : Int), l.length < n + x.1 → x.1 ≤ l.length → x.2.1 ≤ A.length → x.2.2 ≤ B.length → 0 ≤ words ∧ words ≤ x.1 →
    faults_l1 N n u u2 (T, H, f, A, B) words l (l.length : Int) x.1 x.1 x.2.1 x.2.2 = some (if fitL H A B (l.drop x.1) x = true then .inr ((T, H, f, A, B), words + toldN (l.drop x.1)) else .inl ())
  | 0, x, u, u2, words, h, _, _, _, _ => by omega
  | n + 1, x, u, u2, words, h, hx, hi, hk, hw => by
    unfold faults_l1
    obtain ⟨h0, i, k⟩ := x
    dsimp only at *
    by_cases c : h0 < l.length
    · have hd : l.drop h0 = l.getD h0 (0, 0) :: l.drop (h0 + 1) := by
        rw [List.drop_eq_getElem_cons c]; simp [List.getD, c]
      have hk' : l[((h0 : Nat) : Int).toNat]? = some (l.getD h0 (0, 0)) := by simp [List.getD, c]
      generalize l.getD h0 (0, 0) = q at *
      rw [br_dec (by omega), idx_eq (by omega) hk']
      simp only [next_S, Option.bind_some]
      rw [nextR_v (by omega) hH hA hB hi hk]
      simp only [Option.bind_some]
      rw [faults_l2_p, find_movesL, hd]
      unfold fitL toldN
      dsimp only
      cases hs : stepF A B (H.getD h0 0) (h0, i, k) q with
      | none =>
        simp only [Option.map_none, Option.bind_some, Bool.not_false, br_true, Bool.false_eq_true, if_false]
      | some y =>
        obtain ⟨y1, y2, y3⟩ := stepF_at hs hi hk
        simp only [Option.map_some, Option.bind_some, Bool.not_true, br_false]
        dsimp only at y1
        have next := fun w hw => faults_l1_p (A := A) (B := B) hH hA hB hl n y u u2 w (by omega) (by omega) y2 y3 hw
        by_cases c3 : q.1 = 3
        · rw [br_nd c3, if_pos c3]
          unfold faults_j1
          rw [chk_eq (by omega)]
          have := next words (by omega)
          rw [y1, show ((h0 + 1 : Nat) : Int) = (h0 : Int) + 1 by omega] at this
          rw [y1, show ((h0 + 1 : Nat) : Int) = (h0 : Int) + 1 by omega, this]
          simp
        · have tb := toldN_bnd (l.drop (h0 + 1))
          rw [br_nnd c3, if_neg c3, chk_eq (by omega)]
          unfold faults_j1
          rw [chk_eq (by omega)]
          have := next (words + 1) (by omega)
          rw [y1, show ((h0 + 1 : Nat) : Int) = (h0 : Int) + 1 by omega] at this
          rw [y1, show ((h0 + 1 : Nat) : Int) = (h0 : Int) + 1 by omega, this]
          rw [Int.add_assoc]
    · rw [br_ndec (by omega), List.drop_of_length_le (by omega)]
      simp [fitL, toldN]
theorem faults_v (hN : 20 ≤ N) (T : List (List Int)) (H : List Int) (f a b : Int) (l : List (Int × Int)) (hl : l.length ≤ 1000) : faults_S N T H f a b l = some (if openE T H f a b ≠ 0 then (0, openE T H f a b) else if l.length ≠ H.length then (0, 2)
    else if fitL H (T.getD a.toNat []) (T.getD b.toNat []) l (0, 0, 0) = true then (((T.getD a.toNat []).length : Int) + (T.getD b.toNat []).length + H.length - 2 * toldN l, 0) else (0, 8)) := by
  unfold faults_S
  by_cases c : openE T H f a b = 0
  · rw [if_neg (by simpa using c)]
    obtain ⟨hF, ha, hb, e⟩ := opened_good hN c
    have hH := hF.h
    have lA := hF.l (T.getD a.toNat []) (getD_mem (by omega))
    have lB := hF.l (T.getD b.toNat []) (getD_mem (by omega))
    rw [e]
    simp only [Option.bind_some, decide_true, Bool.not_true, br_false]
    by_cases d : l.length = H.length
    · rw [if_neg (by simpa using d), br_nd (by omega)]
      have := faults_l1_p (N := N) (T := T) (H := H) (f := f) (A := T.getD a.toNat []) (B := T.getD b.toNat []) (l := l) hH lA.2 lB.2 d N (0, 0, 0) 0 0 0 (by dsimp only; omega) (by dsimp only; omega) (by dsimp only; omega) (by dsimp only; omega) (by dsimp only; omega)
      dsimp only at this
      rw [show ((0 : Nat) : Int) = 0 from rfl, List.drop_zero] at this
      rw [this]
      have tb := toldN_bnd l
      by_cases g : fitL H (T.getD a.toNat []) (T.getD b.toNat []) l (0, 0, 0) = true
      · rw [if_pos g, if_pos g]
        simp only [Option.bind_some]
        rw [dfaults_v hH lA.2 lB.2 (by omega)]
        simp
      · rw [if_neg g, if_neg g]; rfl
    · rw [if_pos d, br_nnd (by omega)]
  · rw [if_pos c, opened_bad hN c]
    simp only [Option.bind_some]
    rw [br_nnd c]
/-! ### The reference's readings -/
theorem fits_l1_p {A B : List Int} {l : List (Int × Int)} {a b : Int} (ha : 0 ≤ a) (hb : 0 ≤ b) (hTa : T[a.toNat]? = some A) (hTb : T[b.toNat]? = some B) (hA : A.length ≤ 1000) (hB : B.length ≤ 1000) (hl : l.length ≤ H.length) (hH : H.length ≤ 1000) : ∀ (n : Nat) (x : At3), l.length < n + x.1 → x.1 ≤ l.length → x.2.1 ≤ A.length → x.2.2 ≤ B.length →
    ∃ r, fits_l1 N n l ((x.2.1 : Int) - 1) ((x.2.2 : Int) - 1) x.1 T H f a b = some r ∧ (fitL H A B (l.drop x.1) x = true ∧ r = .inr (.inr (.inr ())) ∨ fitL H A B (l.drop x.1) x = false ∧ r ≠ .inr (.inr (.inr ())))
  | 0, x, h, _, _, _ => by omega
  | n + 1, x, h, hx, hi, hk => by
    unfold fits_l1
    obtain ⟨h0, i, k⟩ := x
    dsimp only at *
    by_cases c : h0 < l.length
    · have hd : l.drop h0 = l.getD h0 (0, 0) :: l.drop (h0 + 1) := by
        rw [List.drop_eq_getElem_cons c]; simp [List.getD, c]
      have hk' : l[((h0 : Nat) : Int).toNat]? = some (l.getD h0 (0, 0)) := by simp [List.getD, c]
      have hw : H[((h0 : Nat) : Int).toNat]? = some (H.getD h0 0) := by
        have : h0 < H.length := by omega
        simp [List.getD, this]
      generalize l.getD h0 (0, 0) = q at *
      obtain ⟨s, p⟩ := q
      have next := fun (y : At3) (hy : y.1 = h0 + 1) (h1 : y.2.1 ≤ A.length) (h2 : y.2.2 ≤ B.length) => fits_l1_p ha hb hTa hTb hA hB hl hH n y (by omega) (by omega) h1 h2
      rw [hd]
      unfold fitL
      dsimp only
      rw [br_dec (by omega), idx_eq (by omega) hk']
      by_cases c1 : s = 1
      · rw [br_dec c1, idx_eq (by omega) hk']
        have st : stepF A B (H.getD h0 0) (h0, i, k) (s, p) = if (i : Int) ≤ p ∧ p < A.length ∧ A.getD p.toNat 0 = H.getD h0 0 then some (h0 + 1, p.toNat + 1, k) else none := by unfold stepF; exact if_pos c1
        rw [st]
        by_cases c2 : p ≤ (i : Int) - 1
        · rw [br_dec c2, if_neg (by omega)]; exact ⟨_, rfl, .inr ⟨rfl, by simp⟩⟩
        · rw [br_ndec c2, idx_eq (by omega) hk', idx_eq ha hTa]
          by_cases c3 : (A.length : Int) ≤ p
          · rw [br_dec c3, if_neg (by omega)]; exact ⟨_, rfl, .inr ⟨rfl, by simp⟩⟩
          · have hAp : A[p.toNat]? = some (A.getD p.toNat 0) := by
              have : p.toNat < A.length := by omega
              simp [List.getD, this]
            rw [br_ndec c3, idx_eq ha hTa, idx_eq (by omega) hk', idx_eq (show 0 ≤ ((s, p) : Int × Int).2 by dsimp only; omega) hAp, idx_eq (by omega) hw]
            by_cases c4 : A.getD p.toNat 0 = H.getD h0 0
            · rw [br_nd c4, if_pos ⟨by omega, by omega, c4⟩, idx_eq (by omega) hk']
              unfold fits_j1
              rw [chk_eq (by omega)]
              obtain ⟨r, e, hr⟩ := next (h0 + 1, p.toNat + 1, k) rfl (by dsimp only; omega) hk
              dsimp only at e hr ⊢
              rw [show ((p.toNat + 1 : Nat) : Int) - 1 = p by omega, show ((h0 + 1 : Nat) : Int) = (h0 : Int) + 1 by omega] at e
              exact ⟨r, e, hr⟩
            · rw [br_nnd c4, if_neg (fun h => c4 h.2.2)]; exact ⟨_, rfl, .inr ⟨rfl, by simp⟩⟩
      · rw [br_ndec c1, idx_eq (by omega) hk']
        by_cases c5 : s = 2
        · rw [br_dec c5, idx_eq (by omega) hk']
          have st : stepF A B (H.getD h0 0) (h0, i, k) (s, p) = if (k : Int) ≤ p ∧ p < B.length ∧ B.getD p.toNat 0 = H.getD h0 0 then some (h0 + 1, i, p.toNat + 1) else none := by unfold stepF; rw [if_neg c1]; exact if_pos c5
          rw [st]
          by_cases c2 : p ≤ (k : Int) - 1
          · rw [br_dec c2, if_neg (by omega)]; exact ⟨_, rfl, .inr ⟨rfl, by simp⟩⟩
          · rw [br_ndec c2, idx_eq (by omega) hk', idx_eq hb hTb]
            by_cases c3 : (B.length : Int) ≤ p
            · rw [br_dec c3, if_neg (by omega)]; exact ⟨_, rfl, .inr ⟨rfl, by simp⟩⟩
            · have hBp : B[p.toNat]? = some (B.getD p.toNat 0) := by
                have : p.toNat < B.length := by omega
                simp [List.getD, this]
              rw [br_ndec c3, idx_eq hb hTb, idx_eq (by omega) hk', idx_eq (show 0 ≤ ((s, p) : Int × Int).2 by dsimp only; omega) hBp, idx_eq (by omega) hw]
              by_cases c4 : B.getD p.toNat 0 = H.getD h0 0
              · rw [br_nd c4, if_pos ⟨by omega, by omega, c4⟩, idx_eq (by omega) hk']
                unfold fits_j1
                rw [chk_eq (by omega)]
                obtain ⟨r, e, hr⟩ := next (h0 + 1, i, p.toNat + 1) rfl hi (by dsimp only; omega)
                dsimp only at e hr ⊢
                rw [show ((p.toNat + 1 : Nat) : Int) - 1 = p by omega, show ((h0 + 1 : Nat) : Int) = (h0 : Int) + 1 by omega] at e
                exact ⟨r, e, hr⟩
              · rw [br_nnd c4, if_neg (fun h => c4 h.2.2)]; exact ⟨_, rfl, .inr ⟨rfl, by simp⟩⟩
        · rw [br_ndec c5, idx_eq (by omega) hk']
          have st : stepF A B (H.getD h0 0) (h0, i, k) (s, p) = if s = 3 ∧ p = 0 then some (h0 + 1, i, k) else none := by unfold stepF; rw [if_neg c1, if_neg c5]
          rw [st]
          by_cases c6 : s = 3
          · rw [br_nd c6, idx_eq (by omega) hk']
            by_cases c7 : p = 0
            · rw [br_nd c7, if_pos ⟨c6, c7⟩]
              unfold fits_j1
              rw [chk_eq (by omega)]
              obtain ⟨r, e, hr⟩ := next (h0 + 1, i, k) rfl hi hk
              dsimp only at e hr ⊢
              rw [show ((h0 + 1 : Nat) : Int) = (h0 : Int) + 1 by omega] at e
              exact ⟨r, e, hr⟩
            · rw [br_nnd c7, if_neg (fun h => c7 h.2)]; exact ⟨_, rfl, .inr ⟨rfl, by simp⟩⟩
          · rw [br_nnd c6, if_neg (fun h => c6 h.1)]; exact ⟨_, rfl, .inr ⟨rfl, by simp⟩⟩
    · rw [br_ndec (by omega), List.drop_of_length_le (by omega)]
      exact ⟨_, rfl, .inl ⟨rfl, rfl⟩⟩
theorem fits_v {A B : List Int} {l : List (Int × Int)} {a b : Int} (ha : 0 ≤ a) (hb : 0 ≤ b) (hTa : T[a.toNat]? = some A) (hTb : T[b.toNat]? = some B) (hA : A.length ≤ 1000) (hB : B.length ≤ 1000) (hl : l.length ≤ H.length) (hH : H.length ≤ 1000) (hN : l.length < N) : fits_S N T H f a b l = some (fitL H A B l (0, 0, 0)) := by
  obtain ⟨r, e, hr⟩ := fits_l1_p (N := N) (f := f) ha hb hTa hTb hA hB hl hH N (0, 0, 0) (by dsimp only; omega) (by dsimp only; omega) (by dsimp only; omega) (by dsimp only; omega)
  unfold fits_S
  dsimp only at e hr
  rw [show ((0 : Nat) : Int) = 0 from rfl, show (0 : Int) - 1 = -1 from rfl] at e
  rw [List.drop_zero] at hr
  rw [e]
  rcases hr with ⟨h1, rfl⟩ | ⟨h1, h2⟩
  · rw [h1]; rfl
  · rw [h1]
    rcases r with r | r | r | r
    · rfl
    · rfl
    · rfl
    · exact absurd rfl h2
theorem faulty_l1_p {l : List (Int × Int)} (hl : l.length ≤ 1000) : ∀ (n k : Nat) (m : Int), l.length < n + k → k ≤ l.length → -10000 ≤ m - l.length + k ∧ m + l.length - k ≤ 10000 → faulty_l1 N n l m k = some (m + (l.length - k) - 2 * toldN (l.drop k))
  | 0, k, m, h, _, _ => by omega
  | n + 1, k, m, h, hk, hm => by
    unfold faulty_l1
    by_cases c : k < l.length
    · have hd : l.drop k = l.getD k (0, 0) :: l.drop (k + 1) := by
        rw [List.drop_eq_getElem_cons c]; simp [List.getD, c]
      have hk' : l[((k : Nat) : Int).toNat]? = some (l.getD k (0, 0)) := by simp [List.getD, c]
      generalize l.getD k (0, 0) = q at *
      rw [br_dec (by omega), idx_eq (by omega) hk', hd]
      unfold toldN
      by_cases c3 : q.1 = 3
      · rw [br_dec c3, if_pos c3, chk_eq (by omega)]
        unfold faulty_j1
        rw [chk_eq (by omega)]
        have := faulty_l1_p hl n (k + 1) (m + 1) (by omega) (by omega) (by omega)
        rw [show ((k + 1 : Nat) : Int) = (k : Int) + 1 by omega] at this
        rw [this]; congr 1; omega
      · rw [br_ndec c3, if_neg c3, chk_eq (by omega)]
        unfold faulty_j1
        rw [chk_eq (by omega)]
        have := faulty_l1_p hl n (k + 1) (m - 1) (by omega) (by omega) (by omega)
        rw [show ((k + 1 : Nat) : Int) = (k : Int) + 1 by omega] at this
        rw [this]; congr 1; omega
    · rw [br_ndec (by omega), List.drop_of_length_le (by omega)]
      simp [toldN]; omega
theorem faulty_v {A B : List Int} {l : List (Int × Int)} {a b : Int} (ha : 0 ≤ a) (hb : 0 ≤ b) (hTa : T[a.toNat]? = some A) (hTb : T[b.toNat]? = some B) (hA : A.length ≤ 1000) (hB : B.length ≤ 1000) (hl : l.length ≤ 1000) (hN : l.length < N) : faulty_S N T H f a b l = some ((A.length : Int) + B.length + l.length - 2 * toldN l) := by
  unfold faulty_S
  rw [idx_eq ha hTa, idx_eq hb hTb, chk_eq (by omega)]
  have := faulty_l1_p (N := N) hl N 0 ((A.length : Int) + B.length) (by omega) (by omega) (by omega)
  rw [show ((0 : Nat) : Int) = 0 from rfl, List.drop_zero] at this
  rw [this]
  simp
theorem rfaults_v (hN : 20 ≤ N) (h : Small T H) (a b : Int) (l : List (Int × Int)) (hl : l.length ≤ 14) : rfaults_S N T H f a b l = some (if openE T H f a b ≠ 0 then (0, openE T H f a b) else if l.length ≠ H.length then (0, 2)
    else if fitL H (T.getD a.toNat []) (T.getD b.toNat []) l (0, 0, 0) = true then (((T.getD a.toNat []).length : Int) + (T.getD b.toNat []).length + H.length - 2 * toldN l, 0) else (0, 8)) := by
  unfold rfaults_S
  rw [rtwo_v hN h]
  simp only [Option.bind_some]
  by_cases c : openE T H f a b = 0
  · rw [if_neg (by simpa using c), br_nd c]
    obtain ⟨hF, ha, hb, e⟩ := opened_good hN c
    have hH := hF.h
    have lA := hF.l (T.getD a.toNat []) (getD_mem (by omega))
    have lB := hF.l (T.getD b.toNat []) (getD_mem (by omega))
    have hTa : T[a.toNat]? = some (T.getD a.toNat []) := by
      have : a.toNat < T.length := by omega
      simp [List.getD, this]
    have hTb : T[b.toNat]? = some (T.getD b.toNat []) := by
      have : b.toNat < T.length := by omega
      simp [List.getD, this]
    by_cases d : l.length = H.length
    · rw [if_neg (by simpa using d), br_nd (by omega), fits_v ha.1 hb.1 hTa hTb (by omega) (by omega) (by omega) (by omega) (by omega)]
      simp only [Option.bind_some]
      cases g : fitL H (T.getD a.toNat []) (T.getD b.toNat []) l (0, 0, 0) with
      | true =>
        simp only [Bool.not_true, br_false, if_true]
        rw [faulty_v ha.1 hb.1 hTa hTb (by omega) (by omega) (by omega) (by omega)]
        simp only [Option.bind_some]
        rw [d]
      | false => rfl
    · rw [if_pos d, br_nnd (by omega)]
  · rw [if_pos c, br_nnd c]
theorem efaults_true {a b : Int} {l : List (Int × Int)} (h0 : (Ty.pair (.sl (.sl (.int .i64))) (.pair (.sl (.int .i64)) (.int .i64))).inB (T, H, f)) (h1 : (Ty.pair (.int .i64) (.int .i64)).inB (a, b)) (h2 : (Ty.sl (.pair (.int .i64) (.int .i64))).inB l) : efaults_S 1100 T H f a b l = some true := by
  unfold efaults_S
  rcases great_v (N := 1100) (by omega) T H f with e | ⟨e, hs⟩
  · rw [e]; simp only [Option.bind_some, br_true, awake_v]
  · rw [e]
    simp only [Option.bind_some, br_false]
    by_cases c : 14 < (l.length : Int)
    · rw [br_dec c]; simp only [awake_v, Option.bind_some]
    · rw [br_ndec c, copye_small (by omega) hs, copyp_v (by omega)]
      simp only [Option.bind_some]
      rw [faults_v (by omega) T H f a b l (by omega), places_v (by omega) (by omega)]
      simp only [Option.bind_some]
      rw [rfaults_v (by omega) hs a b l (by omega)]
      simp only [Option.bind_some, decide_true, br_true]
      rw [same_v (by omega) hs, likeq_v (by omega) (by omega), awake_v]
      rfl
end
end Go.Proofs.Ytfcnhnbnjdccfaa

namespace Go.Proofs.Ytfcnhnbnjdccfaa
set_option linter.all false
open Go

section
variable {N : Nat} {T : List (List Int)} {H A B : List Int} {f : Int}
/-- What is behind after places. -/
def runF (H A B : List Int) : List (Int × Int) → At3 → Option At3
  | [], x => some x
  | q :: r, x => (stepF A B (H.getD x.1 0) x q).bind (runF H A B r)
theorem fitL_run : ∀ (l : List (Int × Int)) (x : At3), fitL H A B l x = (runF H A B l x).isSome
  | [], _ => rfl
  | q :: r, x => by
    unfold fitL runF
    cases stepF A B (H.getD x.1 0) x q with
    | none => rfl
    | some y => exact fitL_run r y
theorem runF_app : ∀ (l r : List (Int × Int)) (x : At3), runF H A B (l ++ r) x = (runF H A B l x).bind (runF H A B r)
  | [], _, _ => rfl
  | q :: l, r, x => by
    rw [List.cons_append]
    unfold runF
    cases stepF A B (H.getD x.1 0) x q with
    | none => rfl
    | some y => exact runF_app l r y
/-- All readings of so many words from here on. -/
def rdx (H A B : List Int) : Nat → At3 → List (List (Int × Int))
  | 0, _ => [[]]
  | n + 1, x => (movesL A B (H.getD x.1 0) x).flatMap fun m => (rdx H A B n m.2).map fun r => m.1 :: r
theorem flat_len {α β : Type} {g : α → List β} {P : Nat} : ∀ (l : List α), (∀ x ∈ l, (g x).length ≤ P) → (l.flatMap g).length ≤ l.length * P
  | [], _ => by simp
  | x :: l, h => by
    rw [List.flatMap_cons, List.length_append, List.length_cons, Nat.succ_mul]
    have h1 := h x (by simp)
    have h2 := flat_len l (fun y hy => h y (by simp [hy]))
    omega
theorem rdx_len {M : Nat} (hM : 1 + A.length + B.length ≤ M) : ∀ (n : Nat) (x : At3), (rdx H A B n x).length ≤ M ^ n
  | 0, _ => by simp [rdx]
  | n + 1, x => by
    unfold rdx
    have h1 := flat_len (g := fun m => (rdx H A B n m.2).map fun r => m.1 :: r) (P := M ^ n) (movesL A B (H.getD x.1 0) x) (fun m _ => by rw [List.length_map]; exact rdx_len hM n m.2)
    have h2 := movesL_len A B (H.getD x.1 0) x
    have h3 : (movesL A B (H.getD x.1 0) x).length * M ^ n ≤ M * M ^ n := Nat.mul_le_mul_right _ (by omega)
    rw [Nat.pow_succ, Nat.mul_comm (M ^ n) M]
    omega
theorem flat_filter {α β : Type} (p : α → Bool) (g : α → List β) : ∀ l : List α, (l.flatMap fun x => if p x = true then g x else []) = (l.filter p).flatMap g
  | [] => rfl
  | x :: l => by
    rw [List.flatMap_cons, flat_filter p g l, List.filter_cons]
    split <;> simp
theorem stands_all {β : Type} (l : List Int) (w : Int) (i : Nat) (hi : i ≤ l.length) (g : Nat → List β) : ((List.range l.length).flatMap fun k => if (decide (i ≤ k) && l.getD k 0 == w) = true then g k else []) = (standsL l w i).flatMap g := by
  rw [flat_filter (fun k => decide (i ≤ k) && l.getD k 0 == w) g]
  have e : List.range l.length = List.range' 0 i ++ List.range' i (l.length - i) := by
    rw [List.range_eq_range', show l.length = i + (l.length - i) by omega, ← List.range'_append]
    simp
  rw [e, List.filter_append]
  have e1 : (List.range' 0 i).filter (fun k => decide (i ≤ k) && l.getD k 0 == w) = [] := by
    rw [List.filter_eq_nil_iff]
    intro k hk
    have := List.mem_range'.1 hk
    simp only [Bool.and_eq_true, decide_eq_true_eq, not_and]
    intro h; omega
  have e2 : (List.range' i (l.length - i)).filter (fun k => decide (i ≤ k) && l.getD k 0 == w) = standsL l w i := by
    unfold standsL
    apply List.filter_congr
    intro k hk
    have := List.mem_range'.1 hk
    have h2 : i ≤ k := by omega
    simp [h2]
  rw [e1, e2, List.nil_append]
/-- What readings with a further place there are. -/
def gR (H A B : List Int) (n : Nat) (x : At3) (l : List (Int × Int)) (q : Int × Int) : List (List (Int × Int)) :=
  match stepF A B (H.getD x.1 0) x q with
  | none => []
  | some y => (rdx H A B n y).map fun r => (l ++ [q]) ++ r
theorem gR_len {M n : Nat} (hM : 1 + A.length + B.length ≤ M) (x : At3) (l : List (Int × Int)) (q : Int × Int) : (gR H A B n x l q).length ≤ M ^ n := by
  unfold gR
  split
  · simp
  · rw [List.length_map]; exact rdx_len hM n _
theorem gR_all {n : Nat} {x : At3} {l : List (Int × Int)} (hi : x.2.1 ≤ A.length) (hk : x.2.2 ≤ B.length) :
    (gR H A B n x l (3, 0) ++ ((List.range A.length).flatMap fun (k : Nat) => gR H A B n x l (1, (k : Int)))) ++ ((List.range B.length).flatMap fun (k : Nat) => gR H A B n x l (2, (k : Int))) = (rdx H A B (n + 1) x).map fun r => l ++ r := by
  have eA : ∀ k ∈ List.range A.length, gR H A B n x l (1, (k : Int)) = if (decide (x.2.1 ≤ k) && A.getD k 0 == H.getD x.1 0) = true then (rdx H A B n (x.1 + 1, k + 1, x.2.2)).map (fun r => l ++ (1, (k : Int)) :: r) else [] := by
    intro k hk
    have hk := List.mem_range.1 hk
    have st : stepF A B (H.getD x.1 0) x (1, (k : Int)) = if (x.2.1 : Int) ≤ (k : Int) ∧ (k : Int) < A.length ∧ A.getD (k : Int).toNat 0 = H.getD x.1 0 then some (x.1 + 1, (k : Int).toNat + 1, x.2.2) else none := rfl
    unfold gR
    rw [st]
    by_cases c : x.2.1 ≤ k ∧ A.getD k 0 = H.getD x.1 0
    · rw [if_pos ⟨by omega, by omega, by simpa using c.2⟩, if_pos (by simp only [Bool.and_eq_true, decide_eq_true_eq, beq_iff_eq]; exact c)]
      simp
    · rw [if_neg (fun h => c ⟨by omega, by simpa using h.2.2⟩), if_neg (by simp only [Bool.and_eq_true, decide_eq_true_eq, beq_iff_eq]; exact c)]
  have eB : ∀ k ∈ List.range B.length, gR H A B n x l (2, (k : Int)) = if (decide (x.2.2 ≤ k) && B.getD k 0 == H.getD x.1 0) = true then (rdx H A B n (x.1 + 1, x.2.1, k + 1)).map (fun r => l ++ (2, (k : Int)) :: r) else [] := by
    intro k hk
    have hk := List.mem_range.1 hk
    have st : stepF A B (H.getD x.1 0) x (2, (k : Int)) = if (x.2.2 : Int) ≤ (k : Int) ∧ (k : Int) < B.length ∧ B.getD (k : Int).toNat 0 = H.getD x.1 0 then some (x.1 + 1, x.2.1, (k : Int).toNat + 1) else none := rfl
    unfold gR
    rw [st]
    by_cases c : x.2.2 ≤ k ∧ B.getD k 0 = H.getD x.1 0
    · rw [if_pos ⟨by omega, by omega, by simpa using c.2⟩, if_pos (by simp only [Bool.and_eq_true, decide_eq_true_eq, beq_iff_eq]; exact c)]
      simp
    · rw [if_neg (fun h => c ⟨by omega, by simpa using h.2.2⟩), if_neg (by simp only [Bool.and_eq_true, decide_eq_true_eq, beq_iff_eq]; exact c)]
  have fc : ∀ {α β : Type} {u v : α → List β} (l : List α), (∀ k ∈ l, u k = v k) → l.flatMap u = l.flatMap v := by
    intro α β u v l
    induction l with
    | nil => intro _; rfl
    | cons a l ih => intro h; rw [List.flatMap_cons, List.flatMap_cons, h a (by simp), ih (fun k hk => h k (by simp [hk]))]
  rw [fc _ eA, fc _ eB, stands_all A _ _ hi, stands_all B _ _ hk]
  have er : rdx H A B (n + 1) x = (movesL A B (H.getD x.1 0) x).flatMap fun m => (rdx H A B n m.2).map fun r => m.1 :: r := rfl
  rw [er]
  unfold movesL
  have e3 : gR H A B n x l (3, 0) = (rdx H A B n (x.1 + 1, x.2.1, x.2.2)).map fun r => l ++ (3, 0) :: r := by
    unfold gR
    have st : stepF A B (H.getD x.1 0) x (3, 0) = some (x.1 + 1, x.2.1, x.2.2) := rfl
    rw [st]; simp
  rw [e3, List.flatMap_cons, List.flatMap_append, List.map_append, List.map_append, List.append_assoc]
  simp only [List.map_map, List.flatMap_map, List.map_flatMap]
  rfl
theorem readings_l1_p {self : (List (List Int)) → (List Int) → Int → Int → Int → (List (Int × Int)) → Option (List (List (Int × Int)))} {a b : Int} {l : List (Int × Int)} {x : At3} {m P : Nat} (ha : 0 ≤ a) (hTa : T[a.toNat]? = some A) (hl : l.length ≤ 100) (hA : A.length ≤ 100)
    (hs : ∀ q, self T H f a b (l ++ [q]) = some (gR H A B m x l q)) (hg : ∀ q, (gR H A B m x l q).length ≤ P) {o : List (List (Int × Int))} (ho : o.length ≤ P) (hP : (1 + A.length) * P ≤ 1000000) : ∀ (n k : Nat), A.length < n + k → k ≤ A.length →
    readings_l1 N self n l k T H f a b (o ++ (List.range k).flatMap fun (j : Nat) => gR H A B m x l (1, (j : Int))) = some (l, T, H, f, a, b, o ++ (List.range A.length).flatMap fun (j : Nat) => gR H A B m x l (1, (j : Int)))
  | 0, k, h, _ => by omega
  | n + 1, k, h, hk => by
    unfold readings_l1
    rw [idx_eq ha hTa]
    by_cases c : k < A.length
    · have fl := flat_len (g := fun j : Nat => gR H A B m x l (1, (j : Int))) (P := P) (List.range k) (fun j _ => hg _)
      rw [List.length_range] at fl
      have gl := hg (1, (k : Int))
      have hp : (1 + k + 1) * P ≤ (1 + A.length) * P := Nat.mul_le_mul_right _ (by omega)
      have hp2 : (1 + k + 1) * P = P + k * P + P := by rw [Nat.add_mul, Nat.add_mul, Nat.one_mul]
      rw [br_dec (by omega), lim_eq (by simp; omega), lim_eq (by simp; omega)]
      simp only [List.nil_append]
      rw [hs]
      simp only [Option.bind_some]
      rw [lim_eq (by rw [List.length_append]; omega), chk_eq (by omega)]
      have := readings_l1_p ha hTa hl hA hs hg ho hP n (k + 1) (by omega) (by omega)
      rw [show ((k + 1 : Nat) : Int) = (k : Int) + 1 by omega, List.range_succ, List.flatMap_append, ← List.append_assoc] at this
      simpa using this
    · have e : k = A.length := by omega
      rw [br_ndec (by omega), e]
theorem readings_l2_p {self : (List (List Int)) → (List Int) → Int → Int → Int → (List (Int × Int)) → Option (List (List (Int × Int)))} {a b : Int} {l : List (Int × Int)} {x : At3} {m P Q : Nat} (ha : 0 ≤ b) (hTa : T[b.toNat]? = some B) (hl : l.length ≤ 100) (hA : B.length ≤ 100)
    (hs : ∀ q, self T H f a b (l ++ [q]) = some (gR H A B m x l q)) (hg : ∀ q, (gR H A B m x l q).length ≤ P) {o : List (List (Int × Int))} (ho : o.length ≤ Q) (hP : Q + B.length * P ≤ 1000000) : ∀ (n k : Nat), B.length < n + k → k ≤ B.length →
    readings_l2 N self n l k T H f a b (o ++ (List.range k).flatMap fun (j : Nat) => gR H A B m x l (2, (j : Int))) = some (o ++ (List.range B.length).flatMap fun (j : Nat) => gR H A B m x l (2, (j : Int)))
  | 0, k, h, _ => by omega
  | n + 1, k, h, hk => by
    unfold readings_l2
    rw [idx_eq ha hTa]
    by_cases c : k < B.length
    · have fl := flat_len (g := fun j : Nat => gR H A B m x l (2, (j : Int))) (P := P) (List.range k) (fun j _ => hg _)
      rw [List.length_range] at fl
      have gl := hg (2, (k : Int))
      have hp : (k + 1) * P ≤ B.length * P := Nat.mul_le_mul_right _ (by omega)
      have hp2 : (k + 1) * P = k * P + P := by rw [Nat.add_mul, Nat.one_mul]
      rw [br_dec (by omega), lim_eq (by simp; omega), lim_eq (by simp; omega)]
      simp only [List.nil_append]
      rw [hs]
      simp only [Option.bind_some]
      rw [lim_eq (by rw [List.length_append]; omega), chk_eq (by omega)]
      have := readings_l2_p ha hTa hl hA hs hg ho hP n (k + 1) (by omega) (by omega)
      rw [show ((k + 1 : Nat) : Int) = (k : Int) + 1 by omega, List.range_succ, List.flatMap_append, ← List.append_assoc] at this
      simpa using this
    · have e : k = B.length := by omega
      rw [br_ndec (by omega), e]
theorem runF_at : ∀ (l : List (Int × Int)) (x y : At3), runF H A B l x = some y → x.2.1 ≤ A.length → x.2.2 ≤ B.length → y.1 = x.1 + l.length ∧ y.2.1 ≤ A.length ∧ y.2.2 ≤ B.length
  | [], x, y, h, h1, h2 => by simp only [runF, Option.some.injEq] at h; subst h; exact ⟨rfl, h1, h2⟩
  | q :: l, x, y, h, h1, h2 => by
    unfold runF at h
    cases hs : stepF A B (H.getD x.1 0) x q with
    | none => rw [hs] at h; cases h
    | some z =>
      rw [hs] at h
      obtain ⟨z1, z2, z3⟩ := stepF_at hs h1 h2
      obtain ⟨y1, y2, y3⟩ := runF_at l z y h z2 z3
      exact ⟨by rw [List.length_cons]; omega, y2, y3⟩
theorem readings_R_p {a b : Int} {M : Nat} (hN : 20 ≤ N) (ha : 0 ≤ a) (hb : 0 ≤ b) (hTa : T[a.toNat]? = some A) (hTb : T[b.toNat]? = some B) (hA : A.length ≤ 6) (hB : B.length ≤ 6) (hH : H.length ≤ 10) (hM : 1 + A.length + B.length ≤ M) (hP : M ^ H.length ≤ 1000000) : ∀ (n m : Nat) (l : List (Int × Int)), H.length = l.length + m → m < n →
    readings_R N n T H f a b l = some (match runF H A B l (0, 0, 0) with | none => [] | some x => (rdx H A B m x).map fun r => l ++ r)
  | 0, m, l, _, h => by omega
  | n + 1, m, l, hl, h => by
    show readings_S N (readings_R N n) T H f a b l = _
    unfold readings_S
    rw [fits_v ha hb hTa hTb (by omega) (by omega) (by omega) (by omega) (by omega), fitL_run]
    simp only [Option.bind_some]
    cases hr : runF H A B l (0, 0, 0) with
    | none => rfl
    | some x =>
      obtain ⟨x1, x2, x3⟩ := runF_at l _ x hr (Nat.zero_le _) (Nat.zero_le _)
      dsimp only at x1
      simp only [Option.isSome_some, Bool.not_true, br_false]
      cases m with
      | zero =>
        rw [br_dec (by omega)]
        simp [rdx]
      | succ m =>
        have hs : ∀ q, readings_R N n T H f a b (l ++ [q]) = some (gR H A B m x l q) := by
          intro q
          rw [readings_R_p hN ha hb hTa hTb hA hB hH hM hP n m (l ++ [q]) (by simp; omega) (by omega), runF_app, hr]
          simp only [Option.bind_some]
          unfold runF gR
          cases stepF A B (H.getD x.1 0) x q with
          | none => rfl
          | some y => rfl
        have hg := fun q => gR_len (H := H) (n := m) hM x l q
        have p1 : M ^ (m + 1) ≤ M ^ H.length := Nat.pow_le_pow_right (by omega) (by omega)
        have p2 : (1 + A.length + B.length) * M ^ m ≤ M * M ^ m := Nat.mul_le_mul_right _ hM
        rw [Nat.pow_succ, Nat.mul_comm (M ^ m) M] at p1
        have p3 : (1 + A.length + B.length) * M ^ m = (1 + A.length) * M ^ m + B.length * M ^ m := Nat.add_mul _ _ _
        rw [br_ndec (by omega), lim_eq (by simp; omega), lim_eq (by simp; omega)]
        simp only [List.nil_append]
        rw [hs]
        simp only [Option.bind_some]
        have e1 := readings_l1_p (N := N) (f := f) (x := x) ha hTa (by omega) (by omega) hs hg (o := gR H A B m x l (3, 0)) (hg _) (by omega) N 0 (by omega) (by omega)
        simp only [List.range_zero, List.flatMap_nil, List.append_nil, show ((0 : Nat) : Int) = 0 from rfl] at e1
        rw [e1]
        simp only [Option.bind_some]
        have fl := flat_len (g := fun j : Nat => gR H A B m x l (1, (j : Int))) (P := M ^ m) (List.range A.length) (fun j _ => hg _)
        rw [List.length_range] at fl
        have e2 := readings_l2_p (N := N) (f := f) (x := x) (Q := (1 + A.length) * M ^ m) hb hTb (by omega) (by omega) hs hg (o := gR H A B m x l (3, 0) ++ (List.range A.length).flatMap fun (j : Nat) => gR H A B m x l (1, (j : Int))) (by rw [List.length_append, Nat.add_mul, Nat.one_mul]; have := hg (3, 0); omega) (by omega) N 0 (by omega) (by omega)
        simp only [List.range_zero, List.flatMap_nil, List.append_nil, show ((0 : Nat) : Int) = 0 from rfl] at e2
        rw [e2]
        simp only [Option.bind_some]
        rw [gR_all x2 x3]
/-! ### The best of them -/
theorem countP_zero {α : Type} {p : α → Bool} : ∀ {l : List α}, (∀ x ∈ l, p x = false) → l.countP p = 0
  | [], _ => rfl
  | a :: l, h => by
    rw [List.countP_cons, countP_zero (fun x hx => h x (by simp [hx])), h a (by simp)]; rfl
/-- So many words are told in the best of these, and there are so many best ones. -/
def BestOf (C : List (List (Int × Int))) (v : Int × Int) : Prop := (∀ r ∈ C, toldN r ≤ v.1) ∧ v.2 = (C.countP fun r => decide (toldN r = v.1) : Nat)
theorem BestOf.add {h n : Nat} {t : At3 → Int × Int} {m : Mv} {C D : List (List (Int × Int))} {best : Int × Int} (hb : BestOf C best) (hd : BestOf D (t m.2)) (h0 : 0 ≤ (t m.2).1) : BestOf (C ++ D.map fun r => m.1 :: r) (stepT mayA h t best m) := by
  have st : stepT mayA h t best m = (if best.1 < wT m.1.1 (t m.2).1 then (wT m.1.1 (t m.2).1, (t m.2).2) else if wT m.1.1 (t m.2).1 = best.1 then (best.1, best.2 + (t m.2).2) else best) := by
    unfold stepT; exact if_pos rfl
  have hw : wT m.1.1 (t m.2).1 = (if m.1.1 = 3 then 0 else 1) + (t m.2).1 := by
    unfold wT
    by_cases c : m.1.1 = 3
    · rw [if_neg (fun h => h.2 c), if_pos c]; omega
    · rw [if_pos ⟨h0, c⟩, if_neg c]; omega
  obtain ⟨b1, b2⟩ := hb
  obtain ⟨d1, d2⟩ := hd
  have tn : ∀ r, toldN (m.1 :: r) = (if m.1.1 = 3 then 0 else 1) + toldN r := fun r => rfl
  rw [st]
  generalize wT m.1.1 (t m.2).1 = W at *
  generalize (if m.1.1 = 3 then (0 : Int) else 1) = e at *
  have c1 : ∀ v : Int, ((D.map fun r => m.1 :: r).countP fun r => decide (toldN r = v)) = D.countP fun r => decide (toldN r = v - e) := by
    intro v
    rw [List.countP_map]
    congr 1
    funext r
    simp only [Function.comp]
    rw [tn]
    apply decide_eq_decide.2
    omega
  have le : ∀ r ∈ D.map (fun r => m.1 :: r), toldN r ≤ W := by
    intro r hr
    obtain ⟨r', hr', rfl⟩ := List.mem_map.1 hr
    rw [tn]; have := d1 r' hr'; omega
  by_cases k1 : best.1 < W
  · rw [if_pos k1]
    refine ⟨fun r hr => ?_, ?_⟩
    · rcases List.mem_append.1 hr with hr | hr
      · have := b1 r hr; dsimp only; omega
      · exact le r hr
    · dsimp only
      rw [List.countP_append, c1, show W - e = (t m.2).1 by omega, countP_zero (l := C) (fun r hr => by have := b1 r hr; simp; omega), d2]
      simp
  · rw [if_neg k1]
    by_cases k2 : W = best.1
    · rw [if_pos k2]
      refine ⟨fun r hr => ?_, ?_⟩
      · rcases List.mem_append.1 hr with hr | hr
        · exact b1 r hr
        · have := le r hr; dsimp only; omega
      · dsimp only
        rw [List.countP_append, c1, show best.1 - e = (t m.2).1 by omega, b2, d2]
        omega
    · rw [if_neg k2]
      refine ⟨fun r hr => ?_, ?_⟩
      · rcases List.mem_append.1 hr with hr | hr
        · exact b1 r hr
        · have := le r hr; omega
      · rw [List.countP_append, c1, countP_zero (l := D) (fun r hr => by have := d1 r hr; simp; omega), b2]
        simp
theorem BestOf.fold {h n : Nat} {t : At3 → Int × Int} (hd : ∀ y, y.1 = h + 1 → BestOf (rdx H A B n y) (t y) ∧ 0 ≤ (t y).1) : ∀ (ms : List Mv) (C : List (List (Int × Int))) (best : Int × Int), (∀ m ∈ ms, m.2.1 = h + 1) → BestOf C best → BestOf (C ++ ms.flatMap fun m => (rdx H A B n m.2).map fun r => m.1 :: r) (ms.foldl (stepT mayA h t) best)
  | [], C, best, _, hb => by simpa using hb
  | m :: ms, C, best, hm, hb => by
    rw [List.flatMap_cons, ← List.append_assoc, List.foldl_cons]
    obtain ⟨d1, d2⟩ := hd m.2 (hm m (by simp))
    exact BestOf.fold hd ms _ _ (fun m' h' => hm m' (by simp [h'])) (BestOf.add (n := n) hb d1 d2)
theorem rdx_best : ∀ (n : Nat) (x : At3), H.length = x.1 + n → BestOf (rdx H A B n x) (tvx mayA H A B n x)
  | 0, x, _ => ⟨fun r hr => by simp [rdx] at hr; subst hr; simp [tvx, toldN], by simp [rdx, tvx, toldN]⟩
  | n + 1, x, hx => by
    have := BestOf.fold (H := H) (A := A) (B := B) (h := x.1) (n := n) (t := tvx mayA H A B n) (fun y hy => ⟨rdx_best n y (by omega), tvx_nonneg H A B (h := y.1) (i := y.2.1) (k := y.2.2) (by omega)⟩) (movesL A B (H.getD x.1 0) x) [] (-1, 0) (fun m hm => by
      have h3 := mem_movesL.1 hm
      unfold stepF at h3
      split at h3
      · split at h3
        · simp only [Option.some.injEq] at h3; rw [← h3]
        · cases h3
      · split at h3
        · split at h3
          · simp only [Option.some.injEq] at h3; rw [← h3]
          · cases h3
        · split at h3
          · simp only [Option.some.injEq] at h3; rw [← h3]
          · cases h3) ⟨(fun r hr => by cases hr), rfl⟩
    exact this
theorem rdx_has : ∀ (n : Nat) (x : At3), H.length = x.1 + n → ∃ r ∈ rdx H A B n x, toldN r = (tvx mayA H A B n x).1
  | 0, x, _ => ⟨[], by simp [rdx], by simp [toldN, tvx]⟩
  | n + 1, x, hx => by
    have nn := tvx_nonneg H A B (h := x.1) (i := x.2.1) (k := x.2.2) hx
    rw [show ((x.1, x.2.1, x.2.2) : At3) = x from rfl, tvx] at nn
    rw [tvx]
    rcases fold_has (h := x.1) (t := tvx mayA H A B n) (movesL A B (H.getD x.1 0) x) (-1, 0) with h1 | ⟨m, hm, h1⟩
    · rw [h1] at nn; exact absurd nn (by decide)
    · have hy : m.2.1 = x.1 + 1 := by
        simp only [movesL, List.mem_cons, List.mem_append, List.mem_map] at hm
        rcases hm with rfl | ⟨j, _, rfl⟩ | ⟨j, _, rfl⟩ <;> rfl
      obtain ⟨r, hr, e⟩ := rdx_has n m.2 (by omega)
      have h0 := tvx_nonneg H A B (h := m.2.1) (i := m.2.2.1) (k := m.2.2.2) (n := n) (by omega)
      refine ⟨m.1 :: r, List.mem_flatMap.2 ⟨m, hm, List.mem_map.2 ⟨r, hr, rfl⟩⟩, ?_⟩
      rw [h1]
      unfold toldN wT
      by_cases c : m.1.1 = 3
      · rw [if_pos c, if_neg (fun h => h.2 c)]; rw [e]; omega
      · rw [if_neg c, if_pos ⟨h0, c⟩]; rw [e]; omega
theorem rdx_length : ∀ (n : Nat) (x : At3), ∀ r ∈ rdx H A B n x, r.length = n
  | 0, x, r, hr => by simp [rdx] at hr; subst hr; rfl
  | n + 1, x, r, hr => by
    obtain ⟨m, _, h⟩ := List.mem_flatMap.1 hr
    obtain ⟨r', hr', rfl⟩ := List.mem_map.1 h
    rw [List.length_cons, rdx_length n m.2 r' hr']
/-- All readings. -/
def rdAll (H A B : List Int) : List (List (Int × Int)) := rdx H A B H.length (0, 0, 0)
theorem rdAll_le : ∀ r ∈ rdAll H A B, toldN r ≤ (tv mayA H A B (0, 0, 0)).1 := (rdx_best (H := H) (A := A) (B := B) H.length (0, 0, 0) (by simp)).1
theorem rdAll_count : (tv mayA H A B (0, 0, 0)).2 = ((rdAll H A B).countP fun r => decide (toldN r = (tv mayA H A B (0, 0, 0)).1) : Nat) := (rdx_best (H := H) (A := A) (B := B) H.length (0, 0, 0) (by simp)).2
theorem rdAll_has : ∃ r ∈ rdAll H A B, toldN r = (tv mayA H A B (0, 0, 0)).1 := rdx_has (H := H) (A := A) (B := B) H.length (0, 0, 0) (by simp)
/-- Words of both texts, and those that were heard, less those that are told, twice. -/
def fltV (H A B : List Int) (r : List (Int × Int)) : Int := (A.length : Int) + B.length + H.length - 2 * toldN r
theorem best_l1_p {a b : Int} (ha : 0 ≤ a) (hb : 0 ≤ b) (hTa : T[a.toNat]? = some A) (hTb : T[b.toNat]? = some B) (hA : A.length ≤ 6) (hB : B.length ≤ 6) (hH : H.length ≤ 10) (hN : 20 ≤ N) {R : List (List (Int × Int))} (hR : ∀ r ∈ R, r.length = H.length) (hRl : R.length ≤ 1000000) : ∀ (n k : Nat) (least : Int), R.length < n + k → k ≤ R.length →
    ∃ v, best_l1 N n least k T H f a b R = some (v, T, H, f, a, b, R) ∧ v ≤ least ∧ (∀ r ∈ R.drop k, v ≤ fltV H A B r) ∧ (v = least ∨ ∃ r ∈ R.drop k, v = fltV H A B r)
  | 0, k, least, h, _ => by omega
  | n + 1, k, least, h, hk => by
    unfold best_l1
    by_cases c : k < R.length
    · have hd : R.drop k = R.getD k [] :: R.drop (k + 1) := by
        rw [List.drop_eq_getElem_cons c]; simp [List.getD, c]
      have hk' : R[((k : Nat) : Int).toNat]? = some (R.getD k []) := by simp [List.getD, c]
      have hl := hR (R.getD k []) (getD_mem c)
      generalize R.getD k [] = r at *
      rw [br_dec (by omega), rng_eq (by omega), get_eq hk', faulty_v ha hb hTa hTb (by omega) (by omega) (by omega) (by omega)]
      simp only [Option.bind_some]
      rw [chk_eq (by omega), hl]
      have ev : (A.length : Int) + B.length + H.length - 2 * toldN r = fltV H A B r := rfl
      rw [ev]
      obtain ⟨v, e, h1, h2, h3⟩ := best_l1_p ha hb hTa hTb hA hB hH hN hR hRl n (k + 1) (min least (fltV H A B r)) (by omega) (by omega)
      rw [show ((k + 1 : Nat) : Int) = (k : Int) + 1 by omega] at e
      refine ⟨v, e, by omega, ?_, ?_⟩
      · intro r' hr'
        rw [hd] at hr'
        rcases List.mem_cons.1 hr' with rfl | hr'
        · omega
        · exact h2 r' hr'
      · rw [hd]
        rcases h3 with h3 | ⟨r', hr', h3⟩
        · rcases Int.le_total least (fltV H A B r) with h4 | h4
          · exact .inl (by omega)
          · exact .inr ⟨r, by simp, by omega⟩
        · exact .inr ⟨r', by simp [hr'], h3⟩
    · rw [br_ndec (by omega)]
      refine ⟨least, rfl, Int.le_refl _, ?_, .inl rfl⟩
      intro r hr
      rw [List.drop_of_length_le (by omega)] at hr; cases hr
theorem best_l2_p {a b least : Int} (ha : 0 ≤ a) (hb : 0 ≤ b) (hTa : T[a.toNat]? = some A) (hTb : T[b.toNat]? = some B) (hA : A.length ≤ 6) (hB : B.length ≤ 6) (hH : H.length ≤ 10) (hN : 20 ≤ N) {R : List (List (Int × Int))} (hR : ∀ r ∈ R, r.length = H.length) (hRl : R.length ≤ 1000000) : ∀ (n k : Nat), R.length < n + k → k ≤ R.length →
    best_l2 N n least k T H f a b R ((R.take k).filter fun r => decide (fltV H A B r = least)) = some (least, R.filter fun r => decide (fltV H A B r = least))
  | 0, k, h, _ => by omega
  | n + 1, k, h, hk => by
    unfold best_l2
    by_cases c : k < R.length
    · have hd : R.take (k + 1) = R.take k ++ [R.getD k []] := by rw [List.take_add_one]; simp [List.getD, c]
      have hk' : R[((k : Nat) : Int).toNat]? = some (R.getD k []) := by simp [List.getD, c]
      have hl := hR (R.getD k []) (getD_mem c)
      have next := best_l2_p (least := least) ha hb hTa hTb hA hB hH hN hR hRl n (k + 1) (by omega) (by omega)
      have fl := List.length_filter_le (fun r => decide (fltV H A B r = least)) (R.take k)
      rw [List.length_take] at fl
      rw [hd, List.filter_append, show ((k + 1 : Nat) : Int) = (k : Int) + 1 by omega] at next
      generalize R.getD k [] = r at *
      rw [br_dec (by omega), rng_eq (by omega), get_eq hk', faulty_v ha hb hTa hTb (by omega) (by omega) (by omega) (by omega)]
      simp only [Option.bind_some]
      rw [hl]
      have ev : (A.length : Int) + B.length + H.length - 2 * toldN r = fltV H A B r := rfl
      rw [ev]
      by_cases d : fltV H A B r = least
      · rw [br_dec d, rng_eq (by omega), get_eq hk', lim_eq (by rw [List.length_singleton]; omega)]
        unfold best_j1
        rw [chk_eq (by omega)]
        simpa [d] using next
      · rw [br_ndec d]
        unfold best_j1
        rw [chk_eq (by omega)]
        simpa [d] using next
    · rw [br_ndec (by omega), List.take_of_length_le (by omega)]
theorem best_v {a b : Int} {M : Nat} (hN : 20 ≤ N) (ha : 0 ≤ a) (hb : 0 ≤ b) (hTa : T[a.toNat]? = some A) (hTb : T[b.toNat]? = some B) (hA : A.length ≤ 6) (hB : B.length ≤ 6) (hH : H.length ≤ 10) (hM : 1 + A.length + B.length ≤ M) (hP : M ^ H.length ≤ 1000000) (hPN : M ^ H.length < N) :
    best_S N T H f a b = some ((rdAll H A B).filter fun r => decide (toldN r = (tv mayA H A B (0, 0, 0)).1), leastV H A B) := by
  unfold best_S
  have e := readings_R_p (N := N) (f := f) hN ha hb hTa hTb hA hB hH hM hP N H.length [] (by simp) (by omega)
  have e2 : readings_R N N T H f a b [] = some (rdAll H A B) := by
    rw [e]; simp [runF, rdAll]
  rw [e2]
  simp only [Option.bind_some]
  have rl := rdx_len (H := H) hM H.length (0, 0, 0)
  have hR : ∀ r ∈ rdAll H A B, r.length = H.length := rdx_length H.length (0, 0, 0)
  obtain ⟨v, e3, h1, h2, h3⟩ := best_l1_p (N := N) (f := f) ha hb hTa hTb hA hB hH hN hR (Nat.le_trans rl hP) N 0 99 (Nat.lt_of_le_of_lt rl (by omega)) (Nat.zero_le _)
  rw [show ((0 : Nat) : Int) = 0 from rfl] at e3
  rw [List.drop_zero] at h2 h3
  rw [e3]
  simp only [Option.bind_some]
  have e4 := best_l2_p (N := N) (f := f) (least := v) ha hb hTa hTb hA hB hH hN hR (Nat.le_trans rl hP) N 0 (Nat.lt_of_le_of_lt rl (by omega)) (Nat.zero_le _)
  rw [show ((0 : Nat) : Int) = 0 from rfl, List.take_zero, List.filter_nil] at e4
  rw [e4]
  simp only [Option.bind_some]
  obtain ⟨r0, hr0, er0⟩ := rdAll_has (H := H) (A := A) (B := B)
  have lv : leastV H A B = (A.length : Int) + B.length + H.length - 2 * (tv mayA H A B (0, 0, 0)).1 := rfl
  have tb := tv_bnd mayA (H := H) hA hB
  have hv : v = leastV H A B := by
    have a1 := h2 r0 hr0
    unfold fltV at a1
    rcases h3 with h3 | ⟨r, hr, h3⟩
    · have t0 := tvx_nonneg H A B (n := H.length) (h := 0) (i := 0) (k := 0) (by omega)
      have : (tvx mayA H A B H.length (0, 0, 0)).1 = (tv mayA H A B (0, 0, 0)).1 := rfl
      omega
    · have := rdAll_le (H := H) (A := A) (B := B) r hr
      unfold fltV at h3
      omega
  congr 1
  rw [hv]
  congr 1
  apply List.filter_congr
  intro r _
  apply decide_eq_decide.2
  unfold fltV
  omega
end
end Go.Proofs.Ytfcnhnbnjdccfaa

namespace Go.Proofs.Ytfcnhnbnjdccfaa
set_option linter.all false
open Go

section
variable {N : Nat} {T : List (List Int)} {H : List Int} {f : Int}
theorem wide_l1_p {words : Int} (hT : T.length ≤ 1000) : ∀ (n k : Nat), T.length < n + k → k ≤ T.length → ∃ r, wide_l1 N n words T (T.length : Int) k = some r ∧ ((∃ u, r = .inr u) → ∀ x ∈ T.drop k, (x.length : Int) ≤ words ∨ 6 < x.length)
  | 0, k, h, _ => by omega
  | n + 1, k, h, hk => by
    unfold wide_l1
    by_cases c : k < T.length
    · have hd : T.drop k = T.getD k [] :: T.drop (k + 1) := by
        rw [List.drop_eq_getElem_cons c]; simp [List.getD, c]
      have hk' : T[((k : Nat) : Int).toNat]? = some (T.getD k []) := by simp [List.getD, c]
      generalize T.getD k [] = y at *
      rw [br_dec (by omega), idx_eq (by omega) hk']
      obtain ⟨r, e, hr⟩ := wide_l1_p (words := words) hT n (k + 1) (by omega) (by omega)
      rw [show ((k + 1 : Nat) : Int) = (k : Int) + 1 by omega] at e
      by_cases d : words < (y.length : Int)
      · rw [br_dec d]
        by_cases d2 : (y.length : Int) ≤ 6
        · rw [br_dec d2]; exact ⟨_, rfl, fun ⟨u, hu⟩ => by cases hu⟩
        · rw [br_ndec d2, chk_eq (by omega)]
          refine ⟨r, e, fun hu x hx => ?_⟩
          rw [hd] at hx
          rcases List.mem_cons.1 hx with rfl | hx
          · omega
          · exact hr hu x hx
      · rw [br_ndec d, chk_eq (by omega)]
        refine ⟨r, e, fun hu x hx => ?_⟩
        rw [hd] at hx
        rcases List.mem_cons.1 hx with rfl | hx
        · omega
        · exact hr hu x hx
    · rw [br_ndec (by omega)]
      refine ⟨_, rfl, fun _ x hx => ?_⟩
      rw [List.drop_of_length_le (by omega)] at hx; cases hx
theorem wide_v {heard words : Int} (hT : T.length ≤ 8) (hN : 20 ≤ N) : wide_S N T H f heard words = some true ∨ wide_S N T H f heard words = some false ∧ ((H.length : Int) ≤ heard ∨ 10 < H.length) ∧ ∀ x ∈ T, (x.length : Int) ≤ words ∨ 6 < x.length := by
  unfold wide_S
  obtain ⟨r, e, hr⟩ := wide_l1_p (N := N) (T := T) (words := words) (by omega) N 0 (by omega) (by omega)
  rw [show ((0 : Nat) : Int) = 0 from rfl] at e
  rw [e]
  by_cases c : heard < (H.length : Int)
  · rw [br_dec c]
    by_cases d : (H.length : Int) ≤ 10
    · rw [br_dec d]; exact .inl rfl
    · rw [br_ndec d]
      cases r with
      | inl _ => exact .inl rfl
      | inr u => exact .inr ⟨rfl, .inr (by omega), by simpa using hr ⟨u, rfl⟩⟩
  · rw [br_ndec c]
    cases r with
    | inl _ => exact .inl rfl
    | inr u => exact .inr ⟨rfl, .inl (by omega), by simpa using hr ⟨u, rfl⟩⟩
/-- An echo of which all readings are made. -/
structure Slim (T : List (List Int)) (H : List Int) (M N : Nat) : Prop where
  w : ∀ x ∈ T, ∀ y ∈ T, 1 + x.length + y.length ≤ M
  p : M ^ H.length ≤ 1000000
  n : M ^ H.length < N
theorem rbest_v {M : Nat} (hN : 20 ≤ N) (h : Fine T H f) (hs : Slim T H M N) {a b : Int} (ha : 0 ≤ a ∧ a < T.length) (hb : 0 ≤ b ∧ b < T.length) :
    best_S N T H f a b = some ((rdAll H (T.getD a.toNat []) (T.getD b.toNat [])).filter fun r => decide (toldN r = (tv mayA H (T.getD a.toNat []) (T.getD b.toNat []) (0, 0, 0)).1), leastV H (T.getD a.toNat []) (T.getD b.toNat [])) := by
  have m1 : T.getD a.toNat [] ∈ T := getD_mem (by omega)
  have m2 : T.getD b.toNat [] ∈ T := getD_mem (by omega)
  have hTa : T[a.toNat]? = some (T.getD a.toNat []) := by
    have : a.toNat < T.length := by omega
    simp [List.getD, this]
  have hTb : T[b.toNat]? = some (T.getD b.toNat []) := by
    have : b.toNat < T.length := by omega
    simp [List.getD, this]
  exact best_v hN ha.1 hb.1 hTa hTb (h.l _ m1).2 (h.l _ m2).2 h.h (hs.w _ m1 _ m2) hs.p hs.n
theorem rpairs_l2_p {M : Nat} (hN : 20 ≤ N) (h : Fine T H f) (hs : Slim T H M N) {a s : Nat} {O : List (Int × Int)} (ha : a < T.length) (hO : O.length ≤ 1000) : ∀ (n k : Nat), T.length < n + k → s ≤ k → k ≤ T.length →
    rpairs_l2 N n a k T H f (O ++ rowTo (pE T H f) a s k) = some ((a : Int), T, H, f, O ++ rowTo (pE T H f) a s T.length)
  | 0, k, h1, h2, h3 => by omega
  | n + 1, k, h1, h2, h3 => by
    unfold rpairs_l2
    have hT := h.n
    by_cases c : k < T.length
    · rw [br_dec (by omega), rbest_v hN h hs (by omega) (by omega)]
      simp only [Option.bind_some, Int.toNat_natCast]
      have rl := rowTo_len (pE T H f) a s k
      have next := rpairs_l2_p hN h hs (s := s) ha hO n (k + 1) (by omega) (by omega) (by omega)
      rw [show ((k + 1 : Nat) : Int) = (k : Int) + 1 by omega] at next
      by_cases d : leastV H (T.getD a []) (T.getD k []) ≤ f
      · rw [br_dec d, lim_eq (by simp; omega)]
        unfold rpairs_j1
        rw [chk_eq (by omega), List.append_assoc, ← rowTo_yes h2 (by simpa [pE] using d)]
        exact next
      · rw [br_ndec d]
        unfold rpairs_j1
        rw [chk_eq (by omega), ← rowTo_no (p := pE T H f) (a := a) h2 (by simpa [pE] using d)]
        exact next
    · have e : k = T.length := by omega
      rw [br_ndec (by omega), e]
theorem rpairs_l1_p {M : Nat} (hN : 20 ≤ N) (h : Fine T H f) (hs : Slim T H M N) : ∀ (n k : Nat), T.length < n + k → k ≤ T.length → rpairs_l1 N n k T H f (allTo (pE T H f) T.length 0 k) = some (allTo (pE T H f) T.length 0 T.length)
  | 0, k, h1, h2 => by omega
  | n + 1, k, h1, h2 => by
    unfold rpairs_l1
    have hT := h.n
    by_cases c : k < T.length
    · have al := allTo_len (pE T H f) T.length 0 k
      have : k * T.length ≤ 5 * 5 := Nat.mul_le_mul (by omega) (by omega)
      rw [br_dec (by omega)]
      have e := rpairs_l2_p (N := N) hN h hs (s := k) (O := allTo (pE T H f) T.length 0 k) c (by omega) N k (by omega) (by omega) (by omega)
      rw [rowTo_zero, List.append_nil] at e
      rw [e]
      simp only [Option.bind_some]
      rw [chk_eq (by omega)]
      have next := rpairs_l1_p hN h hs n (k + 1) (by omega) (by omega)
      rw [allTo_succ, Nat.add_zero, show ((k + 1 : Nat) : Int) = (k : Int) + 1 by omega] at next
      exact next
    · have e : k = T.length := by omega
      rw [br_ndec (by omega), e]
theorem rpairs_v {M : Nat} (hN : 20 ≤ N) (hm : Small T H) (h : Fine T H f) (hs : Slim T H M N) : rpairs_S N T H f = some (allTo (pE T H f) T.length 0 T.length, 0) := by
  unfold rpairs_S
  have hT := h.n
  rw [rcheck_v hN hm, h.check]
  simp only [Option.bind_some, decide_true, Bool.not_true, br_false]
  have := rpairs_l1_p (N := N) hN h hs N 0 (by omega) (by omega)
  rw [show allTo (pE T H f) T.length 0 0 = [] from rfl, show ((0 : Nat) : Int) = 0 from rfl] at this
  rw [this]; rfl
theorem rwith_l1_p {M : Nat} (hN : 20 ≤ N) (h : Fine T H f) (hs : Slim T H M N) {a : Nat} (ha : a < T.length) : ∀ (n k : Nat), T.length < n + k → k ≤ T.length → rwith_l1 N n a k T H f (withL T H f a k) = some (withL T H f a T.length)
  | 0, k, h1, h2 => by omega
  | n + 1, k, h1, h2 => by
    unfold rwith_l1
    have hT := h.n
    by_cases c : k < T.length
    · rw [br_dec (by omega), rbest_v hN h hs (by omega) (by omega)]
      simp only [Option.bind_some, Int.toNat_natCast]
      have next := rwith_l1_p hN h hs ha n (k + 1) (by omega) (by omega)
      rw [show ((k + 1 : Nat) : Int) = (k : Int) + 1 by omega, withL_succ] at next
      have wl := withL_len T H f a k
      by_cases d : leastV H (T.getD a []) (T.getD k []) ≤ f
      · rw [br_dec d, lim_eq (by simp; omega)]
        unfold rwith_j1
        rw [if_pos (by simpa [pE] using d)] at next
        rw [chk_eq (by omega)]
        exact next
      · rw [br_ndec d]
        unfold rwith_j1
        rw [if_neg (by simpa [pE] using d), List.append_nil] at next
        rw [chk_eq (by omega)]
        exact next
    · have e : k = T.length := by omega
      rw [br_ndec (by omega), e]
theorem rwith_v {M : Nat} (hN : 20 ≤ N) (hm : Small T H) (h : Fine T H f) (hs : Slim T H M N) (a : Int) : rwith_S N T H f a = some (if 0 ≤ a ∧ a < T.length then (withL T H f a.toNat T.length, 0) else ([], 1)) := by
  unfold rwith_S
  have hT := h.n
  rw [rtwo_v hN hm]
  unfold openE
  rw [if_neg (by simpa using h.check)]
  simp only [Option.bind_some]
  by_cases c : 0 ≤ a ∧ a < T.length
  · obtain ⟨k, rfl⟩ : ∃ k : Nat, a = k := ⟨a.toNat, by omega⟩
    rw [if_neg (by simp only [not_or, Decidable.not_not]; exact ⟨c, by omega⟩), if_pos c, br_nd rfl]
    have := rwith_l1_p (N := N) hN h hs (a := k) (by omega) N 0 (by omega) (by omega)
    rw [show withL T H f k 0 = [] from rfl, show ((0 : Nat) : Int) = 0 from rfl] at this
    rw [this]; rfl
  · rw [if_pos (.inl c), if_neg c]; rfl
theorem with_g (hN : 20 ≤ N) (h : Fine T H f) (a : Int) : with__S N T H f a = some (if 0 ≤ a ∧ a < T.length then (withL T H f a.toNat T.length, 0) else ([], 1)) := by
  by_cases c : 0 ≤ a ∧ a < T.length
  · rw [if_pos c]; exact with_v hN h c
  · rw [if_neg c]
    unfold with__S
    have hT := h.n
    rw [check_v hN, h.check]
    simp only [Option.bind_some, decide_true, Bool.not_true, br_false]
    rw [text_v N H f _ (by omega), decide_eq_false c]
    rfl
theorem rmusts_l2_p {t : Int} {l : List (Int × Int)} {out : List Int} (hl : l.length ≤ 1000) : ∀ (n k : Nat) (i : Bool), l.length < n + k → k ≤ l.length → rmusts_l2 N n l t i k T H f out = some (l, t, (i && (l.drop k).all (mustP t)), T, H, f, out)
  | 0, k, i, h, _ => by omega
  | n + 1, k, i, h, hk => by
    unfold rmusts_l2
    by_cases c : k < l.length
    · have hd : l.drop k = l.getD k (0, 0) :: l.drop (k + 1) := by
        rw [List.drop_eq_getElem_cons c]; simp [List.getD, c]
      have hk' : l[((k : Nat) : Int).toNat]? = some (l.getD k (0, 0)) := by simp [List.getD, c]
      generalize l.getD k (0, 0) = p at *
      have next := fun i => rmusts_l2_p (t := t) (out := out) hl n (k + 1) i (by omega) (by omega)
      rw [show ((k + 1 : Nat) : Int) = (k : Int) + 1 by omega] at next
      rw [br_dec (by omega), hd, List.all_cons]
      cases i with
      | false =>
        rw [br_false, chk_eq (by omega), next]; simp
      | true =>
        rw [br_true, idx_eq (by omega) hk']
        by_cases d : p.1 = t
        · rw [br_dec d, chk_eq (by omega), next]; simp [mustP, d]
        · rw [br_ndec d, idx_eq (by omega) hk', chk_eq (by omega), next]; simp [mustP, d]
    · rw [br_ndec (by omega), List.drop_of_length_le (by omega)]; simp
theorem rmusts_l1_p {P : List (Int × Int)} (hP : P.length ≤ 1000) (hN : P.length < N) (hT : T.length ≤ 1000) : ∀ (n k : Nat), T.length < n + k → k ≤ T.length → rmusts_l1 N n P k T H f (mustL P k) = some (mustL P T.length)
  | 0, k, h1, h2 => by omega
  | n + 1, k, h1, h2 => by
    unfold rmusts_l1
    by_cases c : k < T.length
    · have e := rmusts_l2_p (N := N) (T := T) (H := H) (f := f) (t := (k : Int)) (out := mustL P k) hP N 0 true (by omega) (by omega)
      rw [show ((0 : Nat) : Int) = 0 from rfl, List.drop_zero, Bool.true_and] at e
      rw [br_dec (by omega), e]
      simp only [Option.bind_some]
      have next := rmusts_l1_p hP hN hT n (k + 1) (by omega) (by omega)
      rw [show ((k + 1 : Nat) : Int) = (k : Int) + 1 by omega, mustL_succ] at next
      have wl := mustL_len P k
      by_cases d : P.all (mustP k) = true
      · rw [if_pos d] at next
        rw [d, br_true, lim_eq (by simp; omega)]
        unfold rmusts_j1
        rw [chk_eq (by omega)]
        exact next
      · rw [if_neg d, List.append_nil] at next
        rw [Bool.not_eq_true] at d
        rw [d, br_false]
        unfold rmusts_j1
        rw [chk_eq (by omega)]
        exact next
    · have e : k = T.length := by omega
      rw [br_ndec (by omega), e]
theorem rmusts_v {M : Nat} (hN : 30 ≤ N) (hm : Small T H) (h : Fine T H f) (hs : Slim T H M N) : rmusts_S N T H f = some (if allTo (pE T H f) T.length 0 T.length = [] then ([], 6) else (mustL (allTo (pE T H f) T.length 0 T.length) T.length, 0)) := by
  unfold rmusts_S
  have hT := h.n
  have al := allTo_len (pE T H f) T.length 0 T.length
  have : T.length * T.length ≤ 5 * 5 := Nat.mul_le_mul (by omega) (by omega)
  rw [rpairs_v (by omega) hm h hs]
  simp only [Option.bind_some, decide_true, Bool.not_true, br_false]
  by_cases c : allTo (pE T H f) T.length 0 T.length = []
  · rw [if_pos c, c]; rfl
  · have : (allTo (pE T H f) T.length 0 T.length).length ≠ 0 := fun h => c (List.eq_nil_of_length_eq_zero h)
    rw [if_neg c, br_ndec (by omega)]
    have := rmusts_l1_p (N := N) (T := T) (H := H) (f := f) (P := allTo (pE T H f) T.length 0 T.length) (by omega) (by omega) (by omega) N 0 (by omega) (by omega)
    rw [show mustL (allTo (pE T H f) T.length 0 T.length) 0 = [] from rfl, show ((0 : Nat) : Int) = 0 from rfl] at this
    rw [this]; rfl
theorem rclosest_l2_p {M : Nat} (hN : 20 ≤ N) (h : Fine T H f) (hs : Slim T H M N) {a s : Nat} {g g2 : Int} {O : List (Int × Int)} {z : (Int × Int) × Int} (ha : a < T.length) : ∀ (n k : Nat), T.length < n + k → s ≤ k → k ≤ T.length →
    rclosest_l2 N n ((O ++ rowTo tt2 a s k).foldl (clS (vP T H)) z).2 a k T H f g g2 ((O ++ rowTo tt2 a s k).foldl (clS (vP T H)) z).1.1 ((O ++ rowTo tt2 a s k).foldl (clS (vP T H)) z).1.2
     = some (((O ++ rowTo tt2 a s T.length).foldl (clS (vP T H)) z).2, (a : Int), T, H, f, g, g2, ((O ++ rowTo tt2 a s T.length).foldl (clS (vP T H)) z).1.1, ((O ++ rowTo tt2 a s T.length).foldl (clS (vP T H)) z).1.2)
  | 0, k, h1, h2, h3 => by omega
  | n + 1, k, h1, h2, h3 => by
    unfold rclosest_l2
    have hT := h.n
    by_cases c : k < T.length
    · rw [br_dec (by omega), rbest_v hN h hs (by omega) (by omega)]
      simp only [Option.bind_some, Int.toNat_natCast]
      have next := rclosest_l2_p hN h hs (s := s) (g := g) (g2 := g2) (O := O) (z := z) ha n (k + 1) (by omega) (by omega) (by omega)
      rw [show ((k + 1 : Nat) : Int) = (k : Int) + 1 by omega, rowTo_yes h2 (show tt2 a k = true from rfl), ← List.append_assoc, List.foldl_append (l := O ++ rowTo tt2 a s k)] at next
      generalize (O ++ rowTo tt2 a s k).foldl (clS (vP T H)) z = S at next ⊢
      rw [List.foldl_cons, List.foldl_nil] at next
      have ev : leastV H (T.getD a []) (T.getD k []) = vP T H ((a : Int), (k : Int)) := by simp [vP]
      rw [ev]
      unfold clS at next
      by_cases d : vP T H ((a : Int), (k : Int)) < S.2
      · rw [br_dec d]
        rw [if_pos d] at next
        unfold rclosest_j1
        rw [chk_eq (by omega)]
        exact next
      · rw [br_ndec d]
        rw [if_neg d] at next
        unfold rclosest_j1
        rw [chk_eq (by omega)]
        exact next
    · have e : k = T.length := by omega
      rw [br_ndec (by omega), e]
theorem rclosest_l1_p {M : Nat} (hN : 20 ≤ N) (h : Fine T H f) (hs : Slim T H M N) {g g2 : Int} {z : (Int × Int) × Int} : ∀ (n k : Nat), T.length < n + k → k ≤ T.length →
    rclosest_l1 N n ((allTo tt2 T.length 0 k).foldl (clS (vP T H)) z).2 k T H f g g2 ((allTo tt2 T.length 0 k).foldl (clS (vP T H)) z).1.1 ((allTo tt2 T.length 0 k).foldl (clS (vP T H)) z).1.2
     = some (((prs T.length).foldl (clS (vP T H)) z).2, g, g2, ((prs T.length).foldl (clS (vP T H)) z).1.1, ((prs T.length).foldl (clS (vP T H)) z).1.2)
  | 0, k, h1, h2 => by omega
  | n + 1, k, h1, h2 => by
    unfold rclosest_l1
    have hT := h.n
    by_cases c : k < T.length
    · rw [br_dec (by omega)]
      have e := rclosest_l2_p (N := N) hN h hs (s := k) (g := g) (g2 := g2) (O := allTo tt2 T.length 0 k) (z := z) c N k (by omega) (by omega) (by omega)
      rw [rowTo_zero, List.append_nil] at e
      rw [e]
      simp only [Option.bind_some]
      rw [chk_eq (by omega)]
      have next := rclosest_l1_p hN h hs (g := g) (g2 := g2) (z := z) n (k + 1) (by omega) (by omega)
      rw [allTo_succ, Nat.add_zero, show ((k + 1 : Nat) : Int) = (k : Int) + 1 by omega] at next
      exact next
    · have e : k = T.length := by omega
      rw [br_ndec (by omega), e]; rfl
theorem rclosest_v {M : Nat} (hN : 20 ≤ N) (hm : Small T H) (h : Fine T H f) (hs : Slim T H M N) : rclosest_S N T H f = some ((clV T H).1.1, (clV T H).1.2, (clV T H).2, 0) := by
  unfold rclosest_S
  have hT := h.n
  rw [rcheck_v hN hm, h.check]
  simp only [Option.bind_some, decide_true, Bool.not_true, br_false]
  have := rclosest_l1_p (N := N) hN h hs (g := 0) (g2 := 0) (z := ((0, 0), 99)) N 0 (by omega) (by omega)
  rw [show allTo tt2 T.length 0 0 = [] from rfl] at this
  simp only [List.foldl_nil] at this
  rw [show ((0 : Nat) : Int) = 0 from rfl] at this
  rw [this]
  simp only [Option.bind_some]
  have e : (prs T.length).foldl (clS (vP T H)) ((0, 0), 99) = clV T H := by
    obtain ⟨l, hl⟩ := prs_cons hT.1
    unfold clV
    rw [hl, List.foldl_cons, List.foldl_cons]
    have l0 := h.l (T.getD 0 []) (getD_mem (by omega))
    have tb := tv_bnd mayA (H := H) l0.2 l0.2
    have v0 : vP T H (0, 0) = ((T.getD 0 []).length : Int) + (T.getD 0 []).length + H.length - 2 * (tv mayA H (T.getD 0 []) (T.getD 0 []) (0, 0, 0)).1 := rfl
    have hH := h.h
    unfold clS
    rw [if_pos (by dsimp only; omega), if_neg (by dsimp only; omega)]
  rw [e]
theorem epairsl_l1_p {W : List (Int × Int)} {text f2 f3 : Int} {T2 T3 : List (List Int)} {H2 H3 : List Int} (hW : W.length ≤ 1000) : ∀ (n k : Nat), W.length < n + k → k ≤ W.length → epairsl_l1 N n text W W (W.length : Int) k T H f T2 H2 f2 T3 H3 f3 = some (.inr (text, T, H, f, T2, H2, f2, T3, H3, f3))
  | 0, k, h, _ => by omega
  | n + 1, k, h, hk => by
    unfold epairsl_l1
    by_cases c : k < W.length
    · rw [br_dec (by omega), idx_get (0, 0) (by omega) (by omega), idx_get (0, 0) (by omega) (by omega)]
      simp only [decide_true, Bool.and_self, Bool.not_true, br_false]
      rw [chk_eq (by omega)]
      have := epairsl_l1_p (text := text) (f2 := f2) (f3 := f3) (T2 := T2) (T3 := T3) (H2 := H2) (H3 := H3) hW n (k + 1) (by omega) (by omega)
      rw [show ((k + 1 : Nat) : Int) = (k : Int) + 1 by omega] at this
      exact this
    · rw [br_ndec (by omega)]
theorem awake_2500 : awake_S 2500 = some true := by kernel_rfl
theorem epairsl_true {text : Int} (h0 : (Ty.pair (.sl (.sl (.int .i64))) (.pair (.sl (.int .i64)) (.int .i64))).inB (T, H, f)) (h1 : (Ty.int .i64).inB text) : epairsl_S 2500 T H f text = some true := by
  unfold epairsl_S
  rcases great_v (N := 2500) (by omega) T H f with e | ⟨e, hm⟩
  · rw [e]; simp only [Option.bind_some, br_true, awake_2500]
  · rw [e]
    simp only [Option.bind_some, br_false]
    have hmn := hm.n
    rcases wide_v (N := 2500) (T := T) (H := H) (f := f) (heard := 4) (words := 3) hm.n (by omega) with e | ⟨e, w1, w2⟩
    · rw [e]; simp only [Option.bind_some, br_true, awake_2500]
    · rw [e]
      simp only [Option.bind_some, br_false]
      rw [copye_small (by omega) hm]
      simp only [Option.bind_some]
      by_cases c : checkE T H f = 0
      · have hF := fine_of c
        have hs : Slim T H 7 2500 := by
          have hH := hF.h
          have hl : H.length ≤ 4 := by omega
          have hp : 7 ^ H.length ≤ 7 ^ 4 := Nat.pow_le_pow_right (by decide) hl
          refine ⟨fun x hx y hy => ?_, by omega, by omega⟩
          have a1 := w2 x hx; have a2 := hF.l x hx
          have b1 := w2 y hy; have b2 := hF.l y hy
          omega
        have al := allTo_len (pE T H f) T.length 0 T.length
        have hn := hF.n
        have hn2 : T.length * T.length ≤ 5 * 5 := Nat.mul_le_mul (by omega) (by omega)
        have e1 := epairsl_l1_p (N := 2500) (T := T) (H := H) (f := f) (W := allTo (pE T H f) T.length 0 T.length) (text := text) (f2 := f) (f3 := f) (T2 := T) (T3 := T) (H2 := H) (H3 := H) (by omega) 2500 0 (by omega) (by omega)
        rw [show ((0 : Nat) : Int) = 0 from rfl] at e1
        rw [pairs_v (by omega) hF, rpairs_v (by omega) hm hF hs]
        simp only [Option.bind_some, decide_true, Bool.not_true, br_false]
        rw [e1]
        simp only [Option.bind_some]
        rw [with_g (by omega) hF, rwith_v (by omega) hm hF hs]
        simp only [Option.bind_some, decide_true, Bool.not_true, br_false]
        have wl : (if 0 ≤ text ∧ text < (T.length : Int) then (withL T H f text.toNat T.length, (0 : Int)) else ([], 1)).1.length ≤ 5 := by
          split
          · have := withL_len T H f text.toNat T.length; dsimp only; omega
          · simp
        rw [likei_v (by omega) (by omega), musts_v (by omega) hF, rmusts_v (by omega) hm hF hs]
        simp only [Option.bind_some, decide_true, Bool.not_true, br_false]
        have ml : (if allTo (pE T H f) T.length 0 T.length = [] then (([] : List Int), (6 : Int)) else (mustL (allTo (pE T H f) T.length 0 T.length) T.length, 0)).1.length ≤ 5 := by
          split
          · simp
          · have := mustL_len (allTo (pE T H f) T.length 0 T.length) T.length; dsimp only; omega
        rw [likei_v (by omega) (by omega), closest_v (by omega) hF, rclosest_v (by omega) hm hF hs]
        simp only [Option.bind_some, decide_true, Bool.not_true, br_false, br_true, Bool.and_self]
        rw [same_v (by omega) hm, awake_2500]
        rfl
      · have e1 : pairs_S 2500 T H f = some ([], checkE T H f) := by
          unfold pairs_S
          rw [check_v (by omega)]
          simp only [Option.bind_some]
          rw [br_nnd c]
        have e2 : rpairs_S 2500 T H f = some ([], checkE T H f) := by
          unfold rpairs_S
          rw [rcheck_v (by omega) hm]
          simp only [Option.bind_some]
          rw [br_nnd c]
        have e3 : with__S 2500 T H f text = some ([], checkE T H f) := by
          unfold with__S
          rw [check_v (by omega)]
          simp only [Option.bind_some]
          rw [br_nnd c]
        have e4 : rwith_S 2500 T H f text = some ([], checkE T H f) := by
          unfold rwith_S
          rw [rtwo_v (by omega) hm]
          unfold openE
          rw [if_pos c]
          simp only [Option.bind_some]
          rw [br_nnd c]
        have e5 : musts_S 2500 T H f = some ([], checkE T H f) := by
          unfold musts_S
          rw [check_v (by omega)]
          simp only [Option.bind_some]
          rw [br_nnd c]
        have e6 : rmusts_S 2500 T H f = some ([], checkE T H f) := by
          unfold rmusts_S
          rw [e2]
          simp only [Option.bind_some]
          rw [br_nnd c]
        have e7 : closest_S 2500 T H f = some (0, 0, 0, checkE T H f) := by
          unfold closest_S
          rw [check_v (by omega)]
          simp only [Option.bind_some]
          rw [br_nnd c]
        have e8 : rclosest_S 2500 T H f = some (0, 0, 0, checkE T H f) := by
          unfold rclosest_S
          rw [rcheck_v (by omega) hm]
          simp only [Option.bind_some]
          rw [br_nnd c]
        have e9 := epairsl_l1_p (N := 2500) (T := T) (H := H) (f := f) (W := []) (text := text) (f2 := f) (f3 := f) (T2 := T) (T3 := T) (H2 := H) (H3 := H) (by simp) 2500 0 (by simp) (by simp)
        rw [show ((0 : Nat) : Int) = 0 from rfl] at e9
        rw [e1, e2]
        simp only [Option.bind_some, decide_true, Bool.not_true, br_false]
        rw [e9]
        simp only [Option.bind_some]
        rw [e3, e4]
        simp only [Option.bind_some, decide_true, Bool.not_true, br_false]
        rw [likei_v (s := []) (by simp) (by simp), e5, e6]
        simp only [Option.bind_some, decide_true, Bool.not_true, br_false]
        rw [likei_v (s := []) (by simp) (by simp), e7, e8]
        simp only [Option.bind_some, decide_true, Bool.not_true, br_false, br_true, Bool.and_self]
        rw [same_v (by omega) hm, awake_2500]
        rfl
end
end Go.Proofs.Ytfcnhnbnjdccfaa

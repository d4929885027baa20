/-
  Parts of a proof, put together: FDf, FAw, FL4.
  Conditions: none.
-/
import Derived.Test.YthncjilcflilcaaZd
import Derived.Test.YthncjilcflilcaaZf
import Derived.Test.YthncjilcflilcaaZg
namespace Go.Proofs.Ythncjilcflilcaa
set_option linter.all false
open Go

section
variable {W : List Int} {s : Int} {L F : List (List Int)} {R : List Int} {A B : Nat → Nat → Int} {N : Nat}
theorem lpair_l1_p (h : Fine W s L F R) {i k : Nat} (hi : i < L.length) (hk : k < F.length) : ∀ (n t : Nat), W.length < n + t → t ≤ W.length →
    lpair_l1 N n k (agP W (L.getD i []) (F.getD k []) t) (slP (L.getD i []) (F.getD k []) t) (L.getD i []) W.length t W s L F R = some (agF W L F i k, slF W L F i k, W, s, L, F, R)
  | 0, t, hn, ht => by omega
  | n + 1, t, hn, ht => by
    unfold lpair_l1
    have hw5 := h.w5
    have ha := h.lw _ (getD_mem (d := []) hi)
    have hb := h.fw _ (getD_mem (d := []) hk)
    by_cases c : t < W.length
    · have ih := lpair_l1_p h hi hk n (t + 1) (by omega) (by omega)
      rw [nat_succ] at ih
      have b1 := agP_bound h.w (L.getD i []) (F.getD k []) (t := t) (by omega)
      have b2 := slP_bound (L.getD i []) (F.getD k []) (t := t) (by omega)
      have b3 := getD_W h.w t
      have s1 : agP W (L.getD i []) (F.getD k []) (t + 1) = agP W (L.getD i []) (F.getD k []) t + agA W (L.getD i []) (F.getD k []) t := rfl
      have s2 : slP (L.getD i []) (F.getD k []) (t + 1) = slP (L.getD i []) (F.getD k []) t + slA (L.getD i []) (F.getD k []) t := rfl
      rw [s1, s2] at ih
      clear s1 s2
      have g1 : (L.getD i [])[((t : Nat) : Int).toNat]? = some ((L.getD i []).getD t 0) := gets (by omega) 0
      have g2 : (F.getD k [])[((t : Nat) : Int).toNat]? = some ((F.getD k []).getD t 0) := gets (by omega) 0
      rw [br_dec (by omega), idx_eq (by omega) g1, idx_eq (by omega) (gets hk []), idx_eq (by omega) g2]
      have hj : ∀ x y, lpair_j1 N (lpair_l1 N n) k x y (L.getD i []) W.length t W s L F R = lpair_l1 N n k x y (L.getD i []) W.length (↑t + 1) W s L F R := fun x y => by
        unfold lpair_j1
        rw [chk_eq (by omega)]
      simp only [hj]
      clear g1 g2
      unfold agA slA at ih
      generalize (L.getD i []).getD t 0 = x at *
      generalize (F.getD k []).getD t 0 = y at *
      generalize agP W (L.getD i []) (F.getD k []) t = p at *
      generalize slP (L.getD i []) (F.getD k []) t = q at *
      by_cases c1 : x = -1
      · rw [if_neg (by omega), if_neg (by omega), Int.add_zero, Int.add_zero] at ih
        rw [br_dec c1, ih]
      by_cases c2 : y = -1
      · rw [if_neg (by omega), if_neg (by omega), Int.add_zero, Int.add_zero] at ih
        rw [br_ndec c1, br_dec c2, ih]
      by_cases c3 : x = y
      · rw [if_pos ⟨c3, by omega⟩, if_neg (by omega), Int.add_zero] at ih
        rw [br_ndec c1, br_ndec c2, br_dec c3, idx_eq (by omega) (gets c 0), chk_eq (by omega), ih]
      · rw [if_neg (by omega), if_pos ⟨by omega, by omega, c3⟩, Int.add_zero] at ih
        rw [br_ndec c1, br_ndec c2, br_ndec c3, chk_eq (by omega), ih]
    · obtain rfl : t = W.length := by omega
      rw [br_ndec (by omega)]
      unfold agF slF
      rw [if_pos ⟨hi, hk⟩, if_pos ⟨hi, hk⟩]
theorem lpair_v (hN : 110 ≤ N) (h : Fine W s L F R) {i k : Nat} (hi : i < L.length) (hk : k < F.length) : lpair_S N W s L F R i k = some (agF W L F i k, canF W s L F i k) := by
  have e := lpair_l1_p (N := N) h hi hk N 0 (by have := h.w5; omega) (by omega)
  unfold lpair_S
  rw [show agP W (L.getD i []) (F.getD k []) 0 = 0 from rfl, show slP (L.getD i []) (F.getD k []) 0 = 0 from rfl, show ((0 : Nat) : Int) = 0 from rfl] at e
  rw [idx_eq (by omega) (gets hi []), h.lw _ (getD_mem hi), e]
  simp only [Option.bind_some]
  unfold canF canT
  by_cases c : 0 < agF W L F i k
  · rw [br_dec c, decide_eq_true c, Bool.true_and]
  · rw [br_ndec c, decide_eq_false c, Bool.false_and]
theorem valJ_snoc (t : Nat → Nat → Int) : ∀ (l : List Int) (i : Nat) (x : Int), valJ t i (l ++ [x]) = valJ t i l + pv t (i + l.length) x
  | [], i, x => by simp [valJ]
  | y :: l, i, x => by
    rw [List.cons_append, valJ, valJ, valJ_snoc t l (i + 1) x, List.length_cons, show i + 1 + l.length = i + (l.length + 1) by omega]; omega
theorem lworth_l1_p (hN : 110 ≤ N) (h : Fine W s L F R) {l : List Int} (hl : l.length ≤ 100) : ∀ (n k : Nat), l.length < n + k → k ≤ l.length → l.take k ∈ joinsL (canF W s L F) F.length (l.take k).length 0 0 →
    ∃ r, lworth_l1 N n l (valJ (agF W L F) 0 (l.take k)) l l.length k W s L F R = some r ∧ match r with
      | .inl _ => l ∉ joinsL (canF W s L F) F.length L.length 0 0
      | .inr (.inl _) => l ∉ joinsL (canF W s L F) F.length L.length 0 0
      | .inr (.inr z) => z = (l, valJ (agF W L F) 0 l, W, s, L, F, R) ∧ l ∈ joinsL (canF W s L F) F.length l.length 0 0
  | 0, k, hn, _, _ => by omega
  | n + 1, k, hn, hk, hp => by
    unfold lworth_l1
    have hl6 := h.l6; have hf6 := h.f6
    by_cases c : k < l.length
    rotate_left
    · rw [br_ndec (by omega)]
      rw [List.take_of_length_le (by omega)] at hp ⊢
      exact ⟨_, rfl, rfl, hp⟩
    have htk : (l.take k).length = k := by simp; omega
    have hb := valJ_bound (t := agF W L F) (agF_bound h) (by omega) (l.take k) 0
    rw [htk] at hb
    have hj : ∀ v : Int, v = valJ (agF W L F) 0 (l.take (k + 1)) → l.take (k + 1) ∈ joinsL (canF W s L F) F.length (l.take (k + 1)).length 0 0 → ∃ r, lworth_j1 N (lworth_l1 N n) l v l l.length k W s L F R = some r ∧ match r with
      | .inl _ => l ∉ joinsL (canF W s L F) F.length L.length 0 0
      | .inr (.inl _) => l ∉ joinsL (canF W s L F) F.length L.length 0 0
      | .inr (.inr z) => z = (l, valJ (agF W L F) 0 l, W, s, L, F, R) ∧ l ∈ joinsL (canF W s L F) F.length l.length 0 0 := fun v hv hp => by
      have ih := lworth_l1_p hN h hl n (k + 1) (by omega) (by omega) hp
      rw [nat_succ, ← hv] at ih
      unfold lworth_j1
      rw [chk_eq (by omega)]
      exact ih
    rw [take_succ' c 0, valJ_snoc, htk, Nat.zero_add] at hj
    have bad : (¬ (l.getD k 0 = -1 ∨ (0 ≤ l.getD k 0 ∧ l.getD k 0 < F.length ∧ k < L.length ∧ ¬ hasB (l.take k) (l.getD k 0) = true ∧ canF W s L F k (l.getD k 0).toNat = true))) → l ∉ joinsL (canF W s L F) F.length L.length 0 0 := fun hbad hm => by
      obtain ⟨m1, m2, _⟩ := mem_joins.1 hm
      refine hbad ?_
      rw [getD_01 c]
      rcases m2.ok k (by omega) with e | ⟨q, e, q1, q2⟩
      · exact .inl e
      · right
        rw [e, Int.toNat_natCast]
        refine ⟨by omega, by omega, by omega, ?_, q2⟩
        rw [hasB_iff]
        intro hin
        obtain ⟨j, hj, e2⟩ := List.getElem_of_mem hin
        have hjk : j < k := by simp at hj; omega
        have e3 : fnJ l j = q := by
          rw [← e2, ← getD_01 (show j < l.length by omega)]
          simp [List.getD, show j < l.length by omega]
        have := m2.inj j k (by omega) (by omega) (by omega) (by rw [e3, e])
        omega
    rw [br_dec (by omega), idx_eq (by omega) (gets c 0)]
    by_cases c1 : l.getD k 0 = -1
    · rw [br_dec c1]
      refine hj _ (by rw [c1, pv_none, Int.add_zero]) ?_
      exact mt_snoc hp (by omega) (by rw [c1]; rfl)
    rw [br_ndec c1]
    by_cases c2 : l.getD k 0 < 0
    · rw [br_dec c2]
      exact ⟨_, rfl, bad (by omega)⟩
    rw [br_ndec c2]
    by_cases c3 : (F.length : Int) ≤ l.getD k 0
    · rw [br_dec c3]
      exact ⟨_, rfl, bad (by omega)⟩
    rw [br_ndec c3]
    by_cases c4 : (L.length : Int) ≤ (k : Int)
    · rw [br_dec c4]
      exact ⟨_, rfl, bad (by omega)⟩
    rw [br_ndec c4, grd_eq (by rw [decide_eq_true_eq]; omega), Int.toNat_natCast, containsi_v (by omega) (by omega)]
    simp only [Option.bind_some]
    cases c5 : hasB (l.take k) (l.getD k 0)
    rotate_left
    · rw [br_true]
      exact ⟨_, rfl, bad (by rintro (e | ⟨_, _, _, e, _⟩); exact c1 e; exact e c5)⟩
    rw [br_false]
    obtain ⟨q, hq⟩ : ∃ q : Nat, l.getD k 0 = q := ⟨(l.getD k 0).toNat, by omega⟩
    have hlp := lpair_v hN h (i := k) (k := q) (by omega) (by omega)
    rw [← hq] at hlp
    rw [hlp]
    simp only [Option.bind_some]
    cases c6 : canF W s L F k q
    · rw [Bool.not_false, br_true]
      exact ⟨_, rfl, bad (by rintro (e | ⟨_, _, _, _, e⟩); exact c1 e; (rw [hq, Int.toNat_natCast, c6] at e; cases e))⟩
    rw [Bool.not_true, br_false]
    have hbk := agF_bound h k q
    rw [chk_eq (by omega)]
    refine hj _ (by rw [hq, pv_some]) ?_
    refine mt_snoc hp (by omega) ?_
    rw [htk, c5, hq, Int.toNat_natCast, c6]; simp
/-- The worth that the law tells. -/
theorem lworth_t (hN : 110 ≤ N) (h : Fine W s L F R) {l : List Int} (hl : l.length ≤ 100) : ∃ r, lworth_S N W s L F R l = some r ∧ (l ∈ joinsL (canF W s L F) F.length L.length 0 0 → r = (valJ (agF W L F) 0 l, true)) ∧ (r.2 = true → l ∈ joinsL (canF W s L F) F.length L.length 0 0) := by
  obtain ⟨r, r1, r2⟩ := lworth_l1_p hN h hl N 0 (by omega) (by omega) (by simp [joinsL])
  rw [List.take_zero, show valJ (agF W L F) 0 [] = 0 from rfl, show ((0 : Nat) : Int) = 0 from rfl] at r1
  unfold lworth_S
  rw [r1]
  simp only [Option.bind_some]
  rcases r with u | u | z
  · exact ⟨_, rfl, fun hm => absurd hm r2, fun h => by cases h⟩
  · exact ⟨_, rfl, fun hm => absurd hm r2, fun h => by cases h⟩
  · obtain ⟨rfl, z2⟩ := r2
    refine ⟨_, rfl, fun hm => ?_, fun hd => ?_⟩
    · rw [decide_eq_true (by rw [(joins_all hm).1])]
    · simp only [decide_eq_true_eq] at hd
      rw [show L.length = l.length by omega]; exact z2
theorem lworth_j (hN : 110 ≤ N) (h : Fine W s L F R) {l : List Int} (hm : l ∈ joinsL (canF W s L F) F.length L.length 0 0) : lworth_S N W s L F R l = some (valJ (agF W L F) 0 l, true) := by
  obtain ⟨r, r1, r2, _⟩ := lworth_t hN h (l := l) (by have := (joins_all hm).1; have := h.l6; omega)
  rw [r1, r2 hm]
/-! ### Joins that are tried -/
theorem rung_l1_p {b : List Int} {u : Nat} (hu : u ≤ 100) : ∀ (n k : Nat) (b2 b3 : Int) (out : List Int), u < n + k → k ≤ u → Bell b b2 → out.length = k → (∀ x ∈ out, 0 ≤ x ∧ x < u) →
    Ok (rung_l1 N n u k b b2 b3 out) fun z => BelR b z.1 z.2.1 ∧ z.2.2.2.length = u ∧ ∀ x ∈ z.2.2.2, 0 ≤ x ∧ x < u
  | 0, k, b2, b3, out, h, _, _, _, _ => by omega
  | n + 1, k, b2, b3, out, h, hk, hb, ho, hx => by
    unfold rung_l1
    refine Ok.brd (fun c => ?_) (fun c => Ok.some ⟨⟨rfl, hb⟩, by dsimp only; omega, hx⟩)
    refine Ok.bind (stroke_ok N hb (by omega)) ?_
    rintro ⟨y, c1, c2, c3⟩ ⟨hy, hc, hb1⟩
    dsimp only at hy hc hb1 ⊢
    obtain rfl := hc.symm
    have hl : (out ++ [(k : Int)]).length = k + 1 := by simp [ho]
    have hm : ∀ x ∈ out ++ [(k : Int)], 0 ≤ x ∧ x < u := fun x hm => by
      rcases List.mem_append.1 hm with hm | hm
      · exact hx x hm
      · simp at hm; omega
    refine Ok.lim (by simp; omega) (Ok.rng (by rw [hl]; omega) (Ok.get (by rw [hl]; simp) (fun a1 _ m1 => ?_)))
    refine Ok.rng (by rw [hl]; omega) (Ok.get (by rw [hl]; omega) (fun a2 _ m2 => ?_))
    refine Ok.rng (by rw [hl]; omega) (Ok.get (by rw [hl]; omega) (fun a3 _ _ => ?_))
    refine Ok.rng (by rw [List.length_set, hl]; omega) (Ok.get (by rw [List.length_set, hl]; simp) (fun a4 _ _ => ?_))
    refine Ok.chk (by omega) ?_
    have := rung_l1_p hu n (k + 1) c2 c3 (((out ++ [(k : Int)]).set y.toNat a1).set (k : Int).toNat a2) (by omega) (by omega) hb1 (by rw [List.length_set, List.length_set, hl]) (fun x hm2 => by
      rcases List.mem_or_eq_of_mem_set hm2 with hm2 | rfl
      · rcases List.mem_or_eq_of_mem_set hm2 with hm2 | rfl
        · exact hm x hm2
        · exact hm _ m1
      · exact hm _ m2)
    rw [nat_succ] at this
    exact this
theorem rung_ok (hN : 110 ≤ N) {b : List Int} {b2 b3 : Int} {u : Nat} (hu : u ≤ 100) (hb : Bell b b2) : Ok (rung_S N u b b2 b3) fun z => (z.1.length = u ∧ ∀ x ∈ z.1, 0 ≤ x ∧ x < u) ∧ BelR b z.2.1 z.2.2.1 := by
  have e := rung_l1_p (N := N) (b := b) hu N 0 b2 b3 [] (by omega) (by omega) hb rfl (fun x h => by cases h)
  rw [show ((0 : Nat) : Int) = 0 from rfl] at e
  unfold rung_S
  rw [show max 0 (u : Int) = u by omega]
  refine Ok.bind e ?_
  rintro ⟨z1, z2, z3, z4⟩ ⟨h1, h2, h3⟩
  exact Ok.some ⟨⟨h2, h3⟩, h1⟩
theorem tried_l1_p {b : List Int} {b2 b3 : Int} {m : Nat} (hm : m ≤ 100) : ∀ (n k : Nat), m < n + k → k ≤ m → tried_l1 N n m k b b2 b3 W s L F R (List.replicate k (-1) ++ List.replicate (m - k) 0) = some (b, b2, b3, W, s, L, F, R, List.replicate m (-1))
  | 0, k, h, _ => by omega
  | n + 1, k, h, hk => by
    unfold tried_l1
    by_cases c : k < m
    · have ih := tried_l1_p (b := b) (b2 := b2) (b3 := b3) hm n (k + 1) (by omega) (by omega)
      rw [nat_succ] at ih
      have hl : (List.replicate k (-1 : Int) ++ List.replicate (m - k) 0).length = m := by simp; omega
      rw [br_dec (by omega), rng_eq (by rw [hl]; omega)]
      simp only [Int.toNat_natCast]
      rw [get_get 0 (by rw [hl]; exact c), chk_eq (by omega), ← ih]
      congr 1
      rw [List.set_append_right _ _ (by simp), List.length_replicate, Nat.sub_self, show m - k = (m - (k + 1)) + 1 by omega, List.replicate_succ, List.set_cons_zero, List.replicate_succ']
      simp
    · obtain rfl : k = m := by omega
      rw [br_ndec (by omega), Nat.sub_self, List.replicate_zero, List.append_nil]
theorem tried_l3_p (hN : 110 ≤ N) (h : Fine W s L F R) {b u : List Int} {u2 u3 : Int} {i : Nat} (hi : i < L.length) {q out : List Int} (hq : q.length ≤ 100) (hqx : ∀ x ∈ q, 0 ≤ x ∧ x < F.length) (ho : out.length ≤ 100) : ∀ (n k : Nat) (b2 b3 : Int), q.length < n + k → k ≤ q.length → Bell b b2 →
    Ok (tried_l3 N n i u u2 u3 q q.length k b b2 b3 W s L F R out) fun z => match z with
      | .inl z => ∃ (y : Nat) (b2' b3' : Int), z = ((i : Int), (y : Int), u, u2, u3, b, b2', b3', W, s, L, F, R, out) ∧ Bell b b2' ∧ y < F.length ∧ canF W s L F i y = true ∧ (y : Int) ∉ out
      | .inr z => ∃ (b2' b3' : Int), z = (u, u2, u3, b, b2', b3', W, s, L, F, R, out) ∧ Bell b b2'
  | 0, k, b2, b3, hn, _, _ => by omega
  | n + 1, k, b2, b3, hn, hk, hb => by
    unfold tried_l3
    have hl6 := h.l6; have hf6 := h.f6
    refine Ok.brd (fun c => ?_) (fun c => Ok.some ⟨b2, b3, rfl, hb⟩)
    refine Ok.idx (by omega) c (fun x _ hx => ?_)
    obtain ⟨y, rfl⟩ : ∃ y : Nat, x = y := ⟨x.toNat, (Int.toNat_of_nonneg (hqx x hx).1).symm⟩
    have hy := (hqx _ hx).2
    have next : ∀ b2 b3 : Int, Bell b b2 → Ok (tried_l3 N n i u u2 u3 q q.length ((k : Int) + 1) b b2 b3 W s L F R out) fun z => match z with
      | .inl z => ∃ (y : Nat) (b2' b3' : Int), z = ((i : Int), (y : Int), u, u2, u3, b, b2', b3', W, s, L, F, R, out) ∧ Bell b b2' ∧ y < F.length ∧ canF W s L F i y = true ∧ (y : Int) ∉ out
      | .inr z => ∃ (b2' b3' : Int), z = (u, u2, u3, b, b2', b3', W, s, L, F, R, out) ∧ Bell b b2' := fun b2 b3 hb => by
      have := tried_l3_p hN h (u := u) (u2 := u2) (u3 := u3) hi hq hqx ho n (k + 1) b2 b3 (by omega) (by omega) hb
      rw [nat_succ] at this
      exact this
    refine Ok.eqb (lpair_v hN h hi (by omega)) (Ok.br (fun c1 => ?_) (fun c1 => Ok.chk (by omega) (next b2 b3 hb)))
    refine Ok.eqb (containsi_v (by omega) (by omega) _) ?_
    cases c2 : hasB out (y : Int)
    rotate_left
    · exact Ok.chk (by omega) (next b2 b3 hb)
    refine Ok.bind (seldom_ok N hb (by omega)) ?_
    rintro ⟨x, d1, d2, d3⟩ ⟨hc, hb1⟩
    dsimp only at hc hb1 ⊢
    obtain rfl := hc.symm
    cases x
    · refine Ok.some ⟨y, d2, d3, rfl, hb1, by omega, c1, fun hm => ?_⟩
      rw [hasB_iff.2 hm] at c2; cases c2
    · exact Ok.chk (by omega) (next d2 d3 hb1)
theorem set_joins {can : Nat → Nat → Bool} {m n i k : Nat} {l : List Int} (h : l ∈ joinsL can m n 0 0) (hi : i < n) (hk : k < m) (hc : can i k = true) (hn : (k : Int) ∉ l) : l.set i k ∈ joinsL can m n 0 0 := by
  obtain ⟨h1, h2, _⟩ := mem_joins.1 h
  refine mem_joins.2 ⟨by simp [h1], ?_, fun k hk => by simp at hk⟩
  have hu : ¬ Usd n (fnJ l) k := by
    rintro ⟨j, hj, e⟩
    refine hn ?_
    rw [← e, ← getD_01 (show j < l.length by omega)]
    exact getD_mem (by omega)
  refine (h2.add (i := i) hk hc hu).congr (fun j hj => ?_)
  unfold upd
  by_cases e : j = i
  · subst e
    simp [fnJ, List.getD, show j < l.length by omega]
  · rw [if_neg e]
    simp [fnJ, List.getD, List.getElem?_set_ne (Ne.symm e)]
theorem tried_l2_p (hN : 110 ≤ N) (h : Fine W s L F R) {b : List Int} {q : List Int} (hq : q.length ≤ 100) (hqx : ∀ x ∈ q, 0 ≤ x ∧ x < L.length) : ∀ (n k : Nat) (b2 b3 : Int) (out : List Int), q.length < n + k → k ≤ q.length → Bell b b2 → out ∈ joinsL (canF W s L F) F.length L.length 0 0 →
    Ok (tried_l2 N n q q.length k b b2 b3 W s L F R out) fun z => BelR b z.1 z.2.1 ∧ z.2.2.2 ∈ joinsL (canF W s L F) F.length L.length 0 0
  | 0, k, b2, b3, out, hn, _, _, _ => by omega
  | n + 1, k, b2, b3, out, hn, hk, hb, ho => by
    unfold tried_l2
    have hl6 := h.l6; have hf6 := h.f6
    have hol := (joins_all ho).1
    refine Ok.brd (fun c => ?_) (fun c => Ok.some ⟨⟨rfl, hb⟩, ho⟩)
    refine Ok.idx (by omega) c (fun x _ hx => ?_)
    obtain ⟨i, rfl⟩ : ∃ i : Nat, x = i := ⟨x.toNat, (Int.toNat_of_nonneg (hqx x hx).1).symm⟩
    have hi := (hqx _ hx).2
    have next : ∀ (b2 b3 : Int) (out : List Int), Bell b b2 → out ∈ joinsL (canF W s L F) F.length L.length 0 0 → Ok (tried_j1 N (tried_l2 N n) q q.length k b b2 b3 W s L F R out) fun z => BelR b z.1 z.2.1 ∧ z.2.2.2 ∈ joinsL (canF W s L F) F.length L.length 0 0 := fun b2 b3 out hb ho => by
      have := tried_l2_p hN h hq hqx n (k + 1) b2 b3 out (by omega) (by omega) hb ho
      rw [nat_succ] at this
      unfold tried_j1
      exact Ok.chk (by omega) this
    refine Ok.bind (rung_ok hN (u := F.length) (by omega) hb) ?_
    rintro ⟨p, d1, d2, d3⟩ ⟨⟨hp1, hp2⟩, hc, hb1⟩
    dsimp only at hp1 hp2 hc hb1 ⊢
    obtain rfl := hc.symm
    have e := tried_l3_p hN h (b := b) (u := q) (u2 := (q.length : Int)) (u3 := (k : Int)) (i := i) (by omega) (q := p) (out := out) (by omega) hp2 (by omega) N 0 d2 d3 (by omega) (by omega) hb1
    rw [show ((0 : Nat) : Int) = 0 from rfl] at e
    refine Ok.bind e (fun z hz => ?_)
    cases z with
    | inl z =>
      obtain ⟨y, b2', b3', rfl, hb2, y1, y2, y3⟩ := hz
      dsimp only
      refine Ok.rng (by omega) (Ok.get (by simp; omega) (fun _ _ _ => ?_))
      exact next b2' b3' _ hb2 (set_joins ho (by omega) y1 y2 y3)
    | inr z =>
      obtain ⟨b2', b3', rfl, hb2⟩ := hz
      exact next b2' b3' _ hb2 ho
theorem none_joins {can : Nat → Nat → Bool} {m n : Nat} : List.replicate n (-1 : Int) ∈ joinsL can m n 0 0 := by
  refine mem_joins.2 ⟨by simp, ⟨fun i hi => ?_, fun i j hi _ _ _ => ?_⟩, fun k hk => by simp at hk⟩
  · left; simp [fnJ, List.getD, hi]
  · simp [fnJ, List.getD, hi]
theorem tried_v (hN : 110 ≤ N) (h : Fine W s L F R) {b : List Int} {b2 b3 : Int} (hb : Bell b b2) : Ok (tried_S N W s L F R b b2 b3) fun z => z.1 ∈ joinsL (canF W s L F) F.length L.length 0 0 ∧ BelR b z.2.1 z.2.2.1 := by
  have hl6 := h.l6
  unfold tried_S
  have e := tried_l1_p (N := N) (W := W) (s := s) (L := L) (F := F) (R := R) (b := b) (b2 := b2) (b3 := b3) (m := L.length) (by omega) N 0 (by omega) (by omega)
  rw [List.replicate_zero, List.nil_append, Nat.sub_zero, show ((0 : Nat) : Int) = 0 from rfl] at e
  rw [grd_eq (lmI_iff.2 (by omega)), Int.toNat_natCast, List.length_replicate]
  refine Ok.eqb e ?_
  dsimp only
  refine Ok.bind (rung_ok hN (u := L.length) (by omega) hb) ?_
  rintro ⟨p, d1, d2, d3⟩ ⟨⟨hp1, hp2⟩, hc, hb1⟩
  dsimp only at hp1 hp2 hc hb1 ⊢
  obtain rfl := hc.symm
  have e2 := tried_l2_p hN h (b := b) (q := p) (by omega) hp2 N 0 d2 d3 _ (by omega) (by omega) hb1 none_joins
  rw [show ((0 : Nat) : Int) = 0 from rfl] at e2
  refine Ok.bind e2 ?_
  rintro ⟨z1, z2, z3, z4⟩ ⟨h1, h2⟩
  exact Ok.some ⟨h2, h1⟩
end
end Go.Proofs.Ythncjilcflilcaa

namespace Go.Proofs.Ythncjilcflilcaa
set_option linter.all false
open Go
theorem awake_v : awake_S 1100 = some true := by kernel_rfl
end Go.Proofs.Ythncjilcflilcaa

namespace Go.Proofs.Ythncjilcflilcaa
set_option linter.all false
open Go

section
variable {W : List Int} {s : Int} {L F : List (List Int)} {R : List Int} {N : Nat}
theorem lreward_j (hN : 110 ≤ N) (h : Fine W s L F R) {l : List Int} (hm : l ∈ joinsL (canF W s L F) F.length L.length 0 0) : lreward__S N W s L F R l = some (valJ (rewT R) 0 l, 0) := by
  have h1 := (joins_all hm).1
  have h2 := h.l6
  rw [lreward_v hN h.sm (by omega), errD_iff.2 h, if_pos (errJ_mt.2 hm)]
theorem fpaid_l1_p (h : Fine W s L F R) {x y : Int} {q : List Int} {q2 q3 : Int} {l : List Int} (hl : l.length = L.length) : ∀ (n k : Nat) (own : Int), l.length < n + k → k ≤ l.length → 0 ≤ own ∧ own ≤ 99 * k →
    fpaid_l1 N n x y own l l.length k W s L F R q q2 q3 = some (x, y, own + valJ (rewT R) k (l.drop k), W, s, L, F, R, q, q2, q3)
  | 0, k, own, hn, _, _ => by omega
  | n + 1, k, own, hn, hk, ho => by
    unfold fpaid_l1
    have hl6 := h.l6; have hrl := h.rl
    by_cases c : k < l.length
    · have hj : ∀ own : Int, 0 ≤ own ∧ own ≤ 99 * ((k : Int) + 1) → fpaid_j1 N (fpaid_l1 N n) x y own l l.length k W s L F R q q2 q3 = some (x, y, own + valJ (rewT R) (k + 1) (l.drop (k + 1)), W, s, L, F, R, q, q2, q3) := fun own ho => by
        have ih := fpaid_l1_p h (x := x) (y := y) (q := q) (q2 := q2) (q3 := q3) hl n (k + 1) own (by omega) (by omega) (by omega)
        rw [nat_succ] at ih
        unfold fpaid_j1
        rw [chk_eq (by omega), ih]
      have hb := getD_R h.r k
      rw [br_dec (by omega), idx_eq (by omega) (gets c 0), drop_cons c 0, valJ]
      by_cases c1 : l.getD k 0 = -1
      · rw [br_nd c1, hj _ (by omega), c1, pv_none, Int.zero_add]
      · have e : pv (rewT R) k (l.getD k 0) = R.getD k 0 := if_neg c1
        rw [br_nnd c1, idx_eq (by omega) (gets (by omega) 0), chk_eq (by omega), hj _ (by omega), e, Int.add_assoc]
    · rw [br_ndec (by omega), List.drop_of_length_le (by omega)]
      simp [valJ]
theorem fpaid_l2_p (hN : 110 ≤ N) (h : Fine W s L F R) {own : Int} {q : List Int} : ∀ (n k : Nat) (q2 q3 : Int), 10 < n + k → k ≤ 10 → Bell q q2 →
    Ok (fpaid_l2 N n (bestV W s L F) (valJ (rewT R) 0 (richL W s L F R)) own k W s L F R q q2 q3) fun r => r = .inr (valJ (rewT R) 0 (richL W s L F R), own)
  | 0, k, q2, q3, hn, _, _ => by omega
  | n + 1, k, q2, q3, hn, hk, hb => by
    unfold fpaid_l2
    refine Ok.brd (fun c => ?_) (fun c => Ok.some rfl)
    refine Ok.bind (tried_v hN h hb) ?_
    rintro ⟨o, d1, d2, d3⟩ ⟨ho, hc, hb1⟩
    dsimp only at ho hc hb1 ⊢
    obtain rfl := hc.symm
    have ih := fpaid_l2_p hN h (own := own) n (k + 1) d2 d3 (by omega) (by omega) hb1
    rw [nat_succ] at ih
    refine Ok.eqb (lreward_j hN h ho) ?_
    dsimp only
    refine Ok.eqb (lworth_j hN h ho) ?_
    dsimp only
    refine Ok.brn (fun hx => absurd rfl hx) (fun _ => ?_)
    refine Ok.brd (fun e => ?_) (fun _ => Ok.chk (by omega) ih)
    refine Ok.brd (fun e2 => ?_) (fun _ => Ok.chk (by omega) ih)
    have := (rich_facts h).2 o (mem_bestR.2 ⟨ho, e⟩)
    omega
end
theorem fpaid_true {a b : List Int} (h0 : Ty.inB (.sl (.int .u8)) a) (h1 : Ty.inB (.sl (.int .u8)) b) : fpaid_S 1100 a b = some true := by
  have l0 : a.length ≤ 9223372036854775807 := h0.1
  have l1 : b.length ≤ 9223372036854775807 := h1.1
  unfold fpaid_S hang_S
  simp only [Option.bind_some]
  obtain ⟨⟨W, s, L, F, R, c, c2, c3⟩, em, hF, hlen, _, _⟩ := made_v (N := 1100) (b := a) (by omega) (things := 5) (b2 := 0) (b3 := 0) (by omega) ⟨l0, by omega, by omega⟩
  dsimp only at hF hlen
  rw [em]
  simp only [Option.bind_some]
  have hs := hF.sm
  have d := errD_iff.2 hF
  rw [best_v (by omega) hs, richest_v (by omega) hs, if_pos d, if_pos d]
  simp only [Option.bind_some]
  have m1 : bestL W s L F ∈ joinsL (canF W s L F) F.length L.length 0 0 := bl_mem
  have m2 : richL W s L F R ∈ joinsL (canF W s L F) F.length L.length 0 0 := bl_mem
  obtain ⟨r1, r2⟩ := rich_facts hF
  have w1 : lworth_S 1100 W s L F R (richL W s L F R) = some (bestV W s L F, true) := by rw [lworth_j (by omega) hF m2, r1]
  rw [w1]
  simp only [Option.bind_some]
  rw [show lreward__S 1100 W s L F R (richL W s L F R) = _ from lreward_j (by omega) hF m2]
  simp only [Option.bind_some]
  rw [show lreward__S 1100 W s L F R (bestL W s L F) = _ from lreward_j (by omega) hF m1]
  simp only [Option.bind_some]
  have hp := r2 _ (mem_bestR.2 ⟨m1, bl_val⟩)
  have e1 := fpaid_l1_p (N := 1100) hF (x := bestV W s L F) (y := valJ (rewT R) 0 (richL W s L F R)) (q := b) (q2 := 0) (q3 := 0) (l := richL W s L F R) (joins_all m2).1 1100 0 0 (by have := (joins_all m2).1; have := hF.l6; omega) (by omega) (by omega)
  rw [show ((0 : Nat) : Int) = 0 from rfl, List.drop_zero, Int.zero_add] at e1
  rw [br_nd (by first | trivial | rfl), br_nd (by first | trivial | rfl), br_nd (by first | trivial | rfl), br_nd (by first | trivial | rfl), Bool.not_true, br_false, br_nd (by first | trivial | rfl), br_nd (by first | trivial | rfl), br_ndec (Int.not_lt.2 hp), e1]
  simp only [Option.bind_some]
  obtain ⟨r, e2, e3⟩ := fpaid_l2_p (N := 1100) (by omega) hF (own := valJ (rewT R) 0 (richL W s L F R)) (q := b) 1100 0 0 0 (by omega) (by omega) ⟨l1, by omega, by omega⟩
  rw [show ((0 : Nat) : Int) = 0 from rfl] at e2
  rw [e2, e3]
  simp only [Option.bind_some]
  rw [br_dec (by first | trivial | rfl), awake_v]; rfl
end Go.Proofs.Ythncjilcflilcaa

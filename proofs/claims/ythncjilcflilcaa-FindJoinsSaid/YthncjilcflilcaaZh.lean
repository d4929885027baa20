/-
  Parts of a proof, put together: FD5, FAw, FL1.
  Conditions: none.
-/
import Derived.Test.YthncjilcflilcaaZd
import Derived.Test.YthncjilcflilcaaZf
import Derived.Test.YthncjilcflilcaaZg
namespace Go.Proofs.Ythncjilcflilcaa
set_option linter.all false
open Go

section
variable {W : List Int} {s : Int} {L F : List (List Int)} {R : List Int} {A B : Nat → Nat → Int} {N : Nat}
/-- Prices hold for a lost thing. -/
def okS (can : Nat → Nat → Bool) (A : Nat → Nat → Int) (m : Nat) (p q : List Int) (i : Nat) : Bool := (mayL can m i).all fun k => decide (A i k ≤ p.getD i 0 + q.getD k 0)
/-- What prices show. -/
def shR (e : Int) (n m : Nat) (can : Nat → Nat → Bool) (A : Nat → Nat → Int) (p q : List Int) : Int × Int :=
  if ¬ e = 0 then (0, e) else if ¬ (p.length : Int) = (n : Int) then (0, 2) else if ¬ (q.length : Int) = (m : Int) then (0, 2) else if p.all okp = false then (0, 3) else if q.all okp = false then (0, 3) else
  if alI (okS can A m p q) p.length = false then (0, 8) else (p.sum + q.sum, 0)
theorem okp_iff {l : List Int} (h : l.all okp = true) : ∀ x ∈ l, 0 ≤ x ∧ x ≤ 999 := by simpa [okp] using h
theorem shows_l2_p {dk : Dk} (hdk : dk = dkT W s L F R A B) {p q : List Int} {i : Nat} (hi : i < 6) (hF : F.length ≤ 6) (hq : q.length = F.length) (hqo : ∀ x ∈ q, 0 ≤ x ∧ x ≤ 999) {u : List Int} {u2 u3 u6 x : Int} (hx : 0 ≤ x ∧ x ≤ 999) :
    ∀ ks : List Nat, (∀ k ∈ ks, k < F.length) → shows_l2 N (ks.map fun (j : Nat) => ((j : Int), ())) p u u2 u3 dk dk u6 q 0 0 dk i x = some (if ks.all (fun k => decide (A i k ≤ x + q.getD k 0)) then .inl (p, u, u2, u3, q, 0, 0, dk) else .inr (0, 8))
  | [], _ => rfl
  | k :: ks, hk => by
    have hk0 := hk k (by simp)
    have ih := shows_l2_p (p := p) (u := u) (u2 := u2) (u3 := u3) (u6 := u6) hdk hi hF hq hqo hx ks (fun y hy => hk y (by simp [hy]))
    have hb := hqo _ (getD_mem (d := 0) (show k < q.length by omega))
    rw [List.map_cons, shows_l2, shows_l2_b]
    rw [idx_eq (by omega) (gets (by omega) 0), chk_eq (by omega), rng_eq (by omega), rng_eq (by omega)]
    simp only [Int.toNat_natCast]
    rw [ih, hdk, get_T (by omega) (by omega), List.all_cons]
    by_cases c : x + q.getD k 0 < A i k
    · rw [br_dec c, decide_eq_false (by omega), Bool.false_and]; rfl
    · rw [br_ndec c, decide_eq_true (by omega), Bool.true_and]
theorem shows_l1_p {p q : List Int} (hp : p.length ≤ 6) (hF : F.length ≤ 6) (hq : q.length = F.length) (hpo : ∀ x ∈ p, 0 ≤ x ∧ x ≤ 999) (hqo : ∀ x ∈ q, 0 ≤ x ∧ x ≤ 999) :
    ∀ n k : Nat, p.length < n + k → k ≤ p.length → shows_l1 N n p p p.length k q 0 0 (dkT W s L F R A B) = (allI (okS (canT A B s) A F.length p q) p.length k (p, q, (0 : Int), (0 : Int))).map fun r => match r with | .inl _ => .inl (0, 8) | .inr r => .inr r
  | 0, k, h, _ => by omega
  | n + 1, k, h, hk => by
    unfold shows_l1
    by_cases c : k < p.length
    · have ih := shows_l1_p hp hF hq hpo hqo n (k + 1) (by omega) (by omega)
      rw [nat_succ] at ih
      rw [br_dec (by omega), idx_eq (by omega) (gets c 0)]
      have e := shows_l2_p (N := N) (A := A) (B := B) (W := W) (s := s) (L := L) (R := R) (dk := dkT W s L F R A B) rfl (p := p) (q := q) (i := k) (by omega) hF hq hqo (u := p) (u2 := p.length) (u3 := k) (u6 := k) (x := p.getD k 0) (hpo _ (getD_mem c)) (mayL (canT A B s) F.length k) (fun j hj => (mem_mayL.1 hj).1)
      have em : may_S N (dkT W s L F R A B) (k : Int) = some (dkT W s L F R A B, dkT W s L F R A B, (k : Int)) := rfl
      rw [em]
      simp only [Option.bind_some]
      rw [mayR_T hF (by omega)]
      simp only [Option.bind_some]
      unfold mayE
      rw [e]
      cases hb : okS (canT A B s) A F.length p q k
      · rw [allI_no c hb, if_neg (by unfold okS at hb; rw [hb]; simp)]; rfl
      · rw [allI_yes c hb, if_pos (by unfold okS at hb; exact hb), ← ih]
        simp only [Option.bind_some]
        rw [chk_eq (by omega)]
    · rw [br_ndec (by omega), allI_end (by omega)]; rfl
theorem shows_v (hN : 110 ≤ N) (h : Sm W L F R) {p q : List Int} (hp : p.length ≤ 100) (hq : q.length ≤ 100) : shows_S N W s L F R p q = some (shR (errD W s L F R) L.length F.length (canF W s L F) (agF W L F) p q) := by
  unfold shows_S shR
  rw [opened_v hN h]
  by_cases c : errD W s L F R = 0
  rotate_left
  · rw [if_neg c]
    simp only [Option.bind_some]
    rw [br_nnd c, if_pos c]
  have hF := errD_iff.1 c
  have hl6 := hF.l6; have hf6 := hF.f6
  rw [if_pos c, if_neg (not_not_intro c)]
  simp only [Option.bind_some]
  rw [br_nd (by first | trivial | rfl)]
  by_cases c1 : (p.length : Int) = (L.length : Int)
  rotate_left
  · rw [br_nnd c1, if_pos c1]
  rw [br_nd c1, if_neg (not_not_intro c1)]
  by_cases c2 : (q.length : Int) = (F.length : Int)
  rotate_left
  · rw [br_nnd c2, if_pos c2]
  rw [br_nd c2, if_neg (not_not_intro c2), everys_v (by omega) (by omega), everys_v (by omega) (by omega)]
  simp only [Option.bind_some]
  by_cases c3 : p.all okp = true
  rotate_left
  · rw [Bool.eq_false_iff.2 c3]; rfl
  by_cases c4 : q.all okp = true
  rotate_left
  · rw [c3, Bool.eq_false_iff.2 c4]; rfl
  have e := shows_l1_p (N := N) (W := W) (s := s) (L := L) (F := F) (R := R) (A := agF W L F) (B := slF W L F) (p := p) (q := q) (by omega) hf6 (by omega) (okp_iff c3) (okp_iff c4) N 0 (by omega) (by omega)
  rw [show ((0 : Nat) : Int) = 0 from rfl, allI_0] at e
  rw [c3, c4, Bool.not_true, br_false, br_false]
  unfold dkO
  rw [e]
  simp only [Bool.true_eq_false, if_false]
  by_cases c5 : alI (okS (canF W s L F) (agF W L F) F.length p q) p.length = true
  rotate_left
  · rw [if_neg c5, if_pos (Bool.eq_false_iff.2 c5)]; rfl
  rw [if_pos c5, if_neg (by rw [c5]; simp)]
  simp only [Option.map_some, Option.bind_some]
  have b1 := sumB (okp_iff c3)
  have b2 := sumB (okp_iff c4)
  rw [sum_v (m := 1000) (by omega) (by omega) (by omega) (fun x hx => by have := okp_iff c3 x hx; omega), sum_v (m := 1000) (by omega) (by omega) (by omega) (fun x hx => by have := okp_iff c4 x hx; omega)]
  simp only [Option.bind_some]
  rw [chk_eq (by omega)]
where
  sumB {l : List Int} (h : ∀ x ∈ l, 0 ≤ x ∧ x ≤ 999) : 0 ≤ l.sum ∧ l.sum ≤ 999 * l.length := by
    induction l with
    | nil => simp
    | cons a l ih =>
      have h1 := h a (by simp)
      have h2 := ih (fun w hw => h w (by simp [hw]))
      simp only [List.sum_cons, List.length_cons]
      omega
theorem rshows_l1_p {p q l : List Int} (hl : l.length ≤ 1000) : ∀ (n k : Nat) (x : Int), l.length < n + k → k ≤ l.length → 0 ≤ x ∧ x ≤ 999 * k → rshows_l1 N n p q x k W s L F R l = some (if (l.drop k).all okp then .inr (p, q, x + (l.drop k).sum, W, s, L, F, R) else .inl ())
  | 0, k, x, h, _, _ => by omega
  | n + 1, k, x, h, hk, hx => by
    unfold rshows_l1
    by_cases c : k < l.length
    · rw [br_dec (by omega), rng_eq (by omega)]
      simp only [Int.toNat_natCast]
      rw [get_get 0 c, off_v, drop_cons c 0, List.all_cons, List.sum_cons]
      simp only [Option.bind_some]
      have eo : okp (l.getD k 0) = decide (0 ≤ l.getD k 0 ∧ l.getD k 0 ≤ 999) := rfl
      by_cases c1 : 0 ≤ l.getD k 0 ∧ l.getD k 0 ≤ 999
      · have ih := rshows_l1_p (p := p) (q := q) hl n (k + 1) (x + l.getD k 0) (by omega) (by omega) (by omega)
        rw [nat_succ] at ih
        rw [br_nd c1, rng_eq (by omega)]
        rw [get_get 0 c, chk_eq (by omega), chk_eq (by omega), ih, eo, decide_eq_true c1, Bool.true_and, Int.add_assoc]
      · rw [br_nnd c1, eo, decide_eq_false c1, Bool.false_and]; rfl
    · rw [br_ndec (by omega), List.drop_of_length_le (by omega)]
      simp
def okQ (can : Nat → Nat → Bool) (A : Nat → Nat → Int) (p q : List Int) (i k : Nat) : Bool := !can i k || decide (A i k ≤ p.getD i 0 + q.getD k 0)
theorem okQ_S (can : Nat → Nat → Bool) (A : Nat → Nat → Int) (m : Nat) (p q : List Int) (i : Nat) : alI (okQ can A p q i) m = okS can A m p q i := by
  rw [Bool.eq_iff_iff, alI_iff]
  unfold okS okQ
  rw [List.all_eq_true]
  simp only [mem_mayL, Bool.or_eq_true, Bool.not_eq_true', decide_eq_true_eq]
  constructor
  · rintro h k ⟨hk, hc⟩
    rcases h k hk with h | h
    · rw [hc] at h; cases h
    · exact h
  · intro h k hk
    cases hc : can i k
    · exact .inl rfl
    · exact .inr (h k ⟨hk, hc⟩)
theorem rshows_l3_p (hN : 110 ≤ N) (h : Fine W s L F R) {p q : List Int} (hp : p.length = L.length) (hq : q.length = F.length) (hpo : ∀ x ∈ p, 0 ≤ x ∧ x ≤ 999) (hqo : ∀ x ∈ q, 0 ≤ x ∧ x ≤ 999) {x : Int} {i : Nat} (hi : i < L.length) :
    ∀ n k : Nat, q.length < n + k → k ≤ q.length → rshows_l3 N n p q x i k W s L F R = allI (okQ (canF W s L F) (agF W L F) p q i) q.length k (p, q, x, (i : Int), W, s, L, F, R)
  | 0, k, hn, _ => by omega
  | n + 1, k, hn, hk => by
    unfold rshows_l3
    have hl6 := h.l6; have hf6 := h.f6
    by_cases c : k < q.length
    · have ih := rshows_l3_p hN h hp hq hpo hqo (x := x) hi n (k + 1) (by omega) (by omega)
      rw [nat_succ] at ih
      have ec : okQ (canF W s L F) (agF W L F) p q i k = (!canF W s L F i k || decide (agF W L F i k ≤ p.getD i 0 + q.getD k 0)) := rfl
      have b1 := hpo _ (getD_mem (d := 0) (show i < p.length by omega))
      have b2 := hqo _ (getD_mem (d := 0) c)
      rw [br_dec (by omega), rpair_v hN h hi (by omega)]
      simp only [Option.bind_some]
      cases hb : canF W s L F i k
      · rw [br_false, chk_eq (by omega), ih, allI_yes c (by rw [ec, hb]; rfl)]
      · rw [br_true, idx_eq (by omega) (gets (by omega) 0), idx_eq (by omega) (gets c 0), chk_eq (by omega)]
        by_cases d : p.getD i 0 + q.getD k 0 < agF W L F i k
        · rw [br_dec d, allI_no c (by rw [ec, hb, decide_eq_false (by omega)]; rfl)]
        · rw [br_ndec d, chk_eq (by omega), ih, allI_yes c (by rw [ec, decide_eq_true (by omega)]; simp)]
    · rw [br_ndec (by omega), allI_end (by omega)]
theorem rshows_l2_p (hN : 110 ≤ N) (h : Fine W s L F R) {p q : List Int} (hp : p.length = L.length) (hq : q.length = F.length) (hpo : ∀ x ∈ p, 0 ≤ x ∧ x ≤ 999) (hqo : ∀ x ∈ q, 0 ≤ x ∧ x ≤ 999) {x : Int} :
    ∀ n k : Nat, p.length < n + k → k ≤ p.length → rshows_l2 N n p q x k W s L F R = allI (okS (canF W s L F) (agF W L F) F.length p q) p.length k x
  | 0, k, hn, _ => by omega
  | n + 1, k, hn, hk => by
    unfold rshows_l2
    have hl6 := h.l6; have hf6 := h.f6
    by_cases c : k < p.length
    · have ih := rshows_l2_p hN h hp hq hpo hqo (x := x) n (k + 1) (by omega) (by omega)
      rw [nat_succ] at ih
      have e := rshows_l3_p hN h hp hq hpo hqo (x := x) (i := k) (by omega) N 0 (by omega) (by omega)
      rw [show ((0 : Nat) : Int) = 0 from rfl, allI_0, hq, okQ_S] at e
      rw [br_dec (by omega), e]
      cases hb : okS (canF W s L F) (agF W L F) F.length p q k
      · rw [allI_no c hb]; rfl
      · rw [allI_yes c hb, if_pos rfl, ← ih]
        simp only [Option.bind_some]
        rw [chk_eq (by omega)]
    · rw [br_ndec (by omega), allI_end (by omega)]
theorem rshows_v (hN : 220 ≤ N) (h : Sm W L F R) {p q : List Int} (hp : p.length ≤ 100) (hq : q.length ≤ 100) : rshows_S N W s L F R p q = some (shR (errD W s L F R) L.length F.length (canF W s L F) (agF W L F) p q) := by
  unfold rshows_S shR
  rw [rcheck_v (by omega) h]
  simp only [Option.bind_some]
  by_cases c : errD W s L F R = 0
  rotate_left
  · rw [br_nnd c, if_pos c]
  have hF := errD_iff.1 c
  have hl6 := hF.l6; have hf6 := hF.f6
  rw [br_nd c, if_neg (not_not_intro c)]
  by_cases c1 : (p.length : Int) = (L.length : Int)
  rotate_left
  · rw [br_nnd c1, if_pos c1]
  rw [br_nd c1, if_neg (not_not_intro c1)]
  by_cases c2 : (q.length : Int) = (F.length : Int)
  rotate_left
  · rw [br_nnd c2, if_pos c2]
  rw [br_nd c2, if_neg (not_not_intro c2), lim_eq (by simp; omega), lim_eq (by simp; omega), List.nil_append]
  have e := rshows_l1_p (N := N) (W := W) (s := s) (L := L) (F := F) (R := R) (p := p) (q := q) (l := p ++ q) (by simp; omega) N 0 0 (by simp; omega) (by omega) (by omega)
  rw [show ((0 : Nat) : Int) = 0 from rfl, List.drop_zero, List.all_append, Int.zero_add, List.sum_append] at e
  rw [e]
  by_cases c3 : p.all okp = true
  rotate_left
  · rw [if_neg (by rw [Bool.eq_false_iff.2 c3]; simp), if_pos (Bool.eq_false_iff.2 c3)]; rfl
  by_cases c4 : q.all okp = true
  rotate_left
  · rw [if_neg (by rw [Bool.eq_false_iff.2 c4]; simp), if_neg (by rw [c3]; simp), if_pos (Bool.eq_false_iff.2 c4)]; rfl
  rw [if_pos (by rw [c3, c4]; rfl), if_neg (by rw [c3]; simp), if_neg (by rw [c4]; simp)]
  simp only [Option.bind_some]
  have e2 := rshows_l2_p (N := N) (by omega) hF (p := p) (q := q) (by omega) (by omega) (okp_iff c3) (okp_iff c4) (x := p.sum + q.sum) N 0 (by omega) (by omega)
  rw [show ((0 : Nat) : Int) = 0 from rfl, allI_0] at e2
  rw [e2]
  by_cases c5 : alI (okS (canF W s L F) (agF W L F) F.length p q) p.length = true
  rotate_left
  · rw [if_neg c5, if_pos (Bool.eq_false_iff.2 c5)]; rfl
  rw [if_pos c5, if_neg (by rw [c5]; simp)]; rfl
/-! ### Copies -/
theorem copyr_l1_p {l : List (List Int)} (hl : l.length ≤ 1000000) (hr : ∀ x ∈ l, x.length ≤ 1000000) : ∀ n k : Nat, l.length < n + k → k ≤ l.length → copyr_l1 N n l l.length k (l.take k ++ List.replicate (l.length - k) []) = some l
  | 0, k, h, _ => by omega
  | n + 1, k, h, hk => by
    unfold copyr_l1
    by_cases c : k < l.length
    · have ih := copyr_l1_p hl hr n (k + 1) (by omega) (by omega)
      rw [nat_succ, take_succ' c []] at ih
      rw [br_dec (by omega), idx_eq (by omega) (gets c []), copyi_v (hr _ (getD_mem c))]
      simp only [Option.bind_some, Int.toNat_natCast]
      have hlen : (l.take k ++ List.replicate (l.length - k) ([] : List Int)).length = l.length := by simp; omega
      rw [rng_eq (by rw [hlen]; omega), get_get [] (by rw [hlen]; exact c), chk_eq (by omega), ← ih]
      congr 1
      rw [List.set_append_right _ _ (by simp; omega), show k - (l.take k).length = 0 by simp; omega, show l.length - k = (l.length - (k + 1)) + 1 by omega, List.replicate_succ]
      simp
    · rw [br_ndec (by omega), List.take_of_length_le (by omega), show l.length - k = 0 by omega]; simp
theorem copyr_v {l : List (List Int)} (hl : l.length ≤ 1000000) (hN : l.length < N) (hr : ∀ x ∈ l, x.length ≤ 1000000) : copyr_S N l = some l := by
  unfold copyr_S
  have e := copyr_l1_p (N := N) hl hr N 0 (by omega) (by omega)
  simp only [List.take_zero, List.nil_append, Nat.sub_zero, Int.natCast_zero] at e
  rw [grd_eq (lmI_iff.2 (by omega)), Int.toNat_natCast, e]; rfl
theorem copyd_v (hN : 110 ≤ N) (h : Sm W L F R) : copyd_S N W s L F R = some (W, s, L, F, R) := by
  obtain ⟨hw, hl, hf, hr, hlr, hfr⟩ := h
  unfold copyd_S
  rw [copyi_v (by omega), copyr_v (by omega) (by omega) (fun x hx => by have := hlr x hx; omega), copyr_v (by omega) (by omega) (fun x hx => by have := hfr x hx; omega), copyi_v (by omega)]; rfl
theorem equali_v {l : List Int} (h : l.length ≤ 1000) (hN : l.length < N) : equali_S N l l = some true := by
  have := likei_v h hN
  unfold likei_S at this
  cases e : equali_S N l l with
  | none => rw [e] at this; cases this
  | some b => rw [e] at this; exact this
theorem liker_v {l : List (List Int)} (hl : l.length ≤ 1000) (hN : l.length < N) (hr : ∀ x ∈ l, x.length ≤ 1000 ∧ x.length < N) : liker_S N l l = some true := by
  have e : ∀ (n k : Nat), l.length < n + k → k ≤ l.length → equalf_l1 N n l l l.length k = some (.inr ()) := by
    intro n
    induction n with
    | zero => intro k h _; omega
    | succ n ih =>
      intro k h2 hk
      unfold equalf_l1
      by_cases c : k < l.length
      · have := ih (k + 1) (by omega) (by omega)
        rw [nat_succ] at this
        have hx := hr _ (getD_mem (d := []) c)
        rw [br_dec (by omega), idx_eq (by omega) (gets c []), idx_eq (by omega) (gets c []), equali_v hx.1 hx.2]
        simp only [Option.bind_some]
        rw [Bool.not_true, br_false, chk_eq (by omega), this]
      · rw [br_ndec (by omega)]
  have e0 := e N 0 (by omega) (by omega)
  simp only [Int.natCast_zero] at e0
  unfold liker_S equalf_S
  rw [br_nd rfl, e0]; rfl
theorem same_v (hN : 110 ≤ N) (h : Sm W L F R) : same_S N W s L F R W s L F R = some true := by
  obtain ⟨hw, hl, hf, hr, hlr, hfr⟩ := h
  unfold same_S
  rw [likei_v (by omega) (by omega), likei_v (by omega) (by omega), liker_v (by omega) (by omega) (fun x hx => ⟨by have := hlr x hx; omega, by have := hlr x hx; omega⟩), liker_v (by omega) (by omega) (fun x hx => ⟨by have := hfr x hx; omega, by have := hfr x hx; omega⟩)]
  simp [br]
theorem great_l2_p {u u2 : Int} {g : List (List (List Int))} {l : List (List Int)} (hl : l.length ≤ 1000000) : ∀ n k : Nat, l.length < n + k → k ≤ l.length → great_l2 N n u u2 l l.length k g = alls (fun r => decide ((r.length : Int) ≤ 12)) l k (u, u2, g)
  | 0, k, h, _ => by omega
  | n + 1, k, h, hk => by
    unfold great_l2
    by_cases c : k < l.length
    · have ih := great_l2_p (u := u) (u2 := u2) (g := g) hl n (k + 1) (by omega) (by omega)
      rw [nat_succ] at ih
      rw [br_dec (by omega), idx_eq (by omega) (gets c [])]
      by_cases d : 12 < ((l.getD k []).length : Int)
      · rw [br_dec d, alls_no [] c (by rw [decide_eq_false (by omega)])]
      · rw [br_ndec d, chk_eq (by omega), ih, alls_yes [] c (by rw [decide_eq_true (by omega)])]
    · rw [br_ndec (by omega), alls_end (by omega)]
theorem great_v (hN : 110 ≤ N) : great_S N W s L F R = some true ∨ great_S N W s L F R = some false ∧ Sm W L F R := by
  unfold great_S
  by_cases c1 : 10 < (W.length : Int)
  · rw [br_dec c1]; exact .inl rfl
  rw [br_ndec c1]
  by_cases c2 : 10 < (L.length : Int)
  · rw [br_dec c2]; exact .inl rfl
  rw [br_ndec c2]
  by_cases c3 : 10 < (F.length : Int)
  · rw [br_dec c3]; exact .inl rfl
  rw [br_ndec c3]
  by_cases c4 : 12 < (R.length : Int)
  · rw [br_dec c4]; exact .inl rfl
  rw [br_ndec c4]
  obtain ⟨n, rfl⟩ : ∃ n, N = n + 3 := ⟨N - 3, by omega⟩
  have e1 := great_l2_p (N := n + 3) (u := 2) (u2 := 0) (g := [L, F]) (l := L) (by omega) (n + 3) 0 (by omega) (by omega)
  have e2 := great_l2_p (N := n + 3) (u := 2) (u2 := 1) (g := [L, F]) (l := F) (by omega) (n + 3) 0 (by omega) (by omega)
  unfold alls at e1 e2
  simp only [List.drop_zero, Int.natCast_zero] at e1 e2
  have hl : (([L, F] : List (List (List Int))).length : Int) = 2 := rfl
  rw [hl]
  rw [great_l1, br_dec (by omega), rng_eq (by simp)]
  rw [show get [L, F] (0 : Int).toNat = fun f => f L from rfl]
  dsimp only
  rw [e1]
  by_cases d1 : L.all (fun r => decide ((r.length : Int) ≤ 12)) = true
  rotate_left
  · rw [if_neg d1]; exact .inl rfl
  rw [if_pos d1]
  simp only [Option.bind_some]
  rw [chk_eq (by omega), great_l1, br_dec (by omega), rng_eq (by simp)]
  rw [show get [L, F] ((0 : Int) + 1).toNat = fun f => f F from rfl]
  dsimp only
  rw [show ((0 : Int) + 1) = 1 from rfl, e2]
  by_cases d2 : F.all (fun r => decide ((r.length : Int) ≤ 12)) = true
  rotate_left
  · rw [if_neg d2]; exact .inl rfl
  rw [if_pos d2]
  simp only [Option.bind_some]
  rw [chk_eq (by omega), great_l1, br_ndec (by omega)]
  simp only [List.all_eq_true, decide_eq_true_eq] at d1 d2
  exact .inr ⟨rfl, by omega, by omega, by omega, by omega, fun x hx => by have := d1 x hx; omega, fun x hx => by have := d2 x hx; omega⟩
end
end Go.Proofs.Ythncjilcflilcaa

namespace Go.Proofs.Ythncjilcflilcaa
set_option linter.all false
open Go
theorem awake_v : awake_S 1100 = some true := by kernel_rfl
end Go.Proofs.Ythncjilcflilcaa

namespace Go.Proofs.Ythncjilcflilcaa
set_option linter.all false
open Go

abbrev DeskY : Ty := .pair (.sl (.int .i64)) (.pair (.int .i64) (.pair (.sl (.sl (.int .i64))) (.pair (.sl (.sl (.int .i64))) (.sl (.int .i64)))))
theorem fjoins_true {W : List Int} {s : Int} {L F : List (List Int)} {R : List Int} {l p q : List Int} (_ : Ty.inB DeskY (W, s, L, F, R)) (_ : Ty.inB (.sl (.int .i64)) l) (_ : Ty.inB (.sl (.int .i64)) p) (_ : Ty.inB (.sl (.int .i64)) q) : fjoins_S 1100 W s L F R l p q = some true := by
  have aw : ((awake_S 1100).bind fun x => some x) = some true := by rw [awake_v]; rfl
  unfold fjoins_S
  rcases great_v (N := 1100) (W := W) (s := s) (L := L) (F := F) (R := R) (by omega) with h | ⟨h, hs⟩
  · rw [h]
    simp only [Option.bind_some]
    rw [br_true]; exact aw
  rw [h]
  simp only [Option.bind_some]
  rw [br_false]
  by_cases c1 : 12 < (l.length : Int)
  · rw [br_dec c1]; exact aw
  rw [br_ndec c1]
  by_cases c2 : 12 < (p.length : Int)
  · rw [br_dec c2]; exact aw
  rw [br_ndec c2]
  by_cases c3 : 12 < (q.length : Int)
  · rw [br_dec c3]; exact aw
  rw [br_ndec c3, copyd_v (by omega) hs, copyi_v (by omega), copyi_v (by omega), copyi_v (by omega)]
  simp only [Option.bind_some]
  rw [rjoins_v (by omega) hs (by omega)]
  simp only [Option.bind_some]
  have tail : ∀ w r, (if errJ (errD W s L F R) L.length F.length (canF W s L F) l = 0 then valJ (agF W L F) 0 l else 0) = w → (if errJ (errD W s L F R) L.length F.length (canF W s L F) l = 0 then valJ (fun i _ => R.getD i 0) 0 l else 0) = r →
      fjoins_j1 1100 l p q l p q (errJ (errD W s L F R) L.length F.length (canF W s L F) l) w r W s L F R W s L F R W s L F R = some true := by
    rintro w r hw hr
    unfold fjoins_j1
    rw [lworth_v (by omega) hs (by omega), lreward_v (by omega) hs (by omega)]
    have e1 : ∀ x y : Int, (if errJ (errD W s L F R) L.length F.length (canF W s L F) l = 0 then (x, (0 : Int)) else (0, errJ (errD W s L F R) L.length F.length (canF W s L F) l)) = ((if errJ (errD W s L F R) L.length F.length (canF W s L F) l = 0 then x else 0), errJ (errD W s L F R) L.length F.length (canF W s L F) l) := fun x _ => by
      split
      · rename_i c; rw [c]
      · rfl
    rw [e1 _ 0, e1 _ 0, hw, hr]
    simp only [Option.bind_some]
    rw [br_nd (by first | trivial | rfl), br_nd (by first | trivial | rfl), br_nd (by first | trivial | rfl), br_nd (by first | trivial | rfl), shows_v (by omega) hs (by omega) (by omega), rshows_v (by omega) hs (by omega) (by omega)]
    simp only [Option.bind_some]
    rw [br_dec (by first | trivial | rfl), br_dec (by first | trivial | rfl), same_v (by omega) hs]
    simp only [Option.bind_some]
    rw [br_true, likei_v (by omega) (by omega), likei_v (by omega) (by omega), likei_v (by omega) (by omega)]
    simp only [Option.bind_some, br_true]
    exact awake_v
  by_cases c : errJ (errD W s L F R) L.length F.length (canF W s L F) l = 0
  · obtain ⟨d1, d2, d3, _⟩ := errJ_fine c
    have hF := errD_iff.1 d1
    rw [br_dec c, rworth_v (by omega) hF (by omega) d3, rreward_v (by omega) hF (by omega) d3]
    simp only [Option.bind_some]
    exact tail _ _ (if_pos c) (if_pos c)
  · rw [br_ndec c]
    exact tail _ _ (if_neg c) (if_neg c)
end Go.Proofs.Ythncjilcflilcaa

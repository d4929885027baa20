/-
  Parts of a proof, put together: Pl7, Pl8, Pl9, Pl10.
  Conditions: none.
-/
import Derived.Test.YtfcnhnbnjdccfaaZg
namespace Go.Proofs.Ytfcnhnbnjdccfaa
set_option linter.all false
open Go

section
variable {N : Nat} {T : List (List Int)} {H : List Int} {f : Int}
def leastV (H A B : List Int) : Int := (A.length : Int) + B.length + H.length - 2 * (tv mayA H A B (0, 0, 0)).1
theorem tv_bnd (may : Nat → Int × Int → Bool) {H A B : List Int} (hA : A.length ≤ 6) (hB : B.length ≤ 6) : -1 ≤ (tv may H A B (0, 0, 0)).1 ∧ (tv may H A B (0, 0, 0)).1 ≤ H.length := by
  have := tvx_bnd may (H := H) hA hB (H.length - 0) (0, 0, 0)
  exact ⟨this.1, this.2.1⟩
theorem dfaults_v {A B : List Int} {t : Int} (hH : H.length ≤ 10) (hA : A.length ≤ 6) (hB : B.length ≤ 6) (ht : -1 ≤ t ∧ t ≤ 10) : dfaults_S N (T, H, f, A, B) t = some ((A.length : Int) + B.length + H.length - 2 * t) := by
  unfold dfaults_S
  rw [chk_eq (by dsimp only; omega), chk_eq (by dsimp only; omega), chk_eq (by omega), chk_eq (by dsimp only; omega)]
theorem eleast_v (hN : 20 ≤ N) (h : Fine T H f) {a b : Int} (ha : 0 ≤ a ∧ a < T.length) (hb : 0 ≤ b ∧ b < T.length) : eleast_S N T H f a b = some (leastV H (T.getD a.toNat []) (T.getD b.toNat [])) := by
  unfold eleast_S
  have la := h.l (T.getD a.toNat []) (getD_mem (by omega))
  have lb := h.l (T.getD b.toNat []) (getD_mem (by omega))
  have hH := h.h
  rw [idx_get [] ha.1 ha.2, idx_get [] hb.1 hb.2]
  simp only [all_S, Option.bind_some]
  rw [firsta_v (by omega) h.h la.2 lb.2]
  simp only [Option.bind_some]
  have := tv_bnd mayA (H := H) la.2 lb.2
  rw [dfaults_v h.h la.2 lb.2 (by omega)]
  rfl
theorem least_v (hN : 20 ≤ N) (h : Fine T H f) {a b : Int} (ha : 0 ≤ a ∧ a < T.length) (hb : 0 ≤ b ∧ b < T.length) : least_S N T H f a b = some (leastV H (T.getD a.toNat []) (T.getD b.toNat []), 0) := by
  unfold least_S
  obtain ⟨_, _, _, e⟩ := opened_good hN (h.open ha hb)
  rw [e]
  have la := h.l (T.getD a.toNat []) (getD_mem (by omega))
  have lb := h.l (T.getD b.toNat []) (getD_mem (by omega))
  have hH := h.h
  simp only [Option.bind_some, decide_true, Bool.not_true, br_false, all_S]
  rw [firsta_v (by omega) h.h la.2 lb.2]
  simp only [Option.bind_some]
  have := tv_bnd mayA (H := H) la.2 lb.2
  rw [dfaults_v h.h la.2 lb.2 (by omega)]
  rfl
/-! ### Pairs -/
def pE (T : List (List Int)) (H : List Int) (f : Int) (i j : Nat) : Bool := decide (leastV H (T.getD i []) (T.getD j []) ≤ f)
theorem epairs_l2_p (hN : 20 ≤ N) (h : Fine T H f) {a s : Nat} {u u2 : Int} {O : List (Int × Int)} (ha : a < T.length) (hO : O.length ≤ 1000) : ∀ (n k : Nat), T.length < n + k → s ≤ k → k ≤ T.length →
    epairs_l2 N n a k u u2 T H f (O ++ rowTo (pE T H f) a s k) = some (u, u2, T, H, f, O ++ rowTo (pE T H f) a s T.length)
  | 0, k, h1, h2, h3 => by omega
  | n + 1, k, h1, h2, h3 => by
    unfold epairs_l2
    have hT := h.n
    by_cases c : k < T.length
    · rw [br_dec (by omega), eleast_v hN h (by omega) (by omega)]
      simp only [Option.bind_some, Int.toNat_natCast]
      have rl := rowTo_len (pE T H f) a s k
      have next := epairs_l2_p hN h (s := s) (u := u) (u2 := u2) ha hO n (k + 1) (by omega) (by omega) (by omega)
      rw [show ((k + 1 : Nat) : Int) = (k : Int) + 1 by omega] at next
      by_cases d : leastV H (T.getD a []) (T.getD k []) ≤ f
      · rw [br_dec d, lim_eq (by simp; omega)]
        unfold epairs_j1
        rw [chk_eq (by omega), List.append_assoc, ← rowTo_yes h2 (by simpa [pE] using d)]
        exact next
      · rw [br_ndec d]
        unfold epairs_j1
        rw [chk_eq (by omega), ← rowTo_no (p := pE T H f) (a := a) h2 (by simpa [pE] using d)]
        exact next
    · have e : k = T.length := by omega
      rw [br_ndec (by omega), e]
theorem epairs_l1_p (hN : 20 ≤ N) (h : Fine T H f) : ∀ (n k : Nat), T.length < n + k → k ≤ T.length → epairs_l1 N n (T.length : Int) k T H f (allTo (pE T H f) T.length 0 k) = some (allTo (pE T H f) T.length 0 T.length)
  | 0, k, h1, h2 => by omega
  | n + 1, k, h1, h2 => by
    unfold epairs_l1
    have hT := h.n
    by_cases c : k < T.length
    · have al := allTo_len (pE T H f) T.length 0 k
      have : k * T.length ≤ 5 * 5 := Nat.mul_le_mul (by omega) (by omega)
      rw [br_dec (by omega)]
      have e := epairs_l2_p (N := N) hN h (s := k) (u := (T.length : Int)) (u2 := (k : Int)) (O := allTo (pE T H f) T.length 0 k) c (by omega) N k (by omega) (by omega) (by omega)
      rw [rowTo_zero, List.append_nil] at e
      rw [e]
      simp only [Option.bind_some]
      rw [chk_eq (by omega)]
      have next := epairs_l1_p hN h n (k + 1) (by omega) (by omega)
      rw [allTo_succ, Nat.add_zero, show ((k + 1 : Nat) : Int) = (k : Int) + 1 by omega] at next
      exact next
    · have e : k = T.length := by omega
      rw [br_ndec (by omega), e]
theorem epairs_v (hN : 20 ≤ N) (h : Fine T H f) : epairs_S N T H f = some (allTo (pE T H f) T.length 0 T.length) := by
  unfold epairs_S
  have hT := h.n
  have := epairs_l1_p (N := N) hN h N 0 (by omega) (by omega)
  rw [show allTo (pE T H f) T.length 0 0 = [] from rfl] at this
  rw [show ((0 : Nat) : Int) = 0 from rfl] at this
  rw [this]; rfl
theorem pairs_v (hN : 20 ≤ N) (h : Fine T H f) : pairs_S N T H f = some (allTo (pE T H f) T.length 0 T.length, 0) := by
  unfold pairs_S
  rw [check_v hN, h.check]
  simp only [Option.bind_some, decide_true, Bool.not_true, br_false]
  rw [epairs_v hN h]; rfl
/-! ### Confused texts -/
def cE (T : List (List Int)) (f : Int) (i j : Nat) : Bool := decide (distI (T.getD i []) (T.getD j []) ≤ 2 * f)
theorem conf_l2_p (hN : 20 ≤ N) (h : Fine T H f) {a s : Nat} {u : List (List Int)} {u2 u3 : Int} {O : List (Int × Int)} (ha : a < T.length) (hO : O.length ≤ 1000) : ∀ (n k : Nat), T.length < n + k → s ≤ k → k ≤ T.length →
    conf_l2 N n a (T.getD a []) k u u2 u3 T H f (O ++ rowTo (cE T f) a s k) = some (u, u2, u3, T, H, f, O ++ rowTo (cE T f) a s T.length)
  | 0, k, h1, h2, h3 => by omega
  | n + 1, k, h1, h2, h3 => by
    unfold conf_l2
    have hT := h.n
    have hf := h.f
    by_cases c : k < T.length
    · have la := h.l (T.getD a []) (getD_mem ha)
      have lb := h.l (T.getD k []) (getD_mem c)
      have := lc_le_left (T.getD a []) (T.getD k [])
      have hc := (cw_spec (T.getD a []) (T.getD k [])).2.2
      rw [br_dec (by omega), idx_get [] (by omega) (by omega)]
      simp only [Int.toNat_natCast]
      rw [chk_eq (by omega), common_v hN la.2 lb.2]
      simp only [Option.bind_some]
      rw [chk_eq (by omega), chk_eq (by omega), chk_eq (by omega)]
      have rl := rowTo_len (cE T f) a s k
      have next := conf_l2_p hN h (s := s) (u := u) (u2 := u2) (u3 := u3) ha hO n (k + 1) (by omega) (by omega) (by omega)
      rw [show ((k + 1 : Nat) : Int) = (k : Int) + 1 by omega] at next
      by_cases d : distI (T.getD a []) (T.getD k []) ≤ 2 * f
      · refine (br_dec (p := distI (T.getD a []) (T.getD k []) ≤ 2 * f) d).trans ?_
        rw [lim_eq (by simp; omega)]
        unfold conf_j1
        rw [chk_eq (by omega), List.append_assoc, ← rowTo_yes h2 (by simpa [cE] using d)]
        exact next
      · refine (br_ndec (p := distI (T.getD a []) (T.getD k []) ≤ 2 * f) d).trans ?_
        unfold conf_j1
        rw [chk_eq (by omega), ← rowTo_no (p := cE T f) (a := a) h2 (by simpa [cE] using d)]
        exact next
    · have e : k = T.length := by omega
      rw [br_ndec (by omega), e]
theorem conf_l1_p (hN : 20 ≤ N) (h : Fine T H f) : ∀ (n k : Nat), T.length < n + k → k ≤ T.length → conf_l1 N n T (T.length : Int) k T H f (allTo (cE T f) T.length 1 k) = some (allTo (cE T f) T.length 1 T.length)
  | 0, k, h1, h2 => by omega
  | n + 1, k, h1, h2 => by
    unfold conf_l1
    have hT := h.n
    by_cases c : k < T.length
    · have al := allTo_len (cE T f) T.length 1 k
      have : k * T.length ≤ 5 * 5 := Nat.mul_le_mul (by omega) (by omega)
      rw [br_dec (by omega), idx_get [] (by omega) (by omega), chk_eq (by omega)]
      simp only [Int.toNat_natCast]
      have e := conf_l2_p (N := N) hN h (s := k + 1) (u := T) (u2 := (T.length : Int)) (u3 := (k : Int)) (O := allTo (cE T f) T.length 1 k) c (by omega) N (k + 1) (by omega) (by omega) (by omega)
      rw [rowTo_zero, List.append_nil, show ((k + 1 : Nat) : Int) = (k : Int) + 1 by omega] at e
      rw [e]
      simp only [Option.bind_some]
      rw [chk_eq (by omega)]
      have next := conf_l1_p hN h n (k + 1) (by omega) (by omega)
      rw [allTo_succ, show ((k + 1 : Nat) : Int) = (k : Int) + 1 by omega] at next
      exact next
    · have e : k = T.length := by omega
      rw [br_ndec (by omega), e]
theorem conf_v (hN : 20 ≤ N) (h : Fine T H f) : conf_S N T H f = some (allTo (cE T f) T.length 1 T.length, 0) := by
  unfold conf_S
  have hT := h.n
  rw [check_v hN, h.check]
  simp only [Option.bind_some, decide_true, Bool.not_true, br_false]
  have := conf_l1_p (N := N) hN h N 0 (by omega) (by omega)
  rw [show allTo (cE T f) T.length 1 0 = [] from rfl, show ((0 : Nat) : Int) = 0 from rfl] at this
  rw [this]; rfl
/-! ### Lists -/
theorem indexp_gen (N : Nat) (v v2 : Int) : ∀ (n : Nat) (s : List (Int × Int)) (u u2 : Int), indexp_l1 N n s u u2 v v2 = ixL (fun x => some (decide (v = x.1) && decide (v2 = x.2))) n s u u2
  | 0, _, _, _ => rfl
  | n + 1, s, u, u2 => by simp only [indexp_l1, ixL, indexp_gen N v v2 n, Option.bind_some]
theorem containsp_v {s : List (Int × Int)} {v v2 : Int} (hs : s.length ≤ 1000) (hN : s.length < N) : containsp_S N s v v2 = some (s.contains (v, v2)) := by
  have := ixS_any (f := fun x : Int × Int => some (decide (v = x.1) && decide (v2 = x.2))) (p := fun x => decide (v = x.1) && decide (v2 = x.2)) (s := s) (N := N) (fun _ _ => rfl) (by omega) hN
  unfold containsp_S
  have e : indexp_S N s v v2 = ixS (fun x : Int × Int => some (decide (v = x.1) && decide (v2 = x.2))) N s := by
    unfold indexp_S ixS
    rw [indexp_gen] <;> rfl
  rw [e, this]
  congr 1
  rw [Bool.eq_iff_iff, List.any_eq_true, List.contains_iff_mem]
  simp only [Bool.and_eq_true, decide_eq_true_eq]
  constructor
  · rintro ⟨⟨a, b⟩, h, rfl, rfl⟩; exact h
  · intro h; exact ⟨_, h, rfl, rfl⟩
theorem cofc_v {s o : List (Int × Int)} (hs : s.length ≤ 1000) (hN : s.length < N) (ho : o.length ≤ 1000) (hN2 : o.length < N) : cofc_S N s o = some (s.any fun x => !(o.contains x)) := by
  have := ixS_any (f := fun x : Int × Int => econf1_S N x.1 x.2 o) (p := fun x => !(o.contains x)) (s := s) (N := N) (fun x _ => by simp [econf1_S, containsp_v ho hN2]) (by omega) hN
  unfold cofc_S
  have e : ixfc_S N s o = ixS (fun x : Int × Int => econf1_S N x.1 x.2 o) N s := by
    unfold ixfc_S ixS
    rw [ixfc_gen] <;> rfl
  rw [e, this]
theorem copyi_v {l : List Int} (h : l.length ≤ 1000000) : copyi_S N l = some l := by
  unfold copyi_S
  rw [grd_eq (lmI_iff.2 (by omega))]
  simp
theorem copyr_l1_p {u : List (List Int)} (hu : u.length ≤ 1000000) (hl : ∀ x ∈ u, x.length ≤ 1000000) : ∀ (n k : Nat) (out : List (List Int)), u.length < n + k → k ≤ u.length → out.length = u.length → out.take k = u.take k → copyr_l1 N n u (u.length : Int) k out = some u
  | 0, k, out, h, h1, _, _ => by omega
  | n + 1, k, out, h, h1, h2, h3 => by
    unfold copyr_l1
    by_cases c : k < u.length
    · rw [br_dec (by omega), idx_get [] (by omega) (by omega), copyi_v (hl _ (getD_mem (by omega)))]
      simp only [Option.bind_some, Int.toNat_natCast]
      rw [rng_eq (by omega), get_get [] (by omega), chk_eq (by omega)]
      have := copyr_l1_p hu hl n (k + 1) (out.set k (u.getD k [])) (by omega) (by omega) (by simpa using h2) (by
        rw [List.take_add_one, List.take_add_one, List.take_set_of_le (by omega), h3, List.getElem?_set_self (by omega)]
        simp [List.getD, c])
      rw [show ((k + 1 : Nat) : Int) = (k : Int) + 1 by omega] at this
      exact this
    · rw [br_ndec (by omega)]
      rw [List.take_of_length_le (by omega), List.take_of_length_le (by omega)] at h3
      rw [h3]
theorem copye_v (h : T.length ≤ 1000 ∧ H.length ≤ 1000) (hl : ∀ x ∈ T, x.length ≤ 1000000) (hN : 1010 ≤ N) : copye_S N T H f = some (T, H, f) := by
  unfold copye_S copyr_S
  rw [grd_eq (lmI_iff.2 (by omega))]
  have := copyr_l1_p (N := N) (u := T) (by omega) hl N 0 (List.replicate (T.length : Int).toNat []) (by omega) (by omega) (by simp) (by simp)
  rw [show ((0 : Nat) : Int) = 0 from rfl] at this
  rw [this]
  simp only [Option.bind_some]
  rw [copyi_v (by omega)]; rfl
end
end Go.Proofs.Ytfcnhnbnjdccfaa

namespace Go.Proofs.Ytfcnhnbnjdccfaa
set_option linter.all false
open Go

section
variable {N : Nat}
theorem Fine.of_txt {T : List (List Int)} {H : List Int} {f wo : Int} (h : Txt 4 wo T) (hw : wo ≤ 6) (hn : 1 ≤ (T.length : Int) ∧ (T.length : Int) ≤ 4) (hH : InR 0 4 H) (hl : (H.length : Int) ≤ 10) (hf : 0 ≤ f ∧ f ≤ 8) : Fine T H f :=
  ⟨by omega, by omega, fun x hx => by have := h x hx; omega, fun x hx => (h x hx).1.mono (by omega) (by omega), hH.mono (by omega) (by omega), hf⟩
theorem econf_l4_p {l : List (Int × Int)} {a b u u2 u3 u4 x3 : Int} {is : Bool} {T : List (List Int)} {H q : List Int} (h4 : u4 ≤ 100) : ∀ (n : Nat) (u5 q2 q3 : Int) (w : List Int), (u4 - u5).toNat < n → 0 ≤ u5 → u5 ≤ u4 → Bell q q2 → InR 0 4 w → (w.length : Int) = u5 →
    ∃ q2' q3' w', econf_l4 N n l a b is u u2 u3 u4 u5 T H x3 q q2 q3 w = some (l, a, b, is, u, u2, u3, T, H, x3, q, q2', q3', w') ∧ Bell q q2' ∧ InR 0 4 w' ∧ (w'.length : Int) = u4
  | 0, u5, q2, q3, w, h, _, _, _, _, _ => by omega
  | n + 1, u5, q2, q3, w, h, h0, h1, hb, hl, hlen => by
    unfold econf_l4
    by_cases c : u5 < u4
    · rw [br_dec c]
      obtain ⟨⟨y, b', y2, y3⟩, e, hy, hb', hbl⟩ := stroke_ok N (n := 4) (b3 := q3) hb (by omega)
      dsimp only at hb' hbl hy
      subst hb'
      rw [e]
      simp only [Option.bind_some]
      rw [lim_eq (by simp; omega), chk_eq (by omega)]
      exact econf_l4_p h4 n (u5 + 1) y2 y3 _ (by omega) (by omega) (by omega) hbl (hl.append (by omega)) (by simp; omega)
    · rw [br_ndec c]
      exact ⟨q2, q3, w, rfl, hb, hl, by omega⟩
theorem econf_l3_p (hN : 120 ≤ N) {T : List (List Int)} {H q : List Int} {f : Int} {l : List (Int × Int)} {a b : Nat} {u u2 : Int} (h : Fine T H f) (ha : a < T.length) (hb : b < T.length) : ∀ (n : Nat) (u3 q2 q3 : Int), (3 - u3).toNat < n → 0 ≤ u3 → u3 ≤ 3 → Bell q q2 →
    ∃ q2' q3', econf_l3 N n l a b (decide (distI (T.getD a []) (T.getD b []) ≤ 2 * f)) u u2 u3 T H f q q2 q3 = some (.inr (l, a, b, u, u2, T, H, f, q, q2', q3')) ∧ Bell q q2'
  | 0, u3, q2, q3, h0, h1, h2, _ => by omega
  | n + 1, u3, q2, q3, h0, h1, h2, hq => by
    unfold econf_l3
    by_cases c : u3 < 3
    · rw [br_dec c]
      obtain ⟨⟨y, b', y2, y3⟩, e, hy, hb', hbl⟩ := strike_ok N (lo := 1) (hi := 6) (b3 := q3) hq (by omega)
      dsimp only at hb' hbl hy
      subst hb'
      rw [e]
      simp only [Option.bind_some]
      obtain ⟨z2, z3, w, e, hbl, hw, hwl⟩ := econf_l4_p (N := N) (l := l) (a := a) (b := b) (u := u) (u2 := u2) (u3 := u3) (x3 := f) (is := decide (distI (T.getD a []) (T.getD b []) ≤ 2 * f)) (T := T) (H := H) (u4 := y) (by omega) N 0 y2 y3 [] (by omega) (by omega) (by omega) hbl InR.nil (by simp)
      rw [e]
      simp only [Option.bind_some]
      rw [idx_get [] (by omega) (by omega), idx_get [] (by omega) (by omega)]
      simp only [Int.toNat_natCast]
      have la := h.l (T.getD a []) (getD_mem ha)
      have lb := h.l (T.getD b []) (getD_mem hb)
      have hY : Fine [w, T.getD a [], T.getD b []] [] 0 := by
        refine ⟨by simp, by simp, ?_, ?_, InR.nil, by omega⟩
        · intro t ht
          simp only [List.mem_cons, List.not_mem_nil, or_false] at ht
          rcases ht with rfl | rfl | rfl
          · omega
          · exact la
          · exact lb
        · intro t ht
          simp only [List.mem_cons, List.not_mem_nil, or_false] at ht
          rcases ht with rfl | rfl | rfl
          · exact hw.mono (by omega) (by omega)
          · exact h.w _ (getD_mem ha)
          · exact h.w _ (getD_mem hb)
      rw [dist_v (by omega) hY (by simp) (by simp), dist_v (by omega) hY (by simp) (by simp)]
      simp only [Option.bind_some, decide_true, Bool.not_true, br_false]
      have e1 : ([w, T.getD a [], T.getD b []] : List (List Int)).getD (0 : Int).toNat [] = w := rfl
      have e2 : ([w, T.getD a [], T.getD b []] : List (List Int)).getD (1 : Int).toNat [] = T.getD a [] := rfl
      have e3 : ([w, T.getD a [], T.getD b []] : List (List Int)).getD (2 : Int).toNat [] = T.getD b [] := rfl
      rw [e1, e2, e3]
      obtain ⟨r2, r3, er, hr⟩ := econf_l3_p hN (l := l) (u := u) (u2 := u2) h ha hb n (u3 + 1) z2 z3 (by omega) (by omega) (by omega) hbl
      have next : ∃ q2' q3', (chk (u3 + 1) <| econf_l3 N n l a b (decide (distI (T.getD a []) (T.getD b []) ≤ 2 * f)) u u2 (u3 + 1) T H f b' z2 z3) = some (.inr (l, (a : Int), (b : Int), u, u2, T, H, f, b', q2', q3')) ∧ Bell b' q2' := by
        rw [chk_eq (by omega)]; exact ⟨r2, r3, er, hr⟩
      by_cases d : distI (T.getD a []) (T.getD b []) ≤ 2 * f
      · simp only [d, decide_true, Bool.not_true, br_false] at next ⊢
        exact next
      · simp only [d, decide_false, Bool.not_false, br_true] at next ⊢
        have tri := distI_tri (T.getD a []) w (T.getD b [])
        have sym := distI_symm (T.getD a []) w
        by_cases d2 : distI w (T.getD a []) ≤ f
        · rw [br_dec d2, br_ndec (by omega)]; exact next
        · rw [br_ndec d2]; exact next
    · rw [br_ndec c]
      exact ⟨q2, q3, rfl, hq⟩
theorem econf_l2_p (hN : 120 ≤ N) {T : List (List Int)} {H q : List Int} {f : Int} {a : Nat} {u u2 : Int} (h : Fine T H f) (ha : a < T.length) : ∀ (n k : Nat) (q2 q3 : Int), T.length < n + k → a < k → k ≤ T.length → Bell q q2 →
    ∃ q2' q3', econf_l2 N n (allTo (cE T f) T.length 1 T.length) a k u u2 T H f q q2 q3 = some (.inr (.inr (allTo (cE T f) T.length 1 T.length, u, u2, T, H, f, q, q2', q3'))) ∧ Bell q q2'
  | 0, k, q2, q3, h0, h1, h2, _ => by omega
  | n + 1, k, q2, q3, h0, h1, h2, hq => by
    unfold econf_l2
    have hT := h.n
    have hf := h.f
    by_cases c : k < T.length
    · rw [br_dec (by omega), dist_v (by omega) h (by omega) (by omega)]
      simp only [Option.bind_some, Int.toNat_natCast]
      have al := allTo_len (cE T f) T.length 1 T.length
      have : T.length * T.length ≤ 5 * 5 := Nat.mul_le_mul (by omega) (by omega)
      rw [containsp_v (by omega) (by omega), allTo_contains ha (by omega) c]
      simp only [Option.bind_some, decide_true, Bool.not_true, br_false, cE]
      rw [chk_eq (by omega)]
      simp only [beq_self_eq_true, Bool.not_true, br_false]
      obtain ⟨r2, r3, er, hr⟩ := econf_l3_p hN (l := allTo (cE T f) T.length 1 T.length) (u := u) (u2 := u2) h ha c N 0 q2 q3 (by omega) (by omega) (by omega) hq
      rw [er]
      simp only [Option.bind_some]
      rw [chk_eq (by omega)]
      have := econf_l2_p hN (u := u) (u2 := u2) h ha n (k + 1) r2 r3 (by omega) (by omega) (by omega) hr
      rw [show ((k + 1 : Nat) : Int) = (k : Int) + 1 by omega] at this
      exact this
    · rw [br_ndec (by omega)]
      exact ⟨q2, q3, rfl, hq⟩
theorem econf_l1_p (hN : 120 ≤ N) {T : List (List Int)} {H q : List Int} {f : Int} (h : Fine T H f) : ∀ (n k : Nat) (q2 q3 : Int), T.length < n + k → k ≤ T.length → Bell q q2 →
    econf_l1 N n (allTo (cE T f) T.length 1 T.length) (T.length : Int) k T H f q q2 q3 = some (.inr (.inr (allTo (cE T f) T.length 1 T.length, T, H, f)))
  | 0, k, q2, q3, h0, h1, _ => by omega
  | n + 1, k, q2, q3, h0, h1, hq => by
    unfold econf_l1
    have hT := h.n
    by_cases c : k < T.length
    · rw [br_dec (by omega), chk_eq (by omega)]
      obtain ⟨r2, r3, er, hr⟩ := econf_l2_p hN (u := (T.length : Int)) (u2 := (k : Int)) h c N (k + 1) q2 q3 (by omega) (by omega) (by omega) hq
      rw [show ((k + 1 : Nat) : Int) = (k : Int) + 1 by omega] at er
      rw [er]
      simp only [Option.bind_some]
      rw [chk_eq (by omega)]
      have := econf_l1_p hN h n (k + 1) r2 r3 (by omega) (by omega) hr
      rw [show ((k + 1 : Nat) : Int) = (k : Int) + 1 by omega] at this
      exact this
    · rw [br_ndec (by omega)]
theorem awake_v : awake_S 1100 = some true := by kernel_rfl
theorem econf_true {ns ts : List Int} (h1 : ns.length ≤ 9223372036854775807) (h2 : ts.length ≤ 9223372036854775807) : econf_S 1100 ns ts = some true := by
  unfold econf_S hang_S
  simp only [Option.bind_some]
  obtain ⟨T, H, f, b2, b3, e, hb, hT, hn, hH, hl, hf⟩ := made_p (N := 1100) (by omega) (tx := 4) (wo := 5) (he := 7) (by omega) (by omega) (by omega) (b := ns) (b2 := 0) (b3 := 0) ⟨h1, by omega, by omega⟩
  rw [e]
  simp only [Option.bind_some]
  have hF : Fine T H f := Fine.of_txt hT (by omega) hn hH (by omega) (by omega)
  have hF1 : Fine T H (f + 1) := Fine.of_txt hT (by omega) hn hH (by omega) (by omega)
  have al := fun g d => allTo_len g T.length d T.length
  have : T.length * T.length ≤ 4 * 4 := Nat.mul_le_mul (by omega) (by omega)
  rw [conf_v (by omega) hF]
  simp only [Option.bind_some, decide_true, Bool.not_true, br_false]
  have l1 := econf_l1_p (N := 1100) (by omega) (q := ts) hF 1100 0 0 0 (by omega) (by omega) ⟨h2, by omega, by omega⟩
  rw [show ((0 : Nat) : Int) = 0 from rfl] at l1
  rw [l1]
  simp only [Option.bind_some]
  rw [copye_v (by omega) (fun x hx => by have := hF.l x hx; omega) (by omega)]
  simp only [Option.bind_some]
  rw [chk_eq (by omega), conf_v (by omega) hF1, pairs_v (by omega) hF, pairs_v (by omega) hF1]
  simp only [Option.bind_some, decide_true, br_true]
  have hmono := allTo_mono (p := cE T f) (q := cE T (f + 1)) (fun i j hp => by simp only [cE, decide_eq_true_eq] at hp ⊢; omega) T.length 1 T.length
  rw [br_dec (by omega)]
  have a1 := al (pE T H f) 0
  have a2 := al (pE T H (f + 1)) 0
  rw [cofc_v (by omega) (by omega) (by omega) (by omega)]
  have hsub : (allTo (pE T H f) T.length 0 T.length).any (fun x => !((allTo (pE T H (f + 1)) T.length 0 T.length).contains x)) = false := by
    rw [List.any_eq_false]
    intro x hx
    have := allTo_sub (p := pE T H f) (q := pE T H (f + 1)) (fun i j hp => by simp only [pE, decide_eq_true_eq] at hp ⊢; omega) T.length 0 T.length x hx
    simp [this]
  simp only [Option.bind_some]
  rw [hsub, Bool.not_false, br_true, awake_v]
  rfl
end
end Go.Proofs.Ytfcnhnbnjdccfaa

namespace Go.Proofs.Ytfcnhnbnjdccfaa
set_option linter.all false
open Go

/-! ### The greatest of several -/
theorem stepT_fst (h : Nat) (t : At3 → Int × Int) (best : Int × Int) (m : Mv) : (stepT mayA h t best m).1 = max best.1 (wT m.1.1 (t m.2).1) := by
  have : stepT mayA h t best m = (if best.1 < wT m.1.1 (t m.2).1 then (wT m.1.1 (t m.2).1, (t m.2).2) else if wT m.1.1 (t m.2).1 = best.1 then (best.1, best.2 + (t m.2).2) else best) := by unfold stepT; exact if_pos rfl
  rw [this]
  split
  · first | omega | (dsimp only; omega)
  · split <;> first | omega | (dsimp only; omega)
theorem fold_ge {h : Nat} {t : At3 → Int × Int} : ∀ (ms : List Mv) (best : Int × Int), best.1 ≤ (ms.foldl (stepT mayA h t) best).1 ∧ ∀ m ∈ ms, wT m.1.1 (t m.2).1 ≤ (ms.foldl (stepT mayA h t) best).1
  | [], best => ⟨Int.le_refl _, fun _ h => by cases h⟩
  | m :: ms, best => by
    obtain ⟨h1, h2⟩ := fold_ge (h := h) (t := t) ms (stepT mayA h t best m)
    rw [stepT_fst] at h1
    rw [List.foldl_cons]
    refine ⟨by omega, fun m' hm => ?_⟩
    rcases List.mem_cons.1 hm with rfl | hm
    · omega
    · exact h2 m' hm
theorem fold_le {h : Nat} {t : At3 → Int × Int} {c : Int} : ∀ (ms : List Mv) (best : Int × Int), best.1 ≤ c → (∀ m ∈ ms, wT m.1.1 (t m.2).1 ≤ c) → (ms.foldl (stepT mayA h t) best).1 ≤ c
  | [], best, hb, _ => hb
  | m :: ms, best, hb, hm => by
    rw [List.foldl_cons]
    exact fold_le ms _ (by rw [stepT_fst]; have := hm m (by simp); omega) (fun m' h' => hm m' (by simp [h']))
/-- The order of both texts doesn't matter. -/
theorem tvx_sym (H A B : List Int) : ∀ (n h i k : Nat), (tvx mayA H A B n (h, i, k)).1 = (tvx mayA H B A n (h, k, i)).1
  | 0, _, _, _ => rfl
  | n + 1, h, i, k => by
    have key : ∀ (A B : List Int) (i k : Nat), (∀ h i k, (tvx mayA H A B n (h, i, k)).1 = (tvx mayA H B A n (h, k, i)).1) → (tvx mayA H A B (n + 1) (h, i, k)).1 ≤ (tvx mayA H B A (n + 1) (h, k, i)).1 := by
      intro A B i k ih
      rw [tvx, tvx]
      obtain ⟨g1, g2⟩ := fold_ge (h := h) (t := tvx mayA H B A n) (movesL B A (H.getD h 0) (h, k, i)) (-1, 0)
      refine fold_le _ _ g1 (fun m hm => ?_)
      simp only [movesL, List.mem_cons, List.mem_append, List.mem_map] at hm
      rcases hm with rfl | ⟨j, hj, rfl⟩ | ⟨j, hj, rfl⟩
      · have := g2 ((3, 0), (h + 1, k, i)) (by simp [movesL])
        rw [ih]; exact this
      · have := g2 ((2, (j : Int)), (h + 1, k, j + 1)) (by simp only [movesL, List.mem_cons, List.mem_append, List.mem_map]; exact .inr (.inr ⟨j, hj, rfl⟩))
        dsimp only at this ⊢
        rw [ih]
        have e : ∀ w : Int, wT 1 w = wT 2 w := fun w => by simp [wT]
        rw [e]; exact this
      · have := g2 ((1, (j : Int)), (h + 1, j + 1, i)) (by simp only [movesL, List.mem_cons, List.mem_append, List.mem_map]; exact .inr (.inl ⟨j, hj, rfl⟩))
        dsimp only at this ⊢
        rw [ih]
        have e : ∀ w : Int, wT 2 w = wT 1 w := fun w => by simp [wT]
        rw [e]; exact this
    have a := key A B i k (fun h i k => tvx_sym H A B n h i k)
    have b := key B A k i (fun h i k => (tvx_sym H A B n h k i).symm)
    omega
theorem leastV_sym (H A B : List Int) : leastV H A B = leastV H B A := by
  have e := tvx_sym H A B H.length 0 0 0
  have e1 : (tv mayA H A B (0, 0, 0)).1 = (tvx mayA H A B H.length (0, 0, 0)).1 := rfl
  have e2 : (tv mayA H B A (0, 0, 0)).1 = (tvx mayA H B A H.length (0, 0, 0)).1 := rfl
  unfold leastV
  omega
/-! ### All words are told -/
inductive Told (H A B : List Int) : Nat → Nat → Nat → Prop
  | done (i k : Nat) : Told H A B H.length i k
  | ta {h i k j : Nat} (hh : h < H.length) (hij : i ≤ j) (hj : j < A.length) (e : A.getD j 0 = H.getD h 0) (t : Told H A B (h + 1) (j + 1) k) : Told H A B h i k
  | tb {h i k j : Nat} (hh : h < H.length) (hij : k ≤ j) (hj : j < B.length) (e : B.getD j 0 = H.getD h 0) (t : Told H A B (h + 1) i (j + 1)) : Told H A B h i k
theorem Told.mono {H A B : List Int} {h i k : Nat} (t : Told H A B h i k) : ∀ (i' k' : Nat), i' ≤ i → k' ≤ k → Told H A B h i' k' := by
  induction t with
  | done i k => intro i' k' _ _; exact .done i' k'
  | ta hh hij hj e _ ih => intro i' k' h1 h2; exact .ta hh (Nat.le_trans h1 hij) hj e (ih _ _ (Nat.le_refl _) h2)
  | tb hh hij hj e _ ih => intro i' k' h1 h2; exact .tb hh (Nat.le_trans h2 hij) hj e (ih _ _ h1 (Nat.le_refl _))
theorem Told.tv {H A B : List Int} {h i k : Nat} (t : Told H A B h i k) : ∀ n, H.length = h + n → (n : Int) ≤ (tvx mayA H A B n (h, i, k)).1 := by
  induction t with
  | done i k => intro n hn; have : n = 0 := by omega
                subst this; simp [tvx]
  | @ta h i k j hh hij hj e t ih =>
    intro n hn
    obtain ⟨n, rfl⟩ : ∃ m, n = m + 1 := ⟨n - 1, by omega⟩
    have := ih n (by omega)
    have g := (fold_ge (h := h) (t := tvx mayA H A B n) (movesL A B (H.getD h 0) (h, i, k)) (-1, 0)).2 ((1, (j : Int)), (h + 1, j + 1, k)) (by
      simp only [movesL, List.mem_cons, List.mem_append, List.mem_map]
      exact .inr (.inl ⟨j, mem_standsL.2 ⟨hij, hj, e⟩, rfl⟩))
    rw [tvx]
    dsimp only
    dsimp only [wT] at g
    rw [if_pos ⟨by omega, by decide⟩] at g
    omega
  | @tb h i k j hh hij hj e t ih =>
    intro n hn
    obtain ⟨n, rfl⟩ : ∃ m, n = m + 1 := ⟨n - 1, by omega⟩
    have := ih n (by omega)
    have g := (fold_ge (h := h) (t := tvx mayA H A B n) (movesL A B (H.getD h 0) (h, i, k)) (-1, 0)).2 ((2, (j : Int)), (h + 1, i, j + 1)) (by
      simp only [movesL, List.mem_cons, List.mem_append, List.mem_map]
      exact .inr (.inr ⟨j, mem_standsL.2 ⟨hij, hj, e⟩, rfl⟩))
    rw [tvx]
    dsimp only
    dsimp only [wT] at g
    rw [if_pos ⟨by omega, by decide⟩] at g
    omega
/-- Two texts run into each other, with words lost. -/
inductive Shuf : List Int → List Int → List Int → Prop
  | nil : Shuf [] [] []
  | skipA {S a b : List Int} (w : Int) (s : Shuf S a b) : Shuf S (w :: a) b
  | skipB {S a b : List Int} (w : Int) (s : Shuf S a b) : Shuf S a (w :: b)
  | takeA {S a b : List Int} (w : Int) (s : Shuf S a b) : Shuf (w :: S) (w :: a) b
  | takeB {S a b : List Int} (w : Int) (s : Shuf S a b) : Shuf (w :: S) a (w :: b)
theorem drop_step {l : List Int} {i : Nat} {w : Int} {r : List Int} (h : l.drop i = w :: r) : i < l.length ∧ l.getD i 0 = w ∧ l.drop (i + 1) = r := by
  have hi : i < l.length := by
    rcases Nat.lt_or_ge i l.length with h1 | h1
    · exact h1
    · rw [List.drop_of_length_le h1] at h; cases h
  rw [drop_cons hi] at h
  simp only [List.cons.injEq] at h
  exact ⟨hi, h.1, h.2⟩
theorem Shuf.told {H A B S a b : List Int} (s : Shuf S a b) : ∀ (h i k : Nat), h ≤ H.length → H.drop h = S → A.drop i = a → B.drop k = b → Told H A B h i k := by
  induction s with
  | nil =>
    intro h i k hh hS _ _
    have : h = H.length := by
      have := congrArg List.length hS
      rw [List.length_drop] at this
      simp at this; omega
    subst this; exact .done i k
  | skipA w s ih => intro h i k hh hS ha hb; obtain ⟨_, _, h3⟩ := drop_step ha; exact (ih h (i + 1) k hh hS h3 hb).mono _ _ (by omega) (Nat.le_refl _)
  | skipB w s ih => intro h i k hh hS ha hb; obtain ⟨_, _, h3⟩ := drop_step hb; exact (ih h i (k + 1) hh hS ha h3).mono _ _ (Nat.le_refl _) (by omega)
  | takeA w s ih =>
    intro h i k hh hS ha hb
    obtain ⟨h1, h2, h3⟩ := drop_step ha
    obtain ⟨g1, g2, g3⟩ := drop_step hS
    exact .ta g1 (Nat.le_refl _) h1 (by rw [h2, g2]) (ih (h + 1) (i + 1) k (by omega) g3 h3 hb)
  | takeB w s ih =>
    intro h i k hh hS ha hb
    obtain ⟨h1, h2, h3⟩ := drop_step hb
    obtain ⟨g1, g2, g3⟩ := drop_step hS
    exact .tb g1 (Nat.le_refl _) h1 (by rw [h2, g2]) (ih (h + 1) i (k + 1) (by omega) g3 ha h3)
theorem Shuf.len {S a b : List Int} (s : Shuf S a b) : S.length ≤ a.length + b.length := by
  induction s <;> simp only [List.length_cons, List.length_nil] at * <;> omega
theorem Shuf.least {S a b : List Int} (s : Shuf S a b) (ha : a.length ≤ 6) (hb : b.length ≤ 6) : leastV S a b = (a.length : Int) + b.length - S.length := by
  have t := (s.told (H := S) (A := a) (B := b) 0 0 0 (Nat.zero_le _) rfl rfl rfl).tv S.length (by omega)
  have := tv_bnd mayA (H := S) ha hb
  unfold leastV
  have e : (tvx mayA S a b S.length (0, 0, 0)).1 = (Proofs.Ytfcnhnbnjdccfaa.tv mayA S a b (0, 0, 0)).1 := rfl
  omega
end Go.Proofs.Ytfcnhnbnjdccfaa

namespace Go.Proofs.Ytfcnhnbnjdccfaa
set_option linter.all false
open Go

section
variable {N : Nat} {T : List (List Int)} {H : List Int} {f : Int}
theorem indexi_gen (N : Nat) (v : Int) : ∀ (n : Nat) (s : List Int) (u u2 : Int), indexi_l1 N n s v u u2 = ixL (fun x => some (decide (v = x))) n s u u2
  | 0, _, _, _ => rfl
  | n + 1, s, u, u2 => by simp only [indexi_l1, ixL, indexi_gen N v n, Option.bind_some]
theorem containsi_v {s : List Int} {v : Int} (hs : s.length ≤ 1000) (hN : s.length < N) : containsi_S N s v = some (s.contains v) := by
  have := ixS_any (f := fun x : Int => some (decide (v = x))) (p := fun x => decide (v = x)) (s := s) (N := N) (fun _ _ => rfl) (by omega) hN
  unfold containsi_S
  have e : indexi_S N s v = ixS (fun x : Int => some (decide (v = x))) N s := by
    unfold indexi_S ixS
    rw [indexi_gen] <;> rfl
  rw [e, this]
  congr 1
  rw [Bool.eq_iff_iff, List.any_eq_true, List.contains_iff_mem]
  simp only [decide_eq_true_eq]
  constructor
  · rintro ⟨a, h, rfl⟩; exact h
  · intro h; exact ⟨_, h, rfl⟩
/-- The texts that can be with one. -/
def withL (T : List (List Int)) (H : List Int) (f : Int) (a k : Nat) : List Int := ((List.range k).filter (pE T H f a)).map fun (x : Nat) => (x : Int)
theorem withL_len (T : List (List Int)) (H : List Int) (f : Int) (a k : Nat) : (withL T H f a k).length ≤ k := by
  unfold withL
  have := List.length_filter_le (pE T H f a) (List.range k)
  simp at this ⊢; omega
theorem mem_withL {a k : Nat} {o : Nat} : (o : Int) ∈ withL T H f a k ↔ o < k ∧ pE T H f a o = true := by
  unfold withL
  simp only [List.mem_map, List.mem_filter, List.mem_range]
  constructor
  · rintro ⟨x, ⟨h1, h2⟩, h3⟩
    have : x = o := by omega
    subst this; exact ⟨h1, h2⟩
  · rintro ⟨h1, h2⟩; exact ⟨o, ⟨h1, h2⟩, rfl⟩
theorem withL_succ (a k : Nat) : withL T H f a (k + 1) = withL T H f a k ++ (if pE T H f a k = true then [(k : Int)] else []) := by
  unfold withL
  rw [List.range_succ, List.filter_append, List.map_append]
  by_cases hp : pE T H f a k = true <;> simp [hp]
theorem with_l1_p (hN : 20 ≤ N) (h : Fine T H f) {a : Nat} (ha : a < T.length) : ∀ (n k : Nat), T.length < n + k → k ≤ T.length → with__l1 N n a (T.length : Int) k T H f (withL T H f a k) = some (withL T H f a T.length)
  | 0, k, h1, h2 => by omega
  | n + 1, k, h1, h2 => by
    unfold with__l1
    have hT := h.n
    by_cases c : k < T.length
    · rw [br_dec (by omega), eleast_v hN h (by omega) (by omega)]
      simp only [Option.bind_some, Int.toNat_natCast]
      have next := with_l1_p hN h ha n (k + 1) (by omega) (by omega)
      rw [show ((k + 1 : Nat) : Int) = (k : Int) + 1 by omega, withL_succ] at next
      have wl := withL_len T H f a k
      by_cases d : leastV H (T.getD a []) (T.getD k []) ≤ f
      · rw [br_dec d, lim_eq (by simp; omega)]
        unfold with__j1
        rw [if_pos (by simpa [pE] using d)] at next
        rw [chk_eq (by omega)]
        exact next
      · rw [br_ndec d]
        unfold with__j1
        rw [if_neg (by simpa [pE] using d), List.append_nil] at next
        rw [chk_eq (by omega)]
        exact next
    · have e : k = T.length := by omega
      rw [br_ndec (by omega), e]
theorem with_v (hN : 20 ≤ N) (h : Fine T H f) {a : Int} (ha : 0 ≤ a ∧ a < T.length) : with__S N T H f a = some (withL T H f a.toNat T.length, 0) := by
  unfold with__S
  have hT := h.n
  obtain ⟨k, rfl⟩ : ∃ k : Nat, a = k := ⟨a.toNat, by omega⟩
  rw [check_v hN, h.check]
  simp only [Option.bind_some, decide_true, Bool.not_true, br_false]
  rw [text_v N H f _ (by omega)]
  simp only [Option.bind_some, ha, and_self, decide_true, Bool.not_true, br_false, Int.toNat_natCast]
  have := with_l1_p (N := N) hN h (a := k) (by omega) N 0 (by omega) (by omega)
  rw [show withL T H f k 0 = [] from rfl, show ((0 : Nat) : Int) = 0 from rfl] at this
  rw [this]; rfl

theorem eafter_l1_p {often x2 p p2 : Int} {q : List Int} (ho : 2 ≤ often ∧ often ≤ 9) : ∀ (n : Nat) (lost q2 q3 : Int) (a b O : List Int), a.length + b.length < n → a.length + b.length ≤ 100 → 0 ≤ lost ∧ lost + a.length + b.length ≤ 1000 → O.length + a.length + b.length ≤ 1000 → Bell q q2 → InR 0 9 a → InR 0 9 b →
    ∃ S l', eafter_l1 N n lost often T x2 q q2 q3 p p2 a b O = some (l', T, x2, p, p2, O ++ S) ∧ Shuf S a b ∧ InR 0 9 S ∧ l' = lost + a.length + b.length - S.length
  | 0, lost, q2, q3, a, b, O, h, _, _, _, _, _, _ => by omega
  | n + 1, lost, q2, q3, a, b, O, h, h1, h2, h3, hq, hia, hib => by
    unfold eafter_l1
    rw [chk_eq (by omega)]
    have bb : ∀ (k : Int), -1000 ≤ k ∧ k ≤ 1000 → ∀ y2 y3, Bell q y2 → ∃ s z2 z3, seldom_S N k q y2 y3 = some (s, q, z2, z3) ∧ Bell q z2 := fun k hk y2 y3 hb2 => by
      obtain ⟨⟨s, b', z2, z3⟩, e, hb', hbl⟩ := seldom_ok N (n := k) (b3 := y3) hb2 hk
      dsimp only at hb' hbl
      subst hb'
      exact ⟨s, z2, z3, e, hbl⟩
    have g1 : ∀ l : List Int, 0 < l.length → decide ((0 : Int) ≤ 1 ∧ 1 ≤ (l.length : Int)) = true := fun l hl => by simp; omega
    by_cases c : 0 < (a.length : Int) + (b.length : Int)
    · rw [br_dec c]
      -- one word of b, or of a, goes
      have rb : ∀ y2 y3, Bell q y2 → 0 < b.length → ∃ S l', ((seldom_S N often q y2 y3).bind fun (x_27, y_28, y_29, y_30) => br x_27 (chk (lost + 1) <| grd (decide ((0 : Int) ≤ 1 ∧ 1 ≤ (b.length : Int))) <| eafter_l1 N n (lost + 1) often T x2 y_28 y_29 y_30 p p2 a (b.drop 1) O)
          (idx b 0 fun x_31 => lim (O.length + [x_31].length) <| grd (decide ((0 : Int) ≤ 1 ∧ 1 ≤ (b.length : Int))) <| eafter_l1 N n lost often T x2 y_28 y_29 y_30 p p2 a (b.drop 1) (O ++ [x_31]))) = some (l', T, x2, p, p2, O ++ S) ∧ Shuf S a b ∧ InR 0 9 S ∧ l' = lost + a.length + b.length - S.length := by
        intro y2 y3 hb2 hl
        obtain ⟨s, z2, z3, e, hbl⟩ := bb often (by omega) y2 y3 hb2
        rw [e]
        simp only [Option.bind_some]
        cases b with
        | nil => simp at hl
        | cons w b =>
          simp only [List.length_cons] at *
          cases s with
          | true =>
            rw [br_true, chk_eq (by omega), grd_eq (by simp only [decide_eq_true_eq]; omega)]
            obtain ⟨S, l', e2, s2, hS, hl'⟩ := eafter_l1_p ho n (lost + 1) z2 z3 a b O (by omega) (by omega) (by omega) (by omega) hbl hia (fun x hx => hib x (by simp [hx]))
            refine ⟨S, l', e2, .skipB w s2, hS, by omega⟩
          | false =>
            rw [br_false, idx_get 0 (by omega) (by simp only [List.length_cons]; omega), lim_eq (by simp only [List.length_cons, List.length_nil]; omega), grd_eq (by simp only [decide_eq_true_eq]; omega)]
            obtain ⟨S, l', e2, s2, hS, hl'⟩ := eafter_l1_p ho n lost z2 z3 a b (O ++ [w]) (by omega) (by omega) (by omega) (by simp only [List.length_append, List.length_cons, List.length_nil]; omega) hbl hia (fun x hx => hib x (by simp [hx]))
            refine ⟨w :: S, l', by rw [List.append_assoc] at e2; exact e2, .takeB w s2, fun x hx => ?_, by simp only [List.length_cons]; omega⟩
            rcases List.mem_cons.1 hx with rfl | hx
            · exact hib _ (by simp)
            · exact hS x hx
      have ra : ∀ y2 y3, Bell q y2 → 0 < a.length → ∃ S l', ((seldom_S N often q y2 y3).bind fun (x_27, y_28, y_29, y_30) => br x_27 (chk (lost + 1) <| grd (decide ((0 : Int) ≤ 1 ∧ 1 ≤ (a.length : Int))) <| eafter_l1 N n (lost + 1) often T x2 y_28 y_29 y_30 p p2 (a.drop 1) b O)
          (idx a 0 fun x_31 => lim (O.length + [x_31].length) <| grd (decide ((0 : Int) ≤ 1 ∧ 1 ≤ (a.length : Int))) <| eafter_l1 N n lost often T x2 y_28 y_29 y_30 p p2 (a.drop 1) b (O ++ [x_31]))) = some (l', T, x2, p, p2, O ++ S) ∧ Shuf S a b ∧ InR 0 9 S ∧ l' = lost + a.length + b.length - S.length := by
        intro y2 y3 hb2 hl
        obtain ⟨s, z2, z3, e, hbl⟩ := bb often (by omega) y2 y3 hb2
        rw [e]
        simp only [Option.bind_some]
        cases a with
        | nil => simp at hl
        | cons w a =>
          simp only [List.length_cons] at *
          cases s with
          | true =>
            rw [br_true, chk_eq (by omega), grd_eq (by simp only [decide_eq_true_eq]; omega)]
            obtain ⟨S, l', e2, s2, hS, hl'⟩ := eafter_l1_p ho n (lost + 1) z2 z3 a b O (by omega) (by omega) (by omega) (by omega) hbl (fun x hx => hia x (by simp [hx])) hib
            refine ⟨S, l', e2, .skipA w s2, hS, by omega⟩
          | false =>
            rw [br_false, idx_get 0 (by omega) (by simp only [List.length_cons]; omega), lim_eq (by simp only [List.length_cons, List.length_nil]; omega), grd_eq (by simp only [decide_eq_true_eq]; omega)]
            obtain ⟨S, l', e2, s2, hS, hl'⟩ := eafter_l1_p ho n lost z2 z3 a b (O ++ [w]) (by omega) (by omega) (by omega) (by simp only [List.length_append, List.length_cons, List.length_nil]; omega) hbl (fun x hx => hia x (by simp [hx])) hib
            refine ⟨w :: S, l', by rw [List.append_assoc] at e2; exact e2, .takeA w s2, fun x hx => ?_, by simp only [List.length_cons]; omega⟩
            rcases List.mem_cons.1 hx with rfl | hx
            · exact hia _ (by simp)
            · exact hS x hx
      by_cases d1 : (a.length : Int) = 0
      · rw [br_dec d1]
        exact rb q2 q3 hq (by omega)
      · rw [br_ndec d1]
        by_cases d2 : 0 < (b.length : Int)
        · rw [br_dec d2]
          obtain ⟨s, z2, z3, e, hbl⟩ := bb 2 (by omega) q2 q3 hq
          rw [e]
          simp only [Option.bind_some]
          cases s with
          | true => rw [br_true]; exact rb z2 z3 hbl (by omega)
          | false => rw [br_false]; exact ra z2 z3 hbl (by omega)
        · rw [br_ndec d2]
          exact ra q2 q3 hq (by omega)
    · rw [br_ndec c]
      have ha : a = [] := List.eq_nil_of_length_eq_zero (by omega)
      have hb : b = [] := List.eq_nil_of_length_eq_zero (by omega)
      subst ha hb
      exact ⟨[], lost, by simp, .nil, InR.nil, by simp⟩
theorem eafter_true {ns ts : List Int} (h1 : ns.length ≤ 9223372036854775807) (h2 : ts.length ≤ 9223372036854775807) : eafter_S 1100 ns ts = some true := by
  unfold eafter_S hang_S
  simp only [Option.bind_some]
  obtain ⟨T, H, f, b2, b3, e, hb, hT, hn, hH, hl, hf⟩ := made_p (N := 1100) (by omega) (tx := 4) (wo := 5) (he := 10) (by omega) (by omega) (by omega) (b := ns) (b2 := 0) (b3 := 0) ⟨h1, by omega, by omega⟩
  rw [e]
  simp only [Option.bind_some]
  have hq : Bell ts 0 := ⟨h2, by omega, by omega⟩
  rw [chk_eq (by omega)]
  obtain ⟨⟨p, b', y2, y3⟩, e, hp, hb', hbl⟩ := stroke_ok 1100 (n := (T.length : Int) - 1) (b3 := 0) hq (by omega)
  dsimp only at hb' hbl hp
  subst hb'
  rw [e]; simp only [Option.bind_some]
  rw [chk_eq (by omega)]
  obtain ⟨⟨p2, b', y2, y3⟩, e, hp2, hb', hbl⟩ := stroke_ok 1100 (n := (T.length : Int) - 1) (b3 := y3) hbl (by omega)
  dsimp only at hb' hbl hp2
  subst hb'
  rw [e]; simp only [Option.bind_some]
  rw [idx_get [] (by omega) (by omega), idx_get [] (by omega) (by omega)]
  obtain ⟨⟨often, b', y2, y3⟩, e, ho, hb', hbl⟩ := strike_ok 1100 (lo := 2) (hi := 9) (b3 := y3) hbl (by omega)
  dsimp only at hb' hbl ho
  subst hb'
  rw [e]; simp only [Option.bind_some]
  have tA := hT (T.getD p.toNat []) (getD_mem (by omega))
  have tB := hT (T.getD p2.toNat []) (getD_mem (by omega))
  obtain ⟨S, lost, e, hs, hS, hlost⟩ := eafter_l1_p (N := 1100) (T := T) (often := often) (x2 := f) (p := p) (p2 := p2) (by omega) 1100 0 y2 y3 (T.getD p.toNat []) (T.getD p2.toNat []) [] (by omega) (by omega) (by omega) (by simp only [List.length_nil]; omega) hbl (tA.1.mono (by omega) (by omega)) (tB.1.mono (by omega) (by omega))
  rw [e]; simp only [Option.bind_some, List.nil_append]
  have hsl := hs.len
  have hF : Fine T S f := ⟨by omega, by omega, fun x hx => by have := hT x hx; omega, fun x hx => (hT x hx).1.mono (by omega) (by omega), hS, by omega⟩
  have hF2 : Fine T S (min 8 lost) := ⟨by omega, by omega, fun x hx => by have := hT x hx; omega, fun x hx => (hT x hx).1.mono (by omega) (by omega), hS, by omega⟩
  have hlv := hs.least (by omega) (by omega)
  rw [least_v (by omega) hF (by omega) (by omega), hlv]
  simp only [Option.bind_some, decide_true, Bool.not_true, br_false]
  have el : (T.getD p.toNat []).length + (T.getD p2.toNat []).length - (S.length : Int) = lost := by omega
  rw [el, br_ndec (by omega), with_v (by omega) hF2 (by omega), pairs_v (by omega) hF2]
  simp only [Option.bind_some, decide_true, Bool.not_true, br_false]
  have al := allTo_len (pE T S (min 8 lost)) T.length 0 T.length
  have : T.length * T.length ≤ 4 * 4 := Nat.mul_le_mul (by omega) (by omega)
  have wl := withL_len T S (min 8 lost) p.toNat T.length
  rw [containsi_v (by omega) (by omega), containsp_v (by omega) (by omega)]
  simp only [Option.bind_some, awake_v]
  have key : lost ≤ 8 → (withL T S (min 8 lost) p.toNat T.length).contains p2 = true ∧ (allTo (pE T S (min 8 lost)) T.length 0 T.length).contains (min p p2, max p p2) = true := by
    intro h8
    have hpe : pE T S (min 8 lost) p.toNat p2.toNat = true := by simp only [pE, decide_eq_true_eq]; omega
    have hpe2 : pE T S (min 8 lost) p2.toNat p.toNat = true := by simp only [pE, decide_eq_true_eq]; rw [leastV_sym]; omega
    constructor
    · rw [List.contains_iff_mem, show p2 = ((p2.toNat : Nat) : Int) by omega]
      exact mem_withL.2 ⟨by omega, hpe⟩
    · rw [List.contains_iff_mem, mem_allTo]
      rcases Int.le_total p p2 with h | h
      · exact ⟨p.toNat, p2.toNat, by omega, by omega, by omega, hpe, by rw [Prod.mk.injEq]; omega⟩
      · exact ⟨p2.toNat, p.toNat, by omega, by omega, by omega, hpe2, by rw [Prod.mk.injEq]; omega⟩
  by_cases h8 : lost ≤ 8
  · obtain ⟨k1, k2⟩ := key h8
    by_cases h0 : lost = 0
    · simp only [h0, decide_true, br_true] at k1 k2 ⊢
      rw [k1, k2]; rfl
    · rw [br_ndec h0, br_dec h8, k1, k2]; rfl
  · rw [br_ndec (by omega), br_ndec h8]
end
end Go.Proofs.Ytfcnhnbnjdccfaa

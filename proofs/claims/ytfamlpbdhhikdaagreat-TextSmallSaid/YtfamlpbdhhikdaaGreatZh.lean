/-
  Parts of a proof, put together: TM5, TM6, InQ, XG, XS, XT.
  Conditions: none.
-/
import Derived.Test.YtfamlpbdhhikdaaGreatZd
import Derived.Test.YtfamlpbdhhikdaaGreatZf
import Derived.Test.YtfamlpbdhhikdaaGreatZg
namespace Go.Proofs.YtfamlpbdhhikdaaGreat
set_option linter.all false
open Go
def Jn (R : Nat → Nat → Bool) (m : Nat) (x y : Nat) : Prop := ∃ f t, f ≤ x ∧ x < y ∧ y < t ∧ t ≤ m ∧ R f t = true
def Jt (J : List Bool) (P : Nat → Nat → Prop) : Prop := J.length = 144 ∧ ∀ a b, a < 12 → b < 12 → (J.getD (a * 12 + b) false = true ↔ P a b)
theorem Jt.mono {J : List Bool} {P Q : Nat → Nat → Prop} (h : Jt J P) (hpq : ∀ a b, a < 12 → b < 12 → (P a b ↔ Q a b)) : Jt J Q := ⟨h.1, fun a b x y => (h.2 a b x y).trans (hpq a b x y)⟩
theorem Jt.set {J : List Bool} {P : Nat → Nat → Prop} (h : Jt J P) {a b : Nat} (ha : a < 12) (hb : b < 12) : Jt (J.set (a * 12 + b) true) (fun x y => P x y ∨ x = a ∧ y = b) := by
 refine ⟨by rw [List.length_set]; exact h.1, fun x y hx hy => ?_⟩
 have hl := h.1
 rw [getD_set' (by omega)]
 by_cases e : a * 12 + b = x * 12 + y
 ·have e1 : x = a := by omega
  have e2 : y = b := by omega
  simp [e1, e2]
 ·rw [if_neg e, h.2 x y hx hy]
  constructor
  ·exact fun h => .inl h
  ·rintro (h | ⟨h1, h2⟩)
   ·exact h
   ·exact absurd (by rw [h1, h2]) e
section
variable {N : Nat} {ws : List Wd} {ts : List Tn} {br_ : Int}
theorem lone_l4_p {a t : Nat} {u g2 : Int} {d : Tx} (ht : t ≤ 12) (ha : a < t) : ∀ (n k : Nat) (J : List Bool) (P : Nat → Nat → Prop), t < n + k → k ≤ t → Jt J P →
  ∃ J', lone_l4 N n u t a k d J g2 = some (u, (t : Int), (a : Int), d, J', g2) ∧ Jt J' (fun x y => P x y ∨ x = a ∧ k ≤ y ∧ y < t)
 | 0, k, J, P, h, hk, _ => by omega
 | n + 1, k, J, P, h, hk, hJ => by
  unfold lone_l4
  by_cases c : k < t
  ·obtain ⟨J', e1, e2⟩ := lone_l4_p ht ha n (k + 1) _ _ (by omega) (by omega) (hJ.set (a := a) (b := k) (by omega) (by omega))
   rw [show ((k + 1 : Nat) : Int) = (k : Int) + 1 by omega] at e1
   have hl := hJ.1
   rw [br_dec (by omega), rng_eq (by omega), rng_eq (by omega)]
   simp only [Int.toNat_natCast]
   rw [get_get false (by omega), chk_eq (by omega), e1]
   refine ⟨J', rfl, e2.mono fun x y _ _ => ?_⟩
   constructor
   ·rintro ((h | ⟨h1, h2⟩) | ⟨h1, h2, h3⟩)
    ·exact .inl h
    ·exact .inr ⟨h1, by omega, by omega⟩
    ·exact .inr ⟨h1, by omega, h3⟩
   ·rintro (h | ⟨h1, h2, h3⟩)
    ·exact .inl (.inl h)
    ·by_cases e : y = k
     ·exact .inl (.inr ⟨h1, e⟩)
     ·exact .inr ⟨h1, by omega, h3⟩
  ·rw [br_ndec (by omega)]
   refine ⟨J, rfl, hJ.mono fun x y _ _ => ⟨fun h => .inl h, ?_⟩⟩
   rintro (h | ⟨_, h2, h3⟩)
   ·exact h
   ·omega
theorem lone_l3_p (hN : 110 ≤ N) {t : Nat} {u g2 : Int} {d : Tx} (ht : t ≤ 12) : ∀ (n a : Nat) (J : List Bool) (P : Nat → Nat → Prop), t < n + a → a ≤ t → Jt J P →
  ∃ J', lone_l3 N n u t a d J g2 = some (u, d, J', g2) ∧ Jt J' (fun x y => P x y ∨ a ≤ x ∧ x < y ∧ y < t)
 | 0, a, J, P, h, hk, _ => by omega
 | n + 1, a, J, P, h, hk, hJ => by
  unfold lone_l3
  by_cases c : a < t
  ·obtain ⟨J1, e1, hJ1⟩ := lone_l4_p (N := N) (u := u) (g2 := g2) (d := d) ht c N (a + 1) J P (by omega) (by omega) hJ
   obtain ⟨J2, e2, hJ2⟩ := lone_l3_p hN ht n (a + 1) J1 _ (by omega) (by omega) hJ1 (u := u) (g2 := g2) (d := d)
   rw [show ((a + 1 : Nat) : Int) = (a : Int) + 1 by omega] at e1 e2
   rw [br_dec (by omega), chk_eq (by omega), e1]
   simp only [Option.bind_some]
   rw [chk_eq (by omega), e2]
   refine ⟨J2, rfl, hJ2.mono fun x y _ _ => ?_⟩
   constructor
   ·rintro ((h | ⟨h1, h2, h3⟩) | ⟨h1, h2, h3⟩)
    ·exact .inl h
    ·exact .inr ⟨by omega, by omega, h3⟩
    ·exact .inr ⟨by omega, h2, h3⟩
   ·rintro (h | ⟨h1, h2, h3⟩)
    ·exact .inl (.inl h)
    ·by_cases e : x = a
     ·exact .inl (.inr ⟨e, by omega, h3⟩)
     ·exact .inr ⟨by omega, h2, h3⟩
  ·rw [br_ndec (by omega)]
   refine ⟨J, rfl, hJ.mono fun x y _ _ => ⟨fun h => .inl h, ?_⟩⟩
   rintro (h | ⟨h1, h2, h3⟩)
   ·exact h
   ·omega
theorem lone_l2_p (hN : 110 ≤ N) {f m : Nat} {u u2 u3 u4 : Int} {d u5 : Tx} (hm : m ≤ 12) : ∀ (es : List Nat) (J : List Bool) (P : Nat → Nat → Prop), (∀ q ∈ es, f < q ∧ q ≤ m) → Jt J P →
  ∃ J', lone_l2 N (es.map fun (j : Nat) => ((j : Int), ())) u u2 u3 u4 u5 d J f = some (u, u2, u3, d, J') ∧ Jt J' (fun x y => P x y ∨ ∃ t, t ∈ es ∧ f ≤ x ∧ x < y ∧ y < t)
 | [], J, P, _, hJ => ⟨J, rfl, hJ.mono fun x y _ _ => ⟨fun h => .inl h, fun h => h.elim id (fun ⟨t, h, _⟩ => by cases h)⟩⟩
 | t :: es, J, P, he, hJ => by
  obtain ⟨h1, h2⟩ := he t (by simp)
  obtain ⟨J1, e1, hJ1⟩ := lone_l3_p (N := N) hN (t := t) (u := u) (g2 := (f : Int)) (d := d) (by omega) N f J P (by omega) (by omega) hJ
  obtain ⟨J2, e2, hJ2⟩ := lone_l2_p hN (f := f) (u := u) (u2 := u2) (u3 := u3) (u4 := u4) (d := d) (u5 := u5) hm es J1 _ (fun q hq => he q (by simp [hq])) hJ1
  refine ⟨J2, ?_, hJ2.mono fun x y _ _ => ?_⟩
  ·rw [List.map_cons, lone_l2]
   unfold lone_l2_b
   rw [e1]
   simp only [Option.bind_some]
   exact e2
  ·constructor
   ·rintro ((h | h) | ⟨q, hq, h⟩)
    ·exact .inl h
    ·exact .inr ⟨t, by simp, h⟩
    ·exact .inr ⟨q, by simp [hq], h⟩
   ·rintro (h | ⟨q, hq, h⟩)
    ·exact .inl (.inl h)
    ·rcases List.mem_cons.1 hq with rfl | hq
     ·exact .inl (.inr h)
     ·exact .inr ⟨q, hq, h⟩
variable (hN : 110 ≤ N) (hF : TFine ws ts br_)
include hN hF
theorem lone_l1_p {u : Int} : ∀ (n k : Nat) (J : List Bool) (P : Nat → Nat → Prop), ws.length < n + k → k ≤ ws.length → Jt J P →
  ∃ J', lone_l1 N n u ws.length k (ws, ts, br_) J = some ((ws, ts, br_), J') ∧ Jt J' (fun x y => P x y ∨ ∃ f t, k ≤ f ∧ f ≤ x ∧ x < y ∧ y < t ∧ t ≤ ws.length ∧ rightR ws ts br_ f t = true)
 | 0, k, J, P, h, hk, _ => by omega
 | n + 1, k, J, P, h, hk, hJ => by
  have hn := hF.n
  unfold lone_l1
  by_cases c : k < ws.length
  ·obtain ⟨J1, e1, hJ1⟩ := lone_l2_p (N := N) hN (f := k) (m := ws.length) (u := u) (u2 := (ws.length : Int)) (u3 := (k : Int)) (u4 := (k : Int)) (d := (ws, ts, br_)) (u5 := (ws, ts, br_)) hn (endsL ws ts br_ k) J P (fun q hq => by
    obtain ⟨a1, a2, _⟩ := mem_toL.1 hq; omega) hJ
   obtain ⟨J2, e2, hJ2⟩ := lone_l1_p (u := u) n (k + 1) J1 _ (by omega) (by omega) hJ1
   rw [show ((k + 1 : Nat) : Int) = (k : Int) + 1 by omega] at e2
   rw [br_dec (by omega)]
   unfold breaths_S
   simp only [Option.bind_some]
   rw [breathsR_v hF (by omega)]
   simp only [Option.bind_some]
   rw [e1]
   simp only [Option.bind_some]
   rw [chk_eq (by omega), e2]
   refine ⟨J2, rfl, hJ2.mono fun x y _ _ => ?_⟩
   constructor
   ·rintro ((h | ⟨t, h1, h2, h3, h4⟩) | ⟨f, t, h1, h2⟩)
    ·exact .inl h
    ·obtain ⟨a1, a2, a3⟩ := mem_toL.1 h1
     exact .inr ⟨k, t, by omega, h2, h3, h4, a2, a3⟩
    ·exact .inr ⟨f, t, by omega, h2⟩
   ·rintro (h | ⟨f, t, h1, h2, h3, h4, h5, h6⟩)
    ·exact .inl (.inl h)
    ·by_cases e : f = k
     ·subst e
      exact .inl (.inr ⟨t, mem_toL.2 ⟨by omega, h5, h6⟩, h2, h3, h4⟩)
     ·exact .inr ⟨f, t, by omega, h2, h3, h4, h5, h6⟩
  ·rw [br_ndec (by omega)]
   refine ⟨J, rfl, hJ.mono fun x y _ _ => ⟨fun h => .inl h, ?_⟩⟩
   rintro (h | ⟨f, t, h1, h2, h3, h4, h5, _⟩)
   ·exact h
   ·omega
end
def jb (J : List Bool) (o w : Int) : Bool := J.getD (o.toNat * 12 + w.toNat) false
theorem ixfi4_p {N : Nat} {J : List Bool} {w : Int} (hJ : J.length = 144) (hw : 0 ≤ w ∧ w < 12) {s : List Int} (hs : ∀ x ∈ s, 0 ≤ x ∧ x < 12) (hl : s.length ≤ 1000) : ∀ (n k : Nat), s.length < n + k → k ≤ s.length →
  ∃ r, ixfi4_l1 N n s (s.length : Int) k J w = some r ∧ match r with
   | .inl x => x.2 = (J, w) ∧ 0 ≤ x.1 ∧ (s.drop k).any (fun o => jb J o w) = true
   | .inr x => x = (J, w) ∧ (s.drop k).any (fun o => jb J o w) = false
 | 0, k, h, _ => by omega
 | n + 1, k, h, hk => by
  unfold ixfi4_l1
  by_cases c : k < s.length
  ·have hx := hs _ (getD_mem c (d := 0))
   have hd := drop_cons c 0
   rw [br_dec (by omega), idx_eq (by omega) (gets c 0)]
   unfold every1i4_S lone11_S
   rw [rng_eq (by omega), rng_eq (by omega), get_get false (by omega)]
   simp only [Option.bind_some, Bool.not_not]
   cases hj : jb J (s.getD k 0) w
   ·unfold jb at hj
    rw [hj, br_false, chk_eq (by omega)]
    obtain ⟨r, e, hr⟩ := ixfi4_p hJ hw hs hl n (k + 1) (by omega) (by omega)
    rw [show ((k + 1 : Nat) : Int) = (k : Int) + 1 by omega] at e
    have hjb : jb J (s.getD k 0) w = false := hj
    refine ⟨r, e, ?_⟩
    rw [hd, List.any_cons, hjb, Bool.false_or]
    exact hr
   ·have hjb : jb J (s.getD k 0) w = true := hj
    unfold jb at hj
    rw [hj, br_true]
    exact ⟨_, rfl, rfl, by dsimp only; omega, by rw [hd, List.any_cons, hjb, Bool.true_or]⟩
  ·rw [br_ndec (by omega), List.drop_of_length_le (by omega)]
   exact ⟨_, rfl, rfl, rfl⟩
theorem everyi4_v {N : Nat} (hN : 110 ≤ N) {J : List Bool} {w : Int} (hJ : J.length = 144) (hw : 0 ≤ w ∧ w < 12) {s : List Int} (hs : ∀ x ∈ s, 0 ≤ x ∧ x < 12) (hl : s.length ≤ 100) : everyi4_S N s J w = some (s.all fun o => !jb J o w) := by
 obtain ⟨r, e, hr⟩ := ixfi4_p (N := N) hJ hw hs (by omega) N 0 (by omega) (by omega)
 simp only [Int.natCast_zero] at e
 unfold everyi4_S cofi4_S ixfi4_S
 rw [e]
 rw [← any_not, ]
 simp only [Bool.not_not]
 cases r with
 | inl x =>
  obtain ⟨x1, x2, x3⟩ := x
  obtain ⟨h1, h2, h3⟩ := hr
  simp only [Prod.mk.injEq] at h1
  dsimp only at h2
  simp only [List.drop_zero] at h3
  simp [h2, h3]
 | inr x =>
  obtain ⟨rfl, h3⟩ := hr
  simp only [List.drop_zero] at h3
  simp [h3]
def LnF (m : Int) (V : List Int → Prop) (e0 : Bool) (l : List Int) (lo : Int) (g g' : List Int) : Prop :=
 (g' = g ∨ g.length < g'.length ∧ ∃ c, okC m lo c ∧ (e0 = true → c ≠ []) ∧ g' = l ++ c ∧ V g') ∧ g.length ≤ g'.length ∧
 ∀ c, okC m lo c → (e0 = true → c ≠ []) → V (l ++ c) → (l ++ c).length ≤ g'.length ∧ (g.length < (l ++ c).length → (l ++ c).length = g'.length → bef (l ++ c) g' = false)
theorem bef_app (l : List Int) (a b : List Int) : bef (l ++ a) (l ++ b) = bef a b := by
 induction l with
 | nil => rfl
 | cons x l ih =>
  show (if x = x then bef (l ++ a) (l ++ b) else decide (x < x)) = _
  rw [if_pos rfl, ih]
theorem LnF.none {m : Int} {V : List Int → Prop} {l : List Int} {w : Int} {g : List Int} (h : m ≤ w) : LnF m V true l w g g := by
 refine ⟨.inl rfl, Nat.le_refl _, fun c hc hn => ?_⟩
 have := okC_len hc (hn rfl)
 have : c.length = 0 := by omega
 exact absurd (List.eq_nil_of_length_eq_zero this) (hn rfl)
theorem LnF.skip {m : Int} {V : List Int → Prop} {l : List Int} {w : Int} {g g' : List Int} (hV : ∀ r, ¬ V (l ++ w :: r)) (h : LnF m V true l (w + 1) g g') : LnF m V true l w g g' := by
 obtain ⟨h1, h2, h3⟩ := h
 refine ⟨?_, h2, fun c hc hn hv => ?_⟩
 ·rcases h1 with h1 | ⟨h1, c, c1, c2⟩
  ·exact .inl h1
  ·exact .inr ⟨h1, c, okC_mono (by omega) c1, c2⟩
 ·cases c with
  | nil => exact absurd rfl (hn rfl)
  | cons a r =>
   obtain ⟨⟨a1, a2⟩, a3⟩ := hc
   by_cases e : a = w
   ·subst e; exact absurd hv (hV r)
   ·exact h3 (a :: r) ⟨⟨by omega, a2⟩, a3⟩ hn hv
theorem LnF.step {m : Int} {V : List Int → Prop} {l : List Int} {w : Int} {g g1 g' : List Int} (hw : w < m) (h : LnF m V false (l ++ [w]) (w + 1) g g1) (h' : LnF m V true l (w + 1) g1 g') : LnF m V true l w g g' := by
 obtain ⟨h1, h2, h3⟩ := h
 obtain ⟨k1, k2, k3⟩ := h'
 have e1 : ∀ r, l ++ [w] ++ r = l ++ w :: r := fun r => by simp
 refine ⟨?_, by omega, fun c hc hn hv => ?_⟩
 ·rcases k1 with rfl | ⟨k1, c, c1, c2⟩
  ·rcases h1 with rfl | ⟨h1, c, c1, _, c3⟩
   ·exact .inl rfl
   ·exact .inr ⟨h1, w :: c, ⟨⟨by omega, hw⟩, c1⟩, fun _ => by simp, by rw [← e1]; exact c3.1, c3.2⟩
  ·exact .inr ⟨by omega, c, okC_mono (by omega) c1, c2⟩
 ·cases c with
  | nil => exact absurd rfl (hn rfl)
  | cons a r =>
   obtain ⟨⟨a1, a2⟩, a3⟩ := hc
   by_cases e : a = w
   ·subst e
    have := h3 r a3 (fun h => by cases h) (by rw [e1]; exact hv)
    rw [e1] at this
    refine ⟨by omega, fun q1 q2 => ?_⟩
    have hgl : g1.length = g'.length := by omega
    rcases k1 with rfl | ⟨k1, _⟩
    ·exact this.2 q1 (by omega)
    ·omega
   ·have := k3 (a :: r) ⟨⟨by omega, a2⟩, a3⟩ (fun _ => by simp) hv
    refine ⟨this.1, fun q1 q2 => ?_⟩
    by_cases d : g1.length < (l ++ a :: r).length
    ·exact this.2 d q2
    ·rcases k1 with rfl | ⟨k1, _⟩
     ·rcases h1 with rfl | ⟨_, c, _, _, c3, _⟩
      ·omega
      ·rw [c3, e1, bef_app]
       unfold bef
       rw [if_neg e, decide_eq_false (by omega)]
     ·omega
theorem LnF.begin {m : Int} {V : List Int → Prop} {l : List Int} {lo : Int} {g g1 g' : List Int} (hV : V l) (hg : g1 = if g.length < l.length then l else g) (h : LnF m V true l lo g1 g') : LnF m V false l lo g g' := by
 obtain ⟨k1, k2, k3⟩ := h
 have hle : g.length ≤ g1.length := by rw [hg]; split <;> omega
 have hl : l.length ≤ g1.length := by rw [hg]; split <;> omega
 refine ⟨?_, by omega, fun c hc _ hv => ?_⟩
 ·rcases k1 with rfl | ⟨k1, c, c1, c2, c3⟩
  ·split at hg
   ·rename_i d
    subst hg
    exact .inr ⟨d, [], trivial, (fun h => by cases h), by simp, hV⟩
   ·exact .inl hg
  ·exact .inr ⟨by omega, c, c1, (fun h => by cases h), c3⟩
 ·by_cases e : c = []
  ·subst e
   simp only [List.append_nil]
   refine ⟨by omega, fun q1 q2 => ?_⟩
   rw [if_pos q1] at hg
   subst hg
   rcases k1 with rfl | ⟨k1, _⟩
   ·exact bef_self _
   ·omega
  ·have := k3 c hc (fun _ => e) hv
   refine ⟨this.1, fun q1 q2 => ?_⟩
   have hcl : 0 < c.length := List.length_pos_iff.2 e
   have hlc : (l ++ c).length = l.length + c.length := by simp
   refine this.2 ?_ q2
   rw [hg]; split <;> omega
def VL (J : List Bool) (l : List Int) : Prop := l.Pairwise fun a b => jb J a b = false
theorem VL_snoc {J : List Bool} {l : List Int} {w : Int} : VL J (l ++ [w]) ↔ VL J l ∧ (l.all fun o => !jb J o w) = true := by
 unfold VL
 rw [List.pairwise_append]
 simp [List.all_eq_true]
theorem VL_pre {J : List Bool} {l c : List Int} (h : VL J (l ++ c)) : VL J l := (List.pairwise_append.1 h).1
section
variable {N : Nat} {ws : List Wd} {ts : List Tn} {br_ : Int}
variable (hN : 110 ≤ N) (hF : TFine ws ts br_)
include hN hF
theorem lmore_l1_p {J : List Bool} (hJ : J.length = 144) {self : List Int → Int → Tx → List Bool → List Int → Tx → List Bool → Option (List Int × Tx × List Bool)} {l : List Int} (hl : l ≠ [])
  (hb : ∀ x ∈ l, 0 ≤ x ∧ x < ws.length) (hll : l.length ≤ ws.length) {lo : Int}
  (hrec : ∀ (w : Int) (g : List Int), lo ≤ w → w < ws.length → VL J (l ++ [w]) → g.length ≤ 100 → ∃ g', self (l ++ [w]) (w + 1) (ws, ts, br_) J g (ws, ts, br_) J = some (g', (ws, ts, br_), J) ∧ g'.length ≤ 100 ∧ LnF ws.length (VL J) false (l ++ [w]) (w + 1) g g') (hV : VL J l) :
  ∀ (n : Nat) (w : Int) (g : List Int), (ws.length + 1 - w).toNat < n → lo ≤ w → 0 ≤ w → w ≤ ws.length → g.length ≤ 100 → ∃ g', lmore_l1 N self n l (ws, ts, br_) J g (ws, ts, br_) J w = some (g', (ws, ts, br_), J) ∧ g'.length ≤ 100 ∧ LnF ws.length (VL J) true l w g g'
 | 0, w, g, h, _, _, _, _ => by omega
 | n + 1, w, g, h, hlo, h0, h1, hg => by
  have hn := hF.n
  unfold lmore_l1 end__S
  simp only [Option.bind_some]
  by_cases c : w < ws.length
  ·have hj : ∀ g1 : List Int, g1.length ≤ 100 → ∃ g', lmore_j2 N self (lmore_l1 N self n) l (ws, ts, br_) J g1 (ws, ts, br_) J w = some (g', (ws, ts, br_), J) ∧ g'.length ≤ 100 ∧ LnF ws.length (VL J) true l (w + 1) g1 g' := by
    intro g1 hg1
    unfold lmore_j2
    rw [chk_eq (by omega)]
    exact lmore_l1_p hJ hl hb hll hrec hV n (w + 1) g1 (by omega) (by omega) (by omega) (by omega) hg1
   rw [br_dec c, everyi4_v hN hJ (by omega) (fun x hx => by have := hb x hx; omega) (by omega)]
   simp only [Option.bind_some]
   cases ha : l.all fun o => !jb J o w
   ·rw [br_false]
    obtain ⟨g', e, e0, h2⟩ := hj g hg
    refine ⟨g', e, e0, h2.skip fun r hr => ?_⟩
    have := (VL_snoc.1 (VL_pre (l := l ++ [w]) (c := r) (by simpa using hr))).2
    rw [ha] at this; cases this
   ·rw [br_true, cloneo_v hl (by omega)]
    simp only [Option.bind_some]
    rw [lim_eq (by simp; omega), chk_eq (by omega)]
    obtain ⟨g1, e1, hg1, h1⟩ := hrec w g hlo c (VL_snoc.2 ⟨hV, ha⟩) hg
    rw [e1]
    simp only [Option.bind_some]
    obtain ⟨g', e, e0, h2⟩ := hj g1 hg1
    exact ⟨g', e, e0, h1.step c h2⟩
  ·rw [br_ndec c]
   exact ⟨g, rfl, hg, LnF.none (by omega)⟩
theorem lmore_v {J : List Bool} (hJ : J.length = 144) : ∀ (n : Nat) (l : List Int) (lo : Int) (g : List Int), (ws.length + 1 - lo).toNat < n → l ≠ [] → (∀ x ∈ l, 0 ≤ x ∧ x < ws.length) → (l.length : Int) ≤ lo → 0 ≤ lo → lo ≤ ws.length → VL J l → g.length ≤ 100 →
  ∃ g', lmore_R N n l lo (ws, ts, br_) J g (ws, ts, br_) J = some (g', (ws, ts, br_), J) ∧ g'.length ≤ 100 ∧ LnF ws.length (VL J) false l lo g g'
 | 0, l, lo, g, h, _, _, _, _, _, _, _ => by omega
 | n + 1, l, lo, g, h, hl, hb, hll, h0, h1, hV, hg => by
  have hn := hF.n
  unfold lmore_R lmore_S
  have hj : ∀ g1 : List Int, g1.length ≤ 100 → ∃ g', lmore_j1 N (lmore_R N n) l lo (ws, ts, br_) J g1 (ws, ts, br_) J = some (g', (ws, ts, br_), J) ∧ g'.length ≤ 100 ∧ LnF ws.length (VL J) true l lo g1 g' := by
   intro g1 hg1
   obtain ⟨g', e, e0, h2⟩ := lmore_l1_p hN hF hJ (self := lmore_R N n) (l := l) hl hb (by omega) (lo := lo) (fun w g2 a1 a2 a3 a4 => lmore_v hJ n (l ++ [w]) (w + 1) g2 (by omega) (by simp) (fun x hx => by
    rcases List.mem_append.1 hx with hx | hx
    ·exact hb x hx
    ·rw [List.mem_singleton] at hx; omega) (by simp; omega) (by omega) (by omega) a3 a4) hV N lo g1 (by omega) (by omega) h0 h1 hg1
   unfold lmore_j1
   rw [e]
   exact ⟨g', rfl, e0, h2⟩
  by_cases c : (g.length : Int) < (l.length : Int)
  ·rw [br_dec c, cloneo_v hl (by omega)]
   simp only [Option.bind_some]
   obtain ⟨g', e, e0, h2⟩ := hj l (by omega)
   exact ⟨g', e, e0, h2.begin hV (by rw [if_pos (by omega)])⟩
  ·rw [br_ndec c]
   obtain ⟨g', e, e0, h2⟩ := hj g hg
   exact ⟨g', e, e0, h2.begin hV (by rw [if_neg (by omega)])⟩
theorem lmore0_l1_p {J : List Bool} (hJ : J.length = 144) :
  ∀ (n : Nat) (w : Int) (g : List Int), (ws.length + 1 - w).toNat < n → 0 ≤ w → w ≤ ws.length → g.length ≤ 100 → ∃ g', lmore0_l1 N n (ws, ts, br_) J g (ws, ts, br_) J w = some (g', (ws, ts, br_), J) ∧ g'.length ≤ 100 ∧ LnF ws.length (VL J) true [] w g g'
 | 0, w, g, h, _, _, _ => by omega
 | n + 1, w, g, h, h0, h1, hg => by
  have hn := hF.n
  unfold lmore0_l1 end__S
  simp only [Option.bind_some]
  by_cases c : w < ws.length
  ·have hj : ∀ g1 : List Int, g1.length ≤ 100 → ∃ g', lmore0_j2 N (lmore0_l1 N n) (ws, ts, br_) J g1 (ws, ts, br_) J w = some (g', (ws, ts, br_), J) ∧ g'.length ≤ 100 ∧ LnF ws.length (VL J) true [] (w + 1) g1 g' := by
    intro g1 hg1
    unfold lmore0_j2
    rw [chk_eq (by omega)]
    exact lmore0_l1_p hJ n (w + 1) g1 (by omega) (by omega) (by omega) hg1
   rw [br_dec c, everyi4_v hN hJ (by omega) (fun x hx => by cases hx) (by simp)]
   simp only [Option.bind_some, List.all_nil]
   rw [br_true]
   unfold clonen_S
   simp only [Option.bind_some]
   rw [chk_eq (by omega)]
   obtain ⟨g1, e1, hg1, h1⟩ := lmore_v hN hF hJ N [w] (w + 1) g (by omega) (by simp) (fun x hx => by rw [List.mem_singleton] at hx; omega) (by simp; omega) (by omega) (by omega) (List.pairwise_singleton _ _) hg
   rw [e1]
   simp only [Option.bind_some]
   obtain ⟨g', e, e0, h2⟩ := hj g1 hg1
   exact ⟨g', e, e0, LnF.step (l := []) c h1 h2⟩
  ·rw [br_ndec c]
   exact ⟨g, rfl, hg, LnF.none (by omega)⟩
def LoneW (m : Nat) (R : Nat → Nat → Bool) (l : List Int) : Prop :=
 okC m 0 l ∧ l.Pairwise (fun a b => ¬ Jn R m a.toNat b.toNat) ∧ ∀ c, okC m 0 c → c.Pairwise (fun a b => ¬ Jn R m a.toNat b.toNat) → c.length ≤ l.length ∧ (c.length = l.length → bef c l = false)
omit hN hF in
theorem loneW_uniq {m : Nat} {R : Nat → Nat → Bool} {a b : List Int} (ha : LoneW m R a) (hb : LoneW m R b) : a = b := by
 obtain ⟨a1, a2, a3⟩ := ha
 obtain ⟨b1, b2, b3⟩ := hb
 have h1 := a3 b b1 b2
 have h2 := b3 a a1 a2
 have e : a.length = b.length := by omega
 exact bef_total e (h2.2 e) (h1.2 e.symm)
omit hN in
theorem VL_iff {J : List Bool} (hJ : Jt J (Jn (rightR ws ts br_) ws.length)) {l : List Int} (hl : okC ws.length 0 l) : VL J l ↔ l.Pairwise (fun a b => ¬ Jn (rightR ws ts br_) ws.length a.toNat b.toNat) := by
 have hn := hF.n
 have hm := okC_mem hl
 have key : ∀ a ∈ l, ∀ b ∈ l, (jb J a b = false ↔ ¬ Jn (rightR ws ts br_) ws.length a.toNat b.toNat) := by
  intro a ha b hb
  have h1 := hm a ha
  have h2 := hm b hb
  have := hJ.2 a.toNat b.toNat (by omega) (by omega)
  unfold jb
  rw [← this]
  simp
 unfold VL
 constructor
 ·intro h
  exact h.imp_of_mem (fun ha hb hp => (key _ ha _ hb).1 hp)
 ·intro h
  exact h.imp_of_mem (fun ha hb hp => (key _ ha _ hb).2 hp)
theorem lone_in : ∃ l, lone_S N ws ts br_ = some (l, 0) ∧ LoneW ws.length (rightR ws ts br_) l := by
 have hn := hF.n; have ht := hF.t
 have hc := checkT_of hF
 unfold lone_S
 rw [opened_v (by omega) (by omega) (by omega), if_pos hc]
 simp only [Option.bind_some]
 rw [br_nd (by first | trivial | rfl)]
 unfold end__S
 simp only [Option.bind_some]
 obtain ⟨J, e1, hJ⟩ := lone_l1_p hN hF (u := 0) N 0 (List.replicate 144 false) (fun _ _ => False) (by omega) (by omega) ⟨by simp, fun a b ha hb => by
  simp only [List.getD, List.getElem?_replicate]
  split <;> simp⟩
 simp only [Int.natCast_zero] at e1
 rw [e1]
 simp only [Option.bind_some]
 have hJ' : Jt J (Jn (rightR ws ts br_) ws.length) := hJ.mono fun x y _ _ => by
  unfold Jn
  constructor
  ·rintro (h | ⟨f, t, _, h⟩)
   ·exact h.elim
   ·exact ⟨f, t, h⟩
  ·rintro ⟨f, t, h⟩
   exact .inr ⟨f, t, by omega, h⟩
 unfold lmore0_S
 rw [br_ndec (by simp)]
 unfold lmore0_j1
 obtain ⟨g, e2, hg, h2⟩ := lmore0_l1_p hN hF hJ.1 N 0 [] (by omega) (by omega) (by omega) (by simp)
 rw [e2]
 simp only [Option.bind_some]
 refine ⟨g, rfl, ?_⟩
 have h3 : LnF ws.length (VL J) false [] 0 [] g := h2.begin .nil (by simp)
 obtain ⟨k1, _, k3⟩ := h3
 have hok : okC ws.length 0 g ∧ VL J g := by
  rcases k1 with rfl | ⟨_, c, c1, _, c3, c4⟩
  ·exact ⟨trivial, .nil⟩
  ·rw [List.nil_append] at c3
   subst c3
   exact ⟨c1, c4⟩
 refine ⟨hok.1, (VL_iff hF hJ' hok.1).1 hok.2, fun c hc hp => ?_⟩
 have := k3 c hc (fun h => by cases h) (by rw [List.nil_append]; exact (VL_iff hF hJ' hc).2 hp)
 rw [List.nil_append] at this
 refine ⟨this.1, fun e => ?_⟩
 by_cases d : 0 < c.length
 ·exact this.2 (by simpa using d) e
 ·have : c = [] := List.eq_nil_of_length_eq_zero (by omega)
  subst this; rfl
end
end Go.Proofs.YtfamlpbdhhikdaaGreat

namespace Go.Proofs.YtfamlpbdhhikdaaGreat
set_option linter.all false
open Go

def cntL (l : List Int) (f t : Int) : List Int := l.filter fun x => decide (f ≤ x) && decide (x < t)
theorem cntL_len (l : List Int) (f t : Int) : (cntL l f t).length ≤ l.length := List.length_filter_le _ _
theorem cnt_pair {l : List Int} {f t : Int} (h : 1 < (cntL l f t).length) : ∃ a b, [a, b].Sublist l ∧ (f ≤ a ∧ a < t) ∧ f ≤ b ∧ b < t := by
 have hs : (cntL l f t).Sublist l := List.filter_sublist
 have hm : ∀ x ∈ cntL l f t, f ≤ x ∧ x < t := fun x hx => by
  have := (List.mem_filter.1 hx).2
  simpa using this
 generalize cntL l f t = c at *
 match c, h, hs, hm with
 | [], h, _, _ => simp at h
 | [_], h, _, _ => simp at h
 | a :: b :: r, _, hs, hm =>
  refine ⟨a, b, List.Sublist.trans ?_ hs, hm a (by simp), hm b (by simp)⟩
  exact (List.nil_sublist r).cons₂ b |>.cons₂ a
theorem pair_cnt {l : List Int} {f t a b : Int} (h : [a, b].Sublist l) (ha : f ≤ a ∧ a < t) (hb : f ≤ b ∧ b < t) : 1 < (cntL l f t).length := by
 have := (h.filter fun x => decide (f ≤ x) && decide (x < t)).length_le
 have e : ([a, b].filter fun x => decide (f ≤ x) && decide (x < t)) = [a, b] := by
  simp [ha, hb]
 rw [e] at this
 exact this
theorem okC_pair {m : Int} : ∀ {l : List Int} {lo : Int}, okC m lo l → l.Pairwise (· < ·)
 | [], _, _ => .nil
 | a :: r, lo, ⟨_, h⟩ => .cons (fun b hb => by have := okC_mem h b hb; omega) (okC_pair h)
theorem alone_iff {R : Nat → Nat → Bool} {m : Nat} {l : List Int} (hl : okC m 0 l) :
  (∀ f, f < m → ∀ t, f + 1 ≤ t → t ≤ m → 1 < (cntL l f t).length → R f t = false) ↔ l.Pairwise (fun a b => ¬ Jn R m a.toNat b.toNat) := by
 have hm := okC_mem hl
 have hp : ∀ a b, [a, b].Sublist l → a < b := fun a b h => List.pairwise_iff_forall_sublist.1 (okC_pair hl) h
 rw [List.pairwise_iff_forall_sublist]
 constructor
 ·rintro h a b hab ⟨f, t, h1, h2, h3, h4, h5⟩
  have ha := hm a (hab.subset (by simp))
  have hb := hm b (hab.subset (by simp))
  have := h f (by omega) t (by omega) h4 (pair_cnt hab (by omega) (by omega))
  rw [h5] at this; cases this
 ·intro h f hf t h1 h2 hc
  obtain ⟨a, b, hab, ha, hb⟩ := cnt_pair hc
  have hlt := hp _ _ hab
  cases hR : R f t
  ·rfl
  ·exact absurd ⟨f, t, by omega, by omega, by omega, h2, hR⟩ (h hab)
section
variable {N : Nat} {ws : List Wd} {ts : List Tn} {br_ : Int}
theorem rlone_l4_p {best l : List Int} {nn f t : Int} {al : Bool} (hl : l.length ≤ 100) : ∀ (n k : Nat) (many : Int), l.length < n + k → k ≤ l.length → 0 ≤ many ∧ many ≤ k →
  rlone_l4 N n best nn l al f t many k ws ts br_ = some (best, nn, l, al, f, t, many + ((cntL (l.drop k) f t).length : Int), ws, ts, br_)
 | 0, k, many, h, _, _ => by omega
 | n + 1, k, many, h, hk, hm => by
  unfold rlone_l4
  by_cases c : k < l.length
  ·have hj : ∀ m', 0 ≤ m' ∧ m' ≤ ((k + 1 : Nat) : Int) → rlone_j1 N (rlone_l4 N n) best nn l al f t m' k ws ts br_ = some (best, nn, l, al, f, t, m' + ((cntL (l.drop (k + 1)) f t).length : Int), ws, ts, br_) := by
    intro m' hm'
    have ih := rlone_l4_p (best := best) (nn := nn) (f := f) (t := t) (al := al) hl n (k + 1) m' (by omega) (by omega) hm'
    rw [show ((k + 1 : Nat) : Int) = (k : Int) + 1 by omega] at ih
    unfold rlone_j1
    rw [chk_eq (by omega), ih]
   have g := gets c 0
   rw [br_dec (by omega), idx_eq (by omega) g, drop_cons c 0]
   unfold cntL at hj ⊢
   rw [List.filter_cons]
   by_cases d1 : f ≤ l.getD k 0
   ·rw [br_dec d1, idx_eq (by omega) g]
    by_cases d2 : l.getD k 0 < t
    ·rw [br_dec d2, chk_eq (by omega), hj _ (by omega), if_pos (by simp only [decide_eq_true d1, decide_eq_true d2]; rfl)]
     have e : ∀ X : Nat, many + 1 + (X : Int) = many + ((X + 1 : Nat) : Int) := fun X => by omega
     rw [List.length_cons, e]
    ·rw [br_ndec d2, hj _ (by omega), if_neg (by simp only [decide_eq_false d2, Bool.and_false]; simp)]
   ·rw [br_ndec d1, hj _ (by omega), if_neg (by simp only [decide_eq_false d1, Bool.false_and]; simp)]
  ·rw [br_ndec (by omega), List.drop_of_length_le (by omega)]
   simp [cntL]
theorem kind_neg (a b : Nat) : kindR ws ts br_ a b < 0 ↔ rightR ws ts br_ a b = true := by
 have := faultR_pos (ws := ws) (ts := ts) (br_ := br_) a b
 unfold kindR rightR
 cases (faultR ws ts br_ a b).2
 ·simp
 ·simp; omega
variable (hN : 110 ≤ N) (hF : TFine ws ts br_)
include hN hF
theorem rlone_l3_p {best l : List Int} {nn : Int} {f : Nat} (hl : l.length ≤ 100) : ∀ (n k : Nat) (al : Bool), ws.length + 1 < n + k → f ≤ k → k ≤ ws.length + 1 →
  ∃ al', rlone_l3 N n best nn l al f k ws ts br_ = some (best, nn, l, al', (f : Int), ws, ts, br_) ∧ (al' = true ↔ al = true ∧ ∀ t : Nat, k ≤ t → t ≤ ws.length → 1 < (cntL l f t).length → rightR ws ts br_ f t = false)
 | 0, k, al, h, _, _ => by omega
 | n + 1, k, al, h, hf, hk => by
  have hn := hF.n
  unfold rlone_l3
  by_cases c : k ≤ ws.length
  ·have hj : ∀ a1 : Bool, (a1 = true ↔ al = true ∧ (1 < (cntL l f k).length → rightR ws ts br_ f k = false)) → ∃ al', rlone_j2 N (rlone_l3 N n) best nn l a1 f k ws ts br_ = some (best, nn, l, al', (f : Int), ws, ts, br_) ∧ (al' = true ↔ al = true ∧ ∀ t : Nat, k ≤ t → t ≤ ws.length → 1 < (cntL l f t).length → rightR ws ts br_ f t = false) := by
    intro a1 ha
    obtain ⟨al', e, h2⟩ := rlone_l3_p (best := best) (nn := nn) (f := f) hl n (k + 1) a1 (by omega) (by omega) (by omega)
    rw [show ((k + 1 : Nat) : Int) = (k : Int) + 1 by omega] at e
    unfold rlone_j2
    rw [chk_eq (by omega), e]
    refine ⟨al', rfl, h2.trans ?_⟩
    rw [ha]
    constructor
    ·rintro ⟨⟨q1, q2⟩, q3⟩
     refine ⟨q1, fun t a b => ?_⟩
     by_cases e : t = k
     ·subst e; exact q2
     ·exact q3 t (by omega) b
    ·rintro ⟨q1, q2⟩
     exact ⟨⟨q1, q2 k (Nat.le_refl _) c⟩, fun t a b => q2 t (by omega) b⟩
   have hc := cntL_len l f k
   rw [br_dec (by omega)]
   have e4 := rlone_l4_p (N := N) (ws := ws) (ts := ts) (br_ := br_) (best := best) (nn := nn) (f := (f : Int)) (t := (k : Int)) (al := al) hl N 0 0 (by omega) (by omega) (by omega)
   simp only [Int.natCast_zero, List.drop_zero, Int.zero_add] at e4
   rw [e4]
   simp only [Option.bind_some]
   by_cases d : 1 < (cntL l f k).length
   ·rw [br_dec (by omega)]
    cases al
    ·rw [br_false]
     exact hj _ (by simp)
    ·rw [br_true, rfault_v hN hF hf c]
     simp only [Option.bind_some]
     by_cases d2 : rightR ws ts br_ f k = true
     ·rw [br_dec ((kind_neg f k).2 d2)]
      simpa using hj false (by simp [d, d2])
     ·rw [br_ndec (fun h => d2 ((kind_neg f k).1 h))]
      simpa using hj true (by simp [d2])
   ·rw [br_ndec (by omega)]
    exact hj _ (by simp [d])
  ·rw [br_ndec (by omega)]
   exact ⟨al, rfl, by simp only [iff_self_and]; intro _ t h1 h2; omega⟩
theorem rlone_l2_p {best l : List Int} {nn : Int} (hl : l.length ≤ 100) : ∀ (n k : Nat) (al : Bool), ws.length < n + k → k ≤ ws.length →
  ∃ al', rlone_l2 N n best nn l al k ws ts br_ = some (best, nn, l, al', ws, ts, br_) ∧ (al' = true ↔ al = true ∧ ∀ f : Nat, k ≤ f → f < ws.length → ∀ t : Nat, f + 1 ≤ t → t ≤ ws.length → 1 < (cntL l f t).length → rightR ws ts br_ f t = false)
 | 0, k, al, h, _ => by omega
 | n + 1, k, al, h, hk => by
  have hn := hF.n
  unfold rlone_l2
  by_cases c : k < ws.length
  ·obtain ⟨a1, e1, h1⟩ := rlone_l3_p hN hF (best := best) (nn := nn) (f := k) hl N (k + 1) al (by omega) (by omega) (by omega)
   obtain ⟨a2, e2, h2⟩ := rlone_l2_p (best := best) (nn := nn) hl n (k + 1) a1 (by omega) (by omega)
   rw [show ((k + 1 : Nat) : Int) = (k : Int) + 1 by omega] at e1 e2
   rw [br_dec (by omega), chk_eq (by omega), e1]
   simp only [Option.bind_some]
   rw [chk_eq (by omega), e2]
   refine ⟨a2, rfl, h2.trans ?_⟩
   rw [h1]
   constructor
   ·rintro ⟨⟨q1, q2⟩, q3⟩
    refine ⟨q1, fun f a b => ?_⟩
    by_cases e : f = k
    ·subst e; exact q2
    ·exact q3 f (by omega) b
   ·rintro ⟨q1, q2⟩
    exact ⟨⟨q1, q2 k (Nat.le_refl _) c⟩, fun f a b => q2 f (by omega) b⟩
  ·rw [br_ndec (by omega)]
   exact ⟨al, rfl, by simp only [iff_self_and]; intro _ t h1 h2; omega⟩
omit hN hF
def betr (a b : List Int) : Prop := b.length < a.length ∨ a.length = b.length ∧ bef a b = true
theorem betr_trans {a b c : List Int} : betr a b → betr b c → betr a c := by
 rintro (h | ⟨h, h2⟩) (g | ⟨g, g2⟩)
 ·exact .inl (by omega)
 ·exact .inl (by omega)
 ·exact .inl (by omega)
 ·exact .inr ⟨by omega, bef_trans h2 g2⟩
theorem betr_self (l : List Int) : ¬ betr l l := by
 rintro (h | ⟨_, h⟩)
 ·omega
 ·rw [bef_self] at h; cases h
def BestL (m : Nat) (R : Nat → Nat → Bool) (k : Nat) (best : List Int) : Prop :=
 (okC m 0 best ∧ best.Pairwise (fun a b => ¬ Jn R m a.toNat b.toNat)) ∧ ∀ i, i < k → (lst m 0 i).Pairwise (fun a b => ¬ Jn R m a.toNat b.toNat) → ¬ betr (lst m 0 i) best
theorem BestL.skip {m : Nat} {R : Nat → Nat → Bool} {k : Nat} {best : List Int} (h : BestL m R k best) (hp : (lst m 0 k).Pairwise (fun a b => ¬ Jn R m a.toNat b.toNat) → ¬ betr (lst m 0 k) best) : BestL m R (k + 1) best :=
 ⟨h.1, fun i a b => by
  by_cases e : i = k
  ·rw [e] at b ⊢; exact hp b
  ·exact h.2 i (by omega) b⟩
theorem BestL.take {m : Nat} {R : Nat → Nat → Bool} {k : Nat} {best : List Int} (h : BestL m R k best) (hp : (lst m 0 k).Pairwise (fun a b => ¬ Jn R m a.toNat b.toNat)) (hb : betr (lst m 0 k) best) : BestL m R (k + 1) (lst m 0 k) := by
 have ho := lst_ok m 0 k
 rw [Int.zero_add] at ho
 refine ⟨⟨ho, hp⟩, fun i a b c => ?_⟩
 by_cases e : i = k
 ·rw [e] at c; exact betr_self _ c
 ·exact h.2 i (by omega) b (betr_trans c hb)
theorem BestL.done {m : Nat} {R : Nat → Nat → Bool} {best : List Int} (h : BestL m R (2 ^ m) best) : LoneW m R best := by
 refine ⟨h.1.1, h.1.2, fun c hc hp => ?_⟩
 obtain ⟨n, h1, rfl⟩ := lst_all m 0 c (by rw [Int.zero_add]; exact hc)
 have := h.2 n h1 hp
 unfold betr at this
 refine ⟨?_, fun e => ?_⟩
 ·rcases Nat.lt_or_ge best.length (lst m 0 n).length with d | d
  ·exact absurd (.inl d) this
  ·exact d
 ·cases hb : bef (lst m 0 n) best
  ·rfl
  ·exact absurd (.inr ⟨e, hb⟩) this
include hN hF
theorem rlone_l1_p : ∀ (n k : Nat) (best : List Int), 2 ^ ws.length < n + k → k ≤ 2 ^ ws.length → BestL ws.length (rightR ws ts br_) k best → best.length ≤ 20 →
  ∃ b, rlone_l1 N n best k ws ts br_ = some b ∧ BestL ws.length (rightR ws ts br_) (2 ^ ws.length) b
 | 0, k, best, h, _, _, _ => by omega
 | n + 1, k, best, h, hk2, hb, hbl => by
  have hn := hF.n
  have hp2 : 2 ^ ws.length ≤ 2 ^ 12 := Nat.pow_le_pow_right (by decide) (by omega)
  unfold rlone_l1
  rw [lists_v (by omega) hN]
  simp only [Option.bind_some]
  by_cases c : k < 2 ^ ws.length
  ·have hll := lst_len ws.length 0 k
   have hlo := lst_ok ws.length 0 k
   rw [Int.zero_add] at hlo
   have hj : ∀ best' : List Int, BestL ws.length (rightR ws ts br_) (k + 1) best' → best'.length ≤ 20 → ∃ b, rlone_j3 N (rlone_l1 N n) best' k ws ts br_ = some b ∧ BestL ws.length (rightR ws ts br_) (2 ^ ws.length) b := by
    intro best' h1 h2
    obtain ⟨b, e, hb⟩ := rlone_l1_p n (k + 1) best' (by omega) (by omega) h1 h2
    rw [show ((k + 1 : Nat) : Int) = (k : Int) + 1 by omega] at e
    unfold rlone_j3
    rw [chk_eq (by omega), e]
    exact ⟨b, rfl, hb⟩
   obtain ⟨al, e1, ha⟩ := rlone_l2_p hN hF (best := best) (l := lst ws.length 0 k) (nn := (k : Int)) (by omega) N 0 true (by omega) (by omega)
   simp only [Int.natCast_zero, true_and] at e1 ha
   have ha' : al = true ↔ (lst ws.length 0 k).Pairwise (fun a b => ¬ Jn (rightR ws ts br_) ws.length a.toNat b.toNat) := by
    rw [ha, ← alone_iff hlo]
    constructor
    ·exact fun h f a t b c => h f (by omega) a t b c
    ·exact fun h f _ a t b c => h f a t b c
   rw [br_dec (by omega), list_v c (by omega) (by omega)]
   simp only [Option.bind_some]
   rw [e1]
   simp only [Option.bind_some]
   cases hal : al
   ·rw [br_false]
    refine hj best (hb.skip fun h => ?_) hbl
    rw [ha'.2 h] at hal; cases hal
   have hp := ha'.1 hal
   rw [br_true]
   by_cases d2 : (best.length : Int) < ((lst ws.length 0 k).length : Int)
   ·rw [br_dec d2]
    exact hj _ (hb.take hp (.inl (by omega))) (by omega)
   rw [br_ndec d2]
   by_cases d3 : ((lst ws.length 0 k).length : Int) = (best.length : Int)
   ·rw [br_dec d3, before_v (by omega) (by omega) (by omega)]
    simp only [Option.bind_some]
    cases hbf : bef (lst ws.length 0 k) best
    ·rw [br_false]
     refine hj _ (hb.skip ?_) hbl
     rintro _ (h | ⟨_, h⟩)
     ·omega
     ·rw [hbf] at h; cases h
    ·rw [br_true]
     exact hj _ (hb.take hp (.inr ⟨by omega, hbf⟩)) (by omega)
   ·rw [br_ndec d3]
    refine hj _ (hb.skip ?_) hbl
    rintro _ (h | ⟨h, _⟩) <;> omega
  ·obtain rfl : k = 2 ^ ws.length := by omega
   rw [br_ndec (by omega)]
   exact ⟨best, rfl, hb⟩
theorem rlone_v (hp : 2 ^ ws.length < N) : ∃ l, rlone_S N ws ts br_ = some l ∧ LoneW ws.length (rightR ws ts br_) l := by
 obtain ⟨b, e, hb⟩ := rlone_l1_p hN hF N 0 [] (by omega) (Nat.zero_le _) ⟨⟨trivial, .nil⟩, fun i h => by omega⟩ (by simp)
 simp only [Int.natCast_zero] at e
 unfold rlone_S
 rw [e]
 exact ⟨b, rfl, hb.done⟩
omit hN hF in
theorem rshows_l1_p {l : List Int} (hl : l.length ≤ 1000000) : ∀ (n k : Nat), l.length < n + k → k ≤ l.length →
  ∃ r, rshows_l1 N n l k ws ts br_ = some r ∧ match r with
   | .inl _ => (l.drop k).all in99 = false
   | .inr x => x = (l, ws, ts, br_) ∧ (l.drop k).all in99 = true
 | 0, k, h, _ => by omega
 | n + 1, k, h, hk => by
  unfold rshows_l1
  by_cases c : k < l.length
  ·have g := gets c 0
   rw [br_dec (by omega), idx_eq (by omega) g, drop_cons c 0, off_v]
   simp only [Option.bind_some, List.all_cons]
   cases d : in99 (l.getD k 0)
   ·rw [show decide (0 ≤ l.getD k 0 ∧ l.getD k 0 ≤ 99) = in99 (l.getD k 0) from rfl, d, Bool.not_false, br_true]
    exact ⟨_, rfl, by simp⟩
   ·rw [show decide (0 ≤ l.getD k 0 ∧ l.getD k 0 ≤ 99) = in99 (l.getD k 0) from rfl, d, Bool.not_true, br_false]
    obtain ⟨r, e, hr⟩ := rshows_l1_p hl n (k + 1) (by omega) (by omega)
    rw [show ((k + 1 : Nat) : Int) = (k : Int) + 1 by omega] at e
    rw [chk_eq (by omega), e]
    refine ⟨r, rfl, ?_⟩
    cases r <;> simpa using hr
  ·rw [br_ndec (by omega), List.drop_of_length_le (by omega)]
   exact ⟨_, rfl, rfl, rfl⟩
theorem rshows_l3_p {l : List Int} (hl : l.length = ws.length + 1) (h99 : l.all in99 = true) {f : Nat} (hf : f < ws.length) : ∀ (n k : Nat) (ho : Bool), ws.length + 1 < n + k → f + 1 ≤ k → k ≤ ws.length + 1 →
  ∃ ho', rshows_l3 N n l ho f k ws ts br_ = some (l, ho', (f : Int), ws, ts, br_) ∧ (ho' = true ↔ ho = true ∧ ∀ t : Nat, k ≤ t → t ≤ ws.length → rightR ws ts br_ f t = true → l.getD t 0 ≤ l.getD f 0 + 1)
 | 0, k, ho, h, _, _ => by omega
 | n + 1, k, ho, h, hfk, hk => by
  have hn := hF.n
  unfold rshows_l3
  by_cases c : k ≤ ws.length
  ·have hj : ∀ a1 : Bool, (a1 = true ↔ ho = true ∧ (rightR ws ts br_ f k = true → l.getD k 0 ≤ l.getD f 0 + 1)) → ∃ ho', rshows_j1 N (rshows_l3 N n) l a1 f k ws ts br_ = some (l, ho', (f : Int), ws, ts, br_) ∧ (ho' = true ↔ ho = true ∧ ∀ t : Nat, k ≤ t → t ≤ ws.length → rightR ws ts br_ f t = true → l.getD t 0 ≤ l.getD f 0 + 1) := by
    intro a1 ha
    obtain ⟨al', e, h2⟩ := rshows_l3_p hl h99 hf n (k + 1) a1 (by omega) (by omega) (by omega)
    rw [show ((k + 1 : Nat) : Int) = (k : Int) + 1 by omega] at e
    unfold rshows_j1
    rw [chk_eq (by omega), e]
    refine ⟨al', rfl, h2.trans ?_⟩
    rw [ha]
    constructor
    ·rintro ⟨⟨q1, q2⟩, q3⟩
     refine ⟨q1, fun t a b => ?_⟩
     by_cases e : t = k
     ·subst e; exact q2
     ·exact q3 t (by omega) b
    ·rintro ⟨q1, q2⟩
     exact ⟨⟨q1, q2 k (Nat.le_refl _) c⟩, fun t a b => q2 t (by omega) b⟩
   have hb : ∀ i, i < l.length → 0 ≤ l.getD i 0 ∧ l.getD i 0 ≤ 99 := fun i hi => by
    have := List.all_eq_true.1 h99 _ (getD_mem (d := 0) hi)
    simpa [in99] using this
   have b1 := hb f (by omega)
   have b2 := hb k (by omega)
   rw [br_dec (by omega), rfault_v hN hF (by omega) c]
   simp only [Option.bind_some]
   by_cases d2 : rightR ws ts br_ f k = true
   ·rw [br_dec ((kind_neg f k).2 d2), idx_eq (by omega) (gets (l := l) (k := k) (by omega) 0), idx_eq (by omega) (gets (l := l) (k := f) (by omega) 0), chk_eq (by omega)]
    by_cases d3 : l.getD f 0 + 1 < l.getD k 0
    ·rw [br_dec d3]
     exact hj _ (by simp only [Bool.false_eq_true, false_iff]; rintro ⟨_, h⟩; have := h d2; omega)
    ·rw [br_ndec d3]
     exact hj _ (by simp only [iff_self_and]; intro _ _; omega)
   ·rw [br_ndec (fun h => d2 ((kind_neg f k).1 h))]
    exact hj _ (by simp [d2])
  ·rw [br_ndec (by omega)]
   exact ⟨ho, rfl, by simp only [iff_self_and]; intro _ t h1 h2; omega⟩
theorem rshows_l2_p {l : List Int} (hl : l.length = ws.length + 1) (h99 : l.all in99 = true) : ∀ (n k : Nat) (ho : Bool), ws.length < n + k → k ≤ ws.length →
  ∃ ho', rshows_l2 N n l ho k ws ts br_ = some (l, ho', ws, ts, br_) ∧ (ho' = true ↔ ho = true ∧ ∀ f : Nat, k ≤ f → f < ws.length → ∀ t : Nat, f + 1 ≤ t → t ≤ ws.length → rightR ws ts br_ f t = true → l.getD t 0 ≤ l.getD f 0 + 1)
 | 0, k, ho, h, _ => by omega
 | n + 1, k, ho, h, hk => by
  have hn := hF.n
  unfold rshows_l2
  by_cases c : k < ws.length
  ·obtain ⟨a1, e1, h1⟩ := rshows_l3_p hN hF hl h99 c N (k + 1) ho (by omega) (by omega) (by omega)
   obtain ⟨a2, e2, h2⟩ := rshows_l2_p hl h99 n (k + 1) a1 (by omega) (by omega)
   rw [show ((k + 1 : Nat) : Int) = (k : Int) + 1 by omega] at e1 e2
   rw [br_dec (by omega), chk_eq (by omega), e1]
   simp only [Option.bind_some]
   rw [chk_eq (by omega), e2]
   refine ⟨a2, rfl, h2.trans ?_⟩
   rw [h1]
   constructor
   ·rintro ⟨⟨q1, q2⟩, q3⟩
    refine ⟨q1, fun f a b => ?_⟩
    by_cases e : f = k
    ·subst e; exact q2
    ·exact q3 f (by omega) b
   ·rintro ⟨q1, q2⟩
    exact ⟨⟨q1, q2 k (Nat.le_refl _) c⟩, fun f a b => q2 f (by omega) b⟩
  ·rw [br_ndec (by omega)]
   exact ⟨ho, rfl, by simp only [iff_self_and]; intro _ t h1 h2; omega⟩
omit hF in
theorem rshows_v (hw : ws.length ≤ 1000000) (ht : ts.length ≤ 1000000) (l : List Int) : rshows_S N ws ts br_ l = some (showsR ws ts br_ l) := by
 unfold rshows_S showsR
 rw [rcheck_v (by omega) hw ht]
 simp only [Option.bind_some]
 by_cases c : checkT ws ts br_ = 0
 rotate_left
 ·rw [br_nnd c, if_pos c]
 have hF := tfine_of c
 have hn := hF.n; have hn0 := hF.n0
 rw [br_nd c, chk_eq (by omega), if_neg (by simpa using c)]
 by_cases c2 : (l.length : Int) = (ws.length : Int) + 1
 rotate_left
 ·rw [br_nnd c2, if_pos c2]
 rw [br_nd c2, if_neg (by simpa using c2)]
 obtain ⟨r, e, hr⟩ := rshows_l1_p (N := N) (ws := ws) (ts := ts) (br_ := br_) (l := l) (by omega) N 0 (by omega) (by omega)
 simp only [Int.natCast_zero] at e
 rw [e]
 simp only [Option.bind_some]
 cases r with
 | inl u =>
  simp only [List.drop_zero] at hr
  rw [if_pos hr]
 | inr x =>
  obtain ⟨rfl, h99⟩ := hr
  simp only [List.drop_zero] at h99
  have g0 : l[(0 : Int).toNat]? = some (l.getD 0 0) := by simpa using gets (l := l) (k := 0) (by omega) 0
  obtain ⟨ho, e2, h2⟩ := rshows_l2_p hN hF (l := l) (by omega) h99 N 0 (decide (l.getD 0 0 = 0)) (by omega) (by omega)
  simp only [Int.natCast_zero, decide_eq_true_eq] at e2 h2
  have hh : ho = holdB (rightR ws ts br_) ws.length l := by
   rw [Bool.eq_iff_iff, h2, holdB_iff]
   constructor
   ·rintro ⟨q1, q2⟩
    exact ⟨q1, fun p q a b => q2 p (by omega) (by omega) q (by omega) b⟩
   ·rintro ⟨q1, q2⟩
    exact ⟨q1, fun f _ _ t a b => q2 f t (by omega) b⟩
  rw [if_neg (by simp [h99])]
  dsimp only
  rw [idx_eq (by omega) g0, e2]
  simp only [Option.bind_some]
  rw [hh]
  cases holdB (rightR ws ts br_) ws.length l
  ·rfl
  ·rw [Bool.not_true, br_false, idx_eq (by omega) (gets (l := l) (k := ws.length) (by omega) 0)]; rfl
end
theorem lone_v {N : Nat} (hN : 110 ≤ N) {ws : List Wd} {ts : List Tn} {br_ : Int} (hw : ws.length ≤ 1000000) (ht : ts.length ≤ 1000000) : ∃ l, lone_S N ws ts br_ = some (l, checkT ws ts br_) ∧ if checkT ws ts br_ = 0 then LoneW ws.length (rightR ws ts br_) l else l = [] := by
 by_cases c : checkT ws ts br_ = 0
 ·obtain ⟨l, e, h⟩ := lone_in hN (tfine_of c)
  exact ⟨l, by rw [e, c], by rw [if_pos c]; exact h⟩
 ·refine ⟨[], ?_, by rw [if_neg c]⟩
  unfold lone_S
  rw [opened_v (by omega) hw ht, if_neg c]
  simp only [Option.bind_some]
  rw [br_nnd c]
theorem marks_v {N : Nat} (hN : 110 ≤ N) {ws : List Wd} {ts : List Tn} {br_ : Int} (hw : ws.length ≤ 1000000) (ht : ts.length ≤ 1000000) (c : checkT ws ts br_ ≠ 0) : marks_S N ws ts br_ = some ([], checkT ws ts br_) := by
 unfold marks_S
 rw [opened_v (by omega) hw ht, if_neg c]
 simp only [Option.bind_some]
 rw [br_nnd c]
theorem tmarks_true {ws : List Wd} {ts : List Tn} {br_ : Int} {marks : List Int} (h0 : Ty.inB TextT (ws, ts, br_)) (h1 : Ty.inB (.sl (.int .i64)) marks) : tmarks_S 1100 ws ts br_ marks = some true := by
 unfold tmarks_S
 have aw : ((awake_S 1100).bind fun x => some x) = some true := by rw [awake_v]; rfl
 rcases great_v (N := 1100) (ws := ws) (ts := ts) (br_ := br_) 8 with e | ⟨e, hw, ht, h8⟩ <;> rw [e] <;> simp only [Option.bind_some]
 ·rw [br_true]; exact aw
 rw [br_false]
 by_cases hm : (30 : Int) < marks.length
 ·rw [br_dec hm]; exact aw
 rw [br_ndec hm, copyx_v (by omega) (by omega)]
 simp only [Option.bind_some]
 rw [theirs_v (by omega) (by omega) (by omega) (by omega)]
 simp only [Option.bind_some]
 rw [copyi_v (by omega)]
 simp only [Option.bind_some]
 rw [shows_v (by omega) (by omega) (by omega), rshows_v (by omega) (by omega) (by omega)]
 simp only [Option.bind_some]
 rw [br_nd (by first | trivial | rfl), br_nd (by first | trivial | rfl)]
 have sm : same_S 1100 ws ts br_ ws ts br_ = some true := same_v (by omega) (by omega) (by omega) (by omega)
 obtain ⟨lone, el, hl⟩ := lone_v (N := 1100) (by omega) (ws := ws) (ts := ts) (br_ := br_) (by omega) (by omega)
 have j1 : tmarks_j1 1100 marks marks ws ts br_ ws ts br_ = some true := by
  unfold tmarks_j1
  rw [sm]
  simp only [Option.bind_some]
  rw [br_true, likei_v (by omega) (by omega)]
  simp only [Option.bind_some]
  rw [br_true]; exact aw
 by_cases c : checkT ws ts br_ = 0
 rotate_left
 ·rw [if_neg c] at hl
  subst hl
  rw [marks_v (by omega) (by omega) (by omega) c, el, rcheck_v (by omega) (by omega) (by omega)]
  simp only [Option.bind_some]
  rw [br_nnd c, br_dec trivial, br_dec trivial]
  simp only [List.length_nil, Int.natCast_zero, Int.add_zero]
  rw [chk_eq (by omega), br_dec (by first | trivial | rfl), sm]
  simp only [Option.bind_some]
  rw [br_true]; exact aw
 have hF := tfine_of c
 have hn := hF.n; have hn0 := hF.n0
 have hm8 : ws.length ≤ 8 := by omega
 rw [if_pos c] at hl
 have hp2 : 2 ^ ws.length ≤ 2 ^ 8 := Nat.pow_le_pow_right (by decide) hm8
 obtain ⟨l2, er, hl2⟩ := rlone_v (N := 1100) (by omega) hF (by omega)
 obtain rfl : lone = l2 := loneW_uniq hl hl2
 have hll : lone.length ≤ 1000 := by
  by_cases e : lone = []
  ·subst e; simp
  ·have := okC_len hl.1 e; omega
 have hlen := goodsT_len (N := 1100) hF (by omega) (by omega)
 have hmem := @goodsT_mem 1100 ws ts br_ hF (by omega) (by omega)
 obtain ⟨M, emk, hMk, hM0, hfix, hLow, hdist⟩ := marks_in (N := 1100) (by omega) hF
 have hMl := hMk.len
 rw [el, rcheck_v (by omega) (by omega) (by omega), er]
 rw [rright_v (by omega) c (by omega)]
 simp only [Option.bind_some]
 have lk : likei_S 1100 lone lone = some true := likei_v (by omega) (by omega)
 rcases rfewest_v (N := 1100) (l := goodsT ws ts br_ 0) (by omega) (fun x hx => (hmem hx).2.2.1) (by omega) with ⟨g0, ew⟩ | ⟨z, ew, ⟨x, hx, rfl⟩, hz⟩
 ·have hno : ∀ l, goodB (rightR ws ts br_) ws.length 0 l = false := fun l => by
   cases hg : goodB (rightR ws ts br_) ws.length 0 l
   ·rfl
   ·have := (mem_goodsL (R := rightR ws ts br_) (by omega) hF.n).2 hg
    rw [show goodsL (rightR ws ts br_) ws.length 0 = [] from g0] at this; cases this
  have h9 : M.getD ws.length 0 = 99 := by
   rcases hdist _ (Nat.le_refl _) with ⟨h, _⟩ | h
   ·exact h
   ·obtain ⟨l', g1, _⟩ := h.ex
    rw [hno l'] at g1; cases g1
  rw [emk, if_pos h9]
  simp only [Option.bind_some]
  rw [br_nd c, br_nd c, lk]
  simp only [Option.bind_some]
  rw [Bool.not_true, br_false, ew]
  simp only [Option.bind_some]
  rw [br_nd (by first | trivial | rfl), br_nnd (by decide), br_ndec (by simp), br_ndec (by decide)]
  exact j1
 ·have hg := (mem_goodsL (R := rightR ws ts br_) (by omega) hF.n).1 hx
  have hmin : M.getD ws.length 0 = x.length := by
   rcases hdist _ (Nat.le_refl _) with ⟨_, h⟩ | h
   ·rw [h x] at hg; cases hg
   ·obtain ⟨l', g1, g2⟩ := h.ex
    have := h.le x hg
    have := hz l' ((mem_goodsL (R := rightR ws ts br_) (by omega) hF.n).2 g1)
    omega
  have hxl := good_len hg
  rw [emk, if_neg (by omega)]
  simp only [Option.bind_some]
  rw [br_nd c, br_nd c, lk]
  simp only [Option.bind_some]
  rw [Bool.not_true, br_false, ew]
  simp only [Option.bind_some]
  have hgt : ∀ q, q ≤ ws.length → (M.take (ws.length + 1)).getD q 0 = M.getD q 0 := fun q hq => by
   simp [List.getD, List.getElem?_take, show q < ws.length + 1 by omega]
  have esh : rshows_S 1100 ws ts br_ (M.take (ws.length + 1)) = some ((x.length : Int), 0) := by
   rw [rshows_v (by omega) (by omega) (by omega)]
   unfold showsR
   rw [if_neg (by simpa using c), if_neg (by simp; omega), if_neg, if_pos, hgt _ (Nat.le_refl _), hmin]
   ·rw [holdB_iff, hgt 0 (by omega)]
    refine ⟨hM0, fun p q a b r => ?_⟩
    rw [hgt q b, hgt p (by omega)]
    exact hLow.holds p q a b r
   ·simp only [Bool.not_eq_false, List.all_eq_true]
    intro x hx
    obtain ⟨i, hi, rfl⟩ := List.getElem_of_mem (List.mem_of_mem_take hx)
    have := hMk.bd i
    simp [List.getD, hi] at this
    simpa [in99] using this
  rw [br_nd (by first | trivial | rfl), br_nd (by first | trivial | rfl), br_dec (by first | trivial | rfl), esh]
  simp only [Option.bind_some]
  rw [br_nd (by first | trivial | rfl), br_nd (by first | trivial | rfl)]
  exact j1
end Go.Proofs.YtfamlpbdhhikdaaGreat

namespace Go.Proofs.YtfamlpbdhhikdaaGreat
set_option linter.all false
open Go
theorem SpecOK.weak {R : Type} {f : FuncId} {ins : StSh} {outs : List StSh} {F F2 : ins.den → Option R} {g : {Y : Type} → (altD outs → Y) → R → Y} (h : SpecOK Tryz.prog (mkS f ins outs F g)) (hw : ∀ p r, F2 p = some r → F p = some r) : SpecOK Tryz.prog (mkS f ins outs F2 g) := by
 refine ⟨fun Y p κ => ?_, h.call, fun p r hr => ?_⟩
 ·show (F2 p).bind (g κ) = ((F2 p).bind (g some)).bind κ
  cases e : F2 p with
  | none => rfl
  | some x =>
   have := h.nat Y p κ
   rw [show (mkS f ins outs F g).run p κ = (F p).bind (g κ) from rfl, show (mkS f ins outs F g).run p some = (F p).bind (g some) from rfl, hw p x e] at this
   exact this
 ·refine h.fn p r ?_
  have hr' : (F2 p).bind (g some) = some r := hr
  show (F p).bind (g some) = some r
  cases e : F2 p with
  | none => rw [e] at hr'; cases hr'
  | some x => rw [hw p x e]; rw [e] at hr'; exact hr'
theorem mkS_run {R : Type} {f : FuncId} {ins : StSh} {outs : List StSh} {F : ins.den → Option R} {g : {Y : Type} → (altD outs → Y) → R → Y} {p : ins.den} {r : R} (h : F p = some r) : (mkS f ins outs F g).run p some = g some r := by
 show (F p).bind _ = _
 rw [h]; rfl
def Ty.inQ : (t : Ty) → t.den → Bool
 | .int .i64, n => decide (-9223372036854775808 ≤ n ∧ n ≤ 9223372036854775807)
 | .int _, _ => false
 | .bool, _ => true
 | .pair a b, x => a.inQ x.1 && b.inQ x.2
 | .sl a, l => decide (l.length ≤ 9223372036854775807) && l.all a.inQ
 | .ptr a, x => a.inQ x
theorem Ty.inQ_ok : ∀ {t : Ty} {x : t.den}, t.inQ x = true → t.inB x
 | .int k, n, h => by
  cases k <;> simp only [Ty.inQ, Bool.false_eq_true, decide_eq_true_eq] at h
  exact inR_i64.2 h
 | .bool, _, _ => trivial
 | .pair a b, x, h => by
  simp only [Ty.inQ, Bool.and_eq_true] at h
  exact ⟨Ty.inQ_ok h.1, Ty.inQ_ok h.2⟩
 | .sl a, l, h => by
  simp only [Ty.inQ, Bool.and_eq_true, decide_eq_true_eq] at h
  exact ⟨h.1, fun x hx => Ty.inQ_ok (List.all_eq_true.1 h.2 x hx)⟩
 | .ptr a, x, h => Ty.inQ_ok (t := a) (by simpa only [Ty.inQ] using h)
theorem inQ_and {a b : Bool} {o : Option Bool} {r : Bool} (h : grd (a && b) o = some r) : a = true ∧ grd b o = some r := by
 obtain ⟨h1, h2⟩ := grd_some h
 simp only [Bool.and_eq_true] at h1
 exact ⟨h1.1, by rw [h1.2]; exact h2⟩
end Go.Proofs.YtfamlpbdhhikdaaGreat

namespace Go.Proofs.YtfamlpbdhhikdaaGreat
set_option linter.all false
open Go

def tpartsG_S (N : Nat) (a0 : List Qe) (a1 : List Qf) (a2 : Int) (a3 : Int) (a4 : Int) (a5 : List Int) : Option Bool := grd (TextT.inQ (a0, a1, a2) && ((.pair (.int .i64) (.int .i64) : Ty).inQ (a3, a4) && ((.sl (.int .i64) : Ty).inQ a5))) (some true)
noncomputable def sp_tpartsG (N : Nat) : Spec := mkS 5 ⟨[.agg [.sl Qd, .sl Qc, .i .i64], .agg [.i .i64, .i .i64], .sl (.int .i64)], []⟩ [⟨[.b], []⟩] (fun p => tpartsG_S N p.1.1.1 p.1.1.2.1 p.1.1.2.2.1 p.1.2.1.1 p.1.2.1.2.1 p.1.2.2.1) (fun k r => k ((r, ()), ()))
theorem sp_tpartsG_ok (N : Nat) : SpecOK Tryz.prog (sp_tpartsG N) := SpecOK.weak (sp_tparts_ok 1100) fun p r h => by
 obtain ⟨q, h2⟩ := grd_some h
 cases h2
 simp only [Bool.and_eq_true] at q
 exact tparts_true (Ty.inQ_ok q.1) (Ty.inQ_ok q.2.1) (Ty.inQ_ok q.2.2)
def tmarksG_S (N : Nat) (a0 : List Qe) (a1 : List Qf) (a2 : Int) (a3 : List Int) : Option Bool := grd (TextT.inQ (a0, a1, a2) && ((.sl (.int .i64) : Ty).inQ a3)) (some true)
noncomputable def sp_tmarksG (N : Nat) : Spec := mkS 6 ⟨[.agg [.sl Qd, .sl Qc, .i .i64], .sl (.int .i64)], []⟩ [⟨[.b], []⟩] (fun p => tmarksG_S N p.1.1.1 p.1.1.2.1 p.1.1.2.2.1 p.1.2.1) (fun k r => k ((r, ()), ()))
theorem sp_tmarksG_ok (N : Nat) : SpecOK Tryz.prog (sp_tmarksG N) := SpecOK.weak (sp_tmarks_ok 1100) fun p r h => by
 obtain ⟨q, h2⟩ := grd_some h
 cases h2
 simp only [Bool.and_eq_true] at q
 exact tmarks_true (Ty.inQ_ok q.1) (Ty.inQ_ok q.2)
def tastrayG_S (N : Nat) (a0 : List Qe) (a1 : List Qf) (a2 : Int) (a3 : List Int) : Option Bool := grd (TextT.inQ (a0, a1, a2) && ((.sl (.int .i64) : Ty).inQ a3)) (some true)
noncomputable def sp_tastrayG (N : Nat) : Spec := mkS 7 ⟨[.agg [.sl Qd, .sl Qc, .i .i64], .sl (.int .i64)], []⟩ [⟨[.b], []⟩] (fun p => tastrayG_S N p.1.1.1 p.1.1.2.1 p.1.1.2.2.1 p.1.2.1) (fun k r => k ((r, ()), ()))
theorem sp_tastrayG_ok (N : Nat) : SpecOK Tryz.prog (sp_tastrayG N) := SpecOK.weak (sp_tastray_ok 1100) fun p r h => by
 obtain ⟨q, h2⟩ := grd_some h
 cases h2
 simp only [Bool.and_eq_true] at q
 exact tastray_true (Ty.inQ_ok q.1) (Ty.inQ_ok q.2)
def tshorterG_S (N : Nat) (a0 : List Qe) (a1 : List Qf) (a2 : Int) (a3 : List Int) (a4 : Int) : Option Bool := grd (TextT.inQ (a0, a1, a2) && ((.sl (.int .i64) : Ty).inQ a3 && ((.int .i64 : Ty).inQ a4))) (some true)
noncomputable def sp_tshorterG (N : Nat) : Spec := mkS 8 ⟨[.agg [.sl Qd, .sl Qc, .i .i64], .sl (.int .i64), .i .i64], []⟩ [⟨[.b], []⟩] (fun p => tshorterG_S N p.1.1.1 p.1.1.2.1 p.1.1.2.2.1 p.1.2.1 p.1.2.2.1) (fun k r => k ((r, ()), ()))
theorem sp_tshorterG_ok (N : Nat) : SpecOK Tryz.prog (sp_tshorterG N) := SpecOK.weak (sp_tshorter_ok 1100) fun p r h => by
 obtain ⟨q, h2⟩ := grd_some h
 cases h2
 simp only [Bool.and_eq_true] at q
 exact tshorter_true (Ty.inQ_ok q.1) (Ty.inQ_ok q.2.1) (Ty.inQ_ok q.2.2)
def tleastG_S (N : Nat) (a0 : List Qe) (a1 : List Qf) (a2 : Int) (a3 : Int) : Option Bool := grd (TextT.inQ (a0, a1, a2) && ((.int .i64 : Ty).inQ a3)) (some true)
noncomputable def sp_tleastG (N : Nat) : Spec := mkS 9 ⟨[.agg [.sl Qd, .sl Qc, .i .i64], .i .i64], []⟩ [⟨[.b], []⟩] (fun p => tleastG_S N p.1.1.1 p.1.1.2.1 p.1.1.2.2.1 p.1.2.1) (fun k r => k ((r, ()), ()))
theorem sp_tleastG_ok (N : Nat) : SpecOK Tryz.prog (sp_tleastG N) := SpecOK.weak (sp_tleast_ok 1100) fun p r h => by
 obtain ⟨q, h2⟩ := grd_some h
 cases h2
 simp only [Bool.and_eq_true] at q
 exact tleast_true (Ty.inQ_ok q.1) (Ty.inQ_ok q.2)
def tfewestG_S (N : Nat) (a0 : List Qe) (a1 : List Qf) (a2 : Int) : Option Bool := grd (TextT.inQ (a0, a1, a2)) (some true)
noncomputable def sp_tfewestG (N : Nat) : Spec := mkS 10 ⟨[.agg [.sl Qd, .sl Qc, .i .i64]], []⟩ [⟨[.b], []⟩] (fun p => tfewestG_S N p.1.1.1 p.1.1.2.1 p.1.1.2.2.1) (fun k r => k ((r, ()), ()))
theorem sp_tfewestG_ok (N : Nat) : SpecOK Tryz.prog (sp_tfewestG N) := SpecOK.weak (sp_tfewest_ok 1100) fun p r h => by
 obtain ⟨q, h2⟩ := grd_some h
 cases h2
 simp only [Bool.and_eq_true] at q
 exact tfewest_true (Ty.inQ_ok q)
def tevenG_S (N : Nat) (a0 : List Qe) (a1 : List Qf) (a2 : Int) : Option Bool := grd (TextT.inQ (a0, a1, a2)) (some true)
noncomputable def sp_tevenG (N : Nat) : Spec := mkS 11 ⟨[.agg [.sl Qd, .sl Qc, .i .i64]], []⟩ [⟨[.b], []⟩] (fun p => tevenG_S N p.1.1.1 p.1.1.2.1 p.1.1.2.2.1) (fun k r => k ((r, ()), ()))
theorem sp_tevenG_ok (N : Nat) : SpecOK Tryz.prog (sp_tevenG N) := SpecOK.weak (sp_teven_ok 1100) fun p r h => by
 obtain ⟨q, h2⟩ := grd_some h
 cases h2
 simp only [Bool.and_eq_true] at q
 exact teven_true (Ty.inQ_ok q)
end Go.Proofs.YtfamlpbdhhikdaaGreat

namespace Go.Proofs.YtfamlpbdhhikdaaGreat
set_option linter.all false
open Go

def gateo_S (N : Nat) (last : Int) : Option (Int × Qh × Qi) :=
 (word__S N 0 false).bind fun (x_1, y_2, y_3) =>
 (word__S N 4 true).bind fun (x_4, y_5, y_6) =>
 (word__S N 0 false).bind fun (x_7, y_8, y_9) =>
 (word__S N 3 true).bind fun (x_10, y_11, y_12) =>
 (word__S N 3 false).bind fun (x_13, y_14, y_15) =>
 (word__S N 3 true).bind fun (x_16, y_17, y_18) =>
 (word__S N 0 false).bind fun (x_19, y_20, y_21) =>
 (word__S N 2 true).bind fun (x_22, y_23, y_24) =>
 some (5, [(x_1, y_2, y_3), (x_4, y_5, y_6), (x_7, y_8, y_9), (x_10, y_11, y_12), (x_13, y_14, y_15), (x_16, y_17, y_18), (x_19, y_20, y_21), (x_22, y_23, y_24)], [(3, 4, last)])
noncomputable def sp_gateo (N : Nat) : Spec := mkS 4 ⟨[.i .i64], []⟩ [⟨[.agg [.ols 0, .ols 1, .i .i64]], [.lst Qd, .lst Qc]⟩] (fun p => gateo_S N p.1.1) (fun k r => k ((((), (), r.1, ()), ()), (r.2.1, r.2.2, ())))
theorem sp_gateo_ok (N : Nat) : SpecOK Tryz.prog (sp_gateo N) := mkF (R := Int × Qh × Qi) (m0 := 0) [⟨_, sp_word__ok N⟩] [] (fun r => some (r.1.1.2.2.1, r.2.1, r.2.2.1)) [] Tryz.func4 (fun p => by kernel_rfl) (by kernel_rfl) (fun _ => by kernel_rfl)

def fewestro_j1 (N : Nat) (rec : (Qa) → Int → Int → (Qa) → Qg → Qg → Option Qk) (d : Qa) (from_ to : Int) (r : Qa) (least next : List Int) : Option Qk :=
 chk (to + 1) <|
 rec d from_ (to + 1) r least next
def fewestro_l2 (N : Nat) : Nat → (Qa) → Int → Int → (Qa) → Qg → Qg → Option Qk
 | 0, _, _, _, _, _, _ => none
 | n_ + 1, d, from_, to, r, least, next =>
  (end__S N d).bind fun x_2 =>
  br (decide (to ≤ x_2))
   ((end__S N d).bind fun x_3 =>
   br (decide (to < x_3))
    (rng to 13 <|
    get next to.toNat fun x_4 =>
    br (decide (x_4 = 0))
     (fewestro_j1 N (fewestro_l2 N n_) d from_ to r least next)
     ((right_S N r from_ to).bind fun x_5 =>
     br (!x_5)
      (fewestro_j1 N (fewestro_l2 N n_) d from_ to r least next)
      (rng from_ 13 <|
      get next from_.toNat fun x_6 =>
      br (decide (x_6 = 0))
       (rng to 13 <|
       get least to.toNat fun x_7 =>
       chk (x_7 + 1) <|
       rng from_ 13 <|
       get least from_.toNat fun _ =>
       rng from_ 13 <|
       get next from_.toNat fun _ =>
       fewestro_j1 N (fewestro_l2 N n_) d from_ to r (least.set from_.toNat (x_7 + 1)) (next.set from_.toNat to))
       (rng to 13 <|
       get least to.toNat fun x_10 =>
       chk (x_10 + 1) <|
       rng from_ 13 <|
       get least from_.toNat fun x_11 =>
       br (decide ((x_10 + 1) < x_11))
        (rng to 13 <|
        get least to.toNat fun x_12 =>
        chk (x_12 + 1) <|
        rng from_ 13 <|
        get least from_.toNat fun _ =>
        rng from_ 13 <|
        get next from_.toNat fun _ =>
        fewestro_j1 N (fewestro_l2 N n_) d from_ to r (least.set from_.toNat (x_12 + 1)) (next.set from_.toNat to))
        (fewestro_j1 N (fewestro_l2 N n_) d from_ to r least next)))))
    ((right_S N r from_ to).bind fun x_15 =>
    br (!x_15)
     (fewestro_j1 N (fewestro_l2 N n_) d from_ to r least next)
     (rng from_ 13 <|
     get next from_.toNat fun x_16 =>
     br (decide (x_16 = 0))
      (rng to 13 <|
      get least to.toNat fun x_17 =>
      chk (x_17 + 1) <|
      rng from_ 13 <|
      get least from_.toNat fun _ =>
      rng from_ 13 <|
      get next from_.toNat fun _ =>
      fewestro_j1 N (fewestro_l2 N n_) d from_ to r (least.set from_.toNat (x_17 + 1)) (next.set from_.toNat to))
      (rng to 13 <|
      get least to.toNat fun x_20 =>
      chk (x_20 + 1) <|
      rng from_ 13 <|
      get least from_.toNat fun x_21 =>
      br (decide ((x_20 + 1) < x_21))
       (rng to 13 <|
       get least to.toNat fun x_22 =>
       chk (x_22 + 1) <|
       rng from_ 13 <|
       get least from_.toNat fun _ =>
       rng from_ 13 <|
       get next from_.toNat fun _ =>
       fewestro_j1 N (fewestro_l2 N n_) d from_ to r (least.set from_.toNat (x_22 + 1)) (next.set from_.toNat to))
       (fewestro_j1 N (fewestro_l2 N n_) d from_ to r least next)))))
   (some ((d, from_, r, least, next)))
def fewestro_l1 (N : Nat) : Nat → (Qa) → Int → (Qa) → Qg → Qg → Option (Qa × List Int)
 | 0, _, _, _, _, _ => none
 | n_ + 1, d, from_, r, least, next =>
  br (decide (0 ≤ from_))
   (chk (from_ + 1) <|
   (fewestro_l2 N N d from_ (from_ + 1) r least next).bind fun (d_25, from__26, r_27, least_28, next_29) =>
   chk (from__26 - 1) <|
   fewestro_l1 N n_ d_25 (from__26 - 1) r_27 least_28 next_29)
   (some ((d, next)))
def fewestro_l3 (N : Nat) : Nat → (Qa) → Int → Qg → Qg → Option Qg
 | 0, _, _, _, _ => none
 | n_ + 1, d, at_, next, out =>
  (end__S N d).bind fun x_33 =>
  br (decide (at_ < x_33))
   (rng at_ 13 <|
   get next at_.toNat fun x_34 =>
   chk (x_34 - at_) <|
   lim (out.length + [(x_34 - at_)].length) <|
   rng at_ 13 <|
   get next at_.toNat fun x_35 =>
   fewestro_l3 N n_ d x_35 next (out ++ [(x_34 - at_)]))
   (some (out))
def fewestro_S (N : Nat) (r d : Qa) : Option (Bool × List Int) :=
 (end__S N d).bind fun x_1 =>
 chk (x_1 - 1) <|
 (fewestro_l1 N N d (x_1 - 1) r (List.replicate 13 (0 : Int)) (List.replicate 13 (0 : Int))).bind fun (d_30, next_31) =>
 get next_31 0 fun x_32 =>
 br (decide (x_32 = 0))
  (some (false, []))
  ((fewestro_l3 N N d_30 0 next_31 []).bind fun out_36 =>
  some (true, out_36))
noncomputable def fewestro_sp (N : Nat) : Oks := [⟨_, sp_end__ok N⟩, ⟨_, sp_right_ok N⟩]
abbrev fewestro_o : List StSh := [⟨[.ols 0, .b], [.lst (.int .i64)]⟩]
noncomputable abbrev fewestro_B : Body := mkB Tryz.f59 fewestro_o 0
abbrev fewestro_l2_at : List PI := [.c [1, 1, 0, 1, 0, 0, 1, 0, 0, 1, 0, 0, 0, 0], .c [1, 1, 0, 1, 0, 0, 1, 0, 0, 1, 0, 0, 0, 1], .c [1, 1, 0, 1, 0, 0, 1, 0, 0, 1, 0, 0, 1], .l [1, 1, 0, 1, 0, 0, 1, 0, 0, 1, 0, 0], .b 2, .b 1, .c [1, 1, 0, 1, 0, 0, 1, 1], .l [1, 1, 0, 1, 0, 0], .b 0, .c [1, 1, 1]]
abbrev fewestro_l2_st : Sta := ⟨[1, 2, 6, 7, 8, 9], ⟨[.fe Qb, .own 0 0, .own 1 0, .own 2 0, .i .i64, .i .i64], [.segs [.fn 58 [.fe Qb] []], .segs [.arr (.int .i64) 13], .segs [.arr (.int .i64) 13]]⟩⟩
abbrev fewestro_l2_h (rec : (Qa) → Int → Int → (Qa) → Qg → Qg → Option Qk) : Leaf Qk := ⟨fewestro_l2_at, fewestro_l2_st, fun p => rec p.1.1 p.1.2.2.2.2.1 p.1.2.2.2.2.2.1 p.2.1.1.1.1 p.2.2.1.1 p.2.2.2.1.1⟩
abbrev fewestro_l2_e0 : Leaf Qk := ⟨[.c [1, 1, 0, 1, 0, 0, 1, 1], .l [1, 1, 0, 1, 0, 0], .b 0, .c [1, 1, 1]], ⟨[1, 2, 6, 7, 8], ⟨[.fe Qb, .own 0 0, .own 1 0, .own 2 0, .i .i64], [.segs [.fn 58 [.fe Qb] []], .segs [.arr (.int .i64) 13], .segs [.arr (.int .i64) 13]]⟩⟩, fun p => some ((p.1.1, p.1.2.2.2.2.1, p.2.1.1.1.1, p.2.2.1.1, p.2.2.2.1.1))⟩
noncomputable def fewestro_j1_k (N : Nat) (rec : (Qa) → Int → Int → (Qa) → Qg → Qg → Option Qk) {top : Bool} : JnQ (Z := Qa × Int × Qa × List Int × List Int) fewestro_B top none [fewestro_l2_h rec, fewestro_l2_e0] := mkJ (fewestro_sp N) [] [] ⟨[.c [1, 1, 0, 1, 0, 0, 1, 0, 0, 1, 0, 0, 1, 1], .l [1, 1, 0, 1, 0, 0, 1, 0, 0, 1, 0, 0], .b 2, .b 1, .c [1, 1, 0, 1, 0, 0, 1, 1], .l [1, 1, 0, 1, 0, 0], .b 0, .c [1, 1, 1]], ⟨[1, 2, 6, 7, 8, 9], ⟨[.fe Qb, .own 0 0, .own 1 0, .own 2 0, .i .i64, .i .i64], [.segs [.fn 58 [.fe Qb] []], .segs [.arr (.int .i64) 13], .segs [.arr (.int .i64) 13]]⟩⟩, fun p => fewestro_j1 N rec p.1.1 p.1.2.2.2.2.1 p.1.2.2.2.2.2.1 p.2.1.1.1.1 p.2.2.1.1 p.2.2.2.1.1⟩ (fun p => by kernel_rfl)
noncomputable def fewestro_l2_L (N : Nat) {top : Bool} : LpQ fewestro_B top := mkL (Z := Qa × Int × Qa × List Int × List Int) (fewestro_sp N) [] fewestro_l2_at fewestro_l2_st (fun m p => fewestro_l2 N m p.1.1 p.1.2.2.2.2.1 p.1.2.2.2.2.2.1 p.2.1.1.1.1 p.2.2.1.1 p.2.2.2.1.1) [fewestro_l2_e0] (fun m => [fewestro_j1_k N (fewestro_l2 N m)]) (fun k e => k (.inl ((e.1, (), (), (), e.2.1, ()), ((((e.2.2.1, ()), ()), ()), (e.2.2.2.1, ()), (e.2.2.2.2, ()), ())))) N (fun m p => by kernel_rfl)
noncomputable def fewestro_l1_L (N : Nat) {top : Bool} : LpQ fewestro_B top := mkL (Z := Qa × List Int) (fewestro_sp N) [fewestro_l2_L N] [.c [1, 1, 0, 1, 0, 0, 0, 0], .c [1, 1, 0, 1, 0, 0, 0, 1], .c [1, 1, 0, 1, 0, 0, 1], .l [1, 1, 0, 1, 0, 0], .b 0, .c [1, 1, 1]] ⟨[1, 2, 6, 7, 8], ⟨[.fe Qb, .own 0 0, .own 1 0, .own 2 0, .i .i64], [.segs [.fn 58 [.fe Qb] []], .segs [.arr (.int .i64) 13], .segs [.arr (.int .i64) 13]]⟩⟩ (fun m p => fewestro_l1 N m p.1.1 p.1.2.2.2.2.1 p.2.1.1.1.1 p.2.2.1.1 p.2.2.2.1.1) [⟨[.c [1, 1, 1, 0, 0], .c [1, 1, 1, 0, 1], .c [1, 1, 1, 1]], ⟨[1, 7], ⟨[.fe Qb, .own 0 0], [.segs [.arr (.int .i64) 13]]⟩⟩, fun p => some ((p.1.1, p.2.1.1))⟩] (fun _ => []) (fun k e => k (.inl ((e.1, (), ()), ((e.2, ()), ())))) N (fun m p => by kernel_rfl)
noncomputable def fewestro_l3_L (N : Nat) {top : Bool} : LpQ fewestro_B top := mkL (Z := List Int) (fewestro_sp N) [fewestro_l2_L N, fewestro_l1_L N] [.c [1, 1, 1, 1, 1, 0, 1, 0, 0, 0, 0], .c [1, 1, 1, 1, 1, 0, 1, 0, 0, 0, 1], .c [1, 1, 1, 1, 1, 0, 1, 0, 0, 1], .l [1, 1, 1, 1, 1, 0, 1, 0, 0], .b 4, .c [1, 1, 1, 1, 1, 1]] ⟨[1, 7, 10, 11], ⟨[.fe Qb, .own 0 0, .ols 1, .i .i64], [.segs [.arr (.int .i64) 13], .lst (.int .i64)]⟩⟩ (fun m p => fewestro_l3 N m p.1.1 p.1.2.2.2.1 p.2.1.1 p.2.2.1) [⟨[.c [1, 1, 1, 1, 1, 1, 0], .c [1, 1, 1, 1, 1, 1, 1]], ⟨[10], ⟨[.ols 0], [.lst (.int .i64)]⟩⟩, fun p => some (p.2.1)⟩] (fun _ => []) (fun k e => k (.inl (((), ()), (e, ())))) N (fun m p => by kernel_rfl)
noncomputable def sp_fewestro (N : Nat) : Spec := mkS 59 ⟨[.agg [.fn 58 [.fe Qb] []], .fe Qb], []⟩ fewestro_o (fun p => fewestro_S N p.1.1.1.1.1 p.1.2.1) (fun k r => k (((), r.1, ()), (r.2, ())))
theorem sp_fewestro_ok (N : Nat) : SpecOK Tryz.prog (sp_fewestro N) := mkF (R := Bool × List Int) (m0 := 0) (fewestro_sp N) [fewestro_l2_L N, fewestro_l1_L N, fewestro_l3_L N] (fun r => some (r.1.2.1, r.2.1)) [] Tryz.func59 (fun p => by kernel_rfl) (by kernel_rfl) (fun _ => by kernel_rfl)

def fewesto_S (N : Nat) (t : List Qe) (t2 : List Qf) (t3 : Int) : Option (Int × List Int) :=
 ((opened_S N t t2 t3).bind fun e => match e with
 | .inl (x_1, y_2) =>
  (br (!decide (y_2 = 0))
   (some (y_2, []))
   ((fewestro_S N x_1 x_1).bind fun (x_3, y_4) =>
   br (!x_3)
    (some (6, []))
    (some (0, y_4))))
 | .inr x_5 =>
  (br (!decide (x_5 = 0))
   (some (x_5, []))
   (none)))
noncomputable def sp_fewesto (N : Nat) : Spec := mkS 12 ⟨[.agg [.sl Qd, .sl Qc, .i .i64]], []⟩ [⟨[.ols 0, .i .i64], [.lst (.int .i64)]⟩] (fun p => fewesto_S N p.1.1.1 p.1.1.2.1 p.1.1.2.2.1) (fun k r => k (((), r.1, ()), (r.2, ())))
theorem sp_fewesto_ok (N : Nat) : SpecOK Tryz.prog (sp_fewesto N) := mkF (R := Int × List Int) (m0 := 0) [⟨_, sp_fewestro_ok N⟩, ⟨_, sp_opened_ok N⟩] [] (fun r => some (r.1.2.1, r.2.1)) [] Tryz.func12 (fun p => by kernel_rfl) (by kernel_rfl) (fun _ => by kernel_rfl)

def markso_l1 (N : Nat) : Nat → (Qa) → Int → Qg → Option (Qa × List Int)
 | 0, _, _, _ => none
 | n_ + 1, d, place, now =>
  (end__S N d).bind fun x_3 =>
  br (decide (place ≤ x_3))
   (rng place 13 <|
   get now place.toNat fun _ =>
   chk (place + 1) <|
   markso_l1 N n_ d (place + 1) (now.set place.toNat 99))
   (some ((d, now)))
def markso_l2 (N : Nat) : Nat → (Qa) → Qg → Qg → Option (Qa × List Int)
 | 0, _, _, _ => none
 | n_ + 1, d, now, next =>
  br (!decide (next = now))
   ((lowered_S N d next).bind fun x_8 =>
   markso_l2 N n_ d next x_8)
   (some ((d, now)))
def markso_S (N : Nat) (t : List Qe) (t2 : List Qf) (t3 : Int) : Option (Int × List Int) :=
 ((opened_S N t t2 t3).bind fun e => match e with
 | .inl (x_1, y_2) =>
  (br (!decide (y_2 = 0))
   (some (y_2, []))
   ((markso_l1 N N x_1 1 (List.replicate 13 (0 : Int))).bind fun (d_5, now_6) =>
   (lowered_S N d_5 now_6).bind fun x_7 =>
   (markso_l2 N N d_5 now_6 x_7).bind fun (d_9, now_10) =>
   (end__S N d_9).bind fun x_11 =>
   rng x_11 13 <|
   get now_10 x_11.toNat fun x_12 =>
   br (decide (x_12 = 99))
    (some (6, []))
    ((end__S N d_9).bind fun x_13 =>
    chk (x_13 + 1) <|
    grd (decide ((0 : Int) ≤ (x_13 + 1) ∧ (x_13 + 1) ≤ (13 : Int))) <|
    (cloneo_S N (now_10.take ((x_13 + 1).toNat))).bind fun x_14 =>
    some (0, x_14))))
 | .inr x_15 =>
  (br (!decide (x_15 = 0))
   (some (x_15, []))
   (none)))
noncomputable def markso_sp (N : Nat) : Oks := [⟨_, sp_cloneo_ok N⟩, ⟨_, sp_opened_ok N⟩, ⟨_, sp_end__ok N⟩, ⟨_, sp_lowered_ok N⟩]
abbrev markso_o : List StSh := [⟨[.ols 0, .i .i64], [.lst (.int .i64)]⟩]
noncomputable abbrev markso_B : Body := mkB Tryz.f13 markso_o 0
noncomputable def markso_l1_L (N : Nat) {top : Bool} : LpQ markso_B top := mkL (Z := Qa × List Int) (markso_sp N) [] [.c [1, 1, 1, 1, 0, 1, 0, 0, 0, 0], .c [1, 1, 1, 1, 0, 1, 0, 0, 0, 1], .c [1, 1, 1, 1, 0, 1, 0, 0, 1], .l [1, 1, 1, 1, 0, 1, 0, 0], .b 0, .c [1, 1, 1, 1, 1]] ⟨[4, 6, 7], ⟨[.fe Qb, .own 0 0, .i .i64], [.segs [.arr (.int .i64) 13]]⟩⟩ (fun m p => markso_l1 N m p.1.1 p.1.2.2.1 p.2.1.1) [⟨[.c [1, 1, 1, 1, 1, 0, 0], .c [1, 1, 1, 1, 1, 0, 1], .c [1, 1, 1, 1, 1, 1]], ⟨[4, 6], ⟨[.fe Qb, .own 0 0], [.segs [.arr (.int .i64) 13]]⟩⟩, fun p => some ((p.1.1, p.2.1.1))⟩] (fun _ => []) (fun k e => k (.inl ((e.1, (), ()), ((e.2, ()), ())))) N (fun m p => by kernel_rfl)
noncomputable def markso_l2_L (N : Nat) {top : Bool} : LpQ markso_B top := mkL (Z := Qa × List Int) (markso_sp N) [markso_l1_L N] [.c [1, 1, 1, 1, 1, 0, 1, 0, 0, 0, 0], .c [1, 1, 1, 1, 1, 0, 1, 0, 0, 0, 1], .c [1, 1, 1, 1, 1, 0, 1, 0, 0, 1], .l [1, 1, 1, 1, 1, 0, 1, 0, 0], .b 2, .c [1, 1, 1, 1, 1, 1]] ⟨[4, 6, 8], ⟨[.fe Qb, .own 0 0, .own 1 0], [.segs [.arr (.int .i64) 13], .segs [.arr (.int .i64) 13]]⟩⟩ (fun m p => markso_l2 N m p.1.1 p.2.1.1 p.2.2.1.1) [⟨[.c [1, 1, 1, 1, 1, 1, 0, 0], .c [1, 1, 1, 1, 1, 1, 0, 1], .c [1, 1, 1, 1, 1, 1, 1]], ⟨[4, 6], ⟨[.fe Qb, .own 0 0], [.segs [.arr (.int .i64) 13]]⟩⟩, fun p => some ((p.1.1, p.2.1.1))⟩] (fun _ => []) (fun k e => k (.inl ((e.1, (), ()), ((e.2, ()), ())))) N (fun m p => by kernel_rfl)
noncomputable def sp_markso (N : Nat) : Spec := mkS 13 ⟨[.agg [.sl Qd, .sl Qc, .i .i64]], []⟩ markso_o (fun p => markso_S N p.1.1.1 p.1.1.2.1 p.1.1.2.2.1) (fun k r => k (((), r.1, ()), (r.2, ())))
theorem sp_markso_ok (N : Nat) : SpecOK Tryz.prog (sp_markso N) := mkF (R := Int × List Int) (m0 := 0) (markso_sp N) [markso_l1_L N, markso_l2_L N] (fun r => some (r.1.2.1, r.2.1)) [] Tryz.func13 (fun p => by kernel_rfl) (by kernel_rfl) (fun _ => by kernel_rfl)

abbrev chooseo_o : List StSh := [⟨[.nils], [.segs [.fn 63 [] [.fe Qo, .fe (.int .i64), .own 0 0]], .dead]⟩, ⟨[.ols 1], [.segs [.fn 63 [] [.fe Qo, .fe (.int .i64), .own 0 0]], .lst (.int .i64)]⟩, ⟨[.ols 2], [.segs [.fn 63 [] [.fe Qo, .fe (.int .i64), .own 0 0]], .dead, .lst (.int .i64)]⟩]
noncomputable abbrev chooseo_self (self : Int → Int → (Qa) → Int → (Qa) → Int → Qg → Option (Qw ⊕ (Qm ⊕ Qm))) : Spec := mkS 63 ⟨[.ols 1, .i .i64, .i .i64, .fe Qo, .fe (.int .i64), .own 0 0], [.segs [.fn 63 [] [.fe Qo, .fe (.int .i64), .own 0 0]], .lst (.int .i64)]⟩ chooseo_o (fun p => self p.1.2.1 p.1.2.2.1 p.1.2.2.2.1 p.1.2.2.2.2.1 p.2.1.1.2.1 p.2.1.1.2.2.1 p.2.2.1) (fun k r => match r with | .inl r => k (.inl (((), ()), ((((), (r.1, r.2, (), ())), ()), (), ()))) | .inr (.inl r) => k (.inr (.inl (((), ()), ((((), (r.1, r.2.1, (), ())), ()), r.2.2, ())))) | .inr (.inr r) => k (.inr (.inr (((), ()), ((((), (r.1, r.2.1, (), ())), ()), (), r.2.2, ())))))
def chooseo_l1 (N : Nat) (self : Int → Int → (Qa) → Int → (Qa) → Int → Qg → Option (Qw ⊕ (Qm ⊕ Qm))) : Nat → Qg → Int → (Qa) → Int → (Qa) → Int → Option (Qm ⊕ Qw)
 | 0, _, _, _, _, _, _ => none
 | n_ + 1, l, more, u, w, g, g2 =>
  chk (w + more) <|
  (end__S N u).bind fun x_3 =>
  br (decide ((w + more) ≤ x_3))
   ((cloneo_S N l).bind fun x_4 =>
   lim (x_4.length + [w].length) <|
   chk (w + 1) <|
   chk (more - 1) <|
   ((self (w + 1) (more - 1) g g2 g g2 (x_4 ++ [w])).bind fun e => match e with
   | .inl (x_5, y_6) =>
    (chk (w + 1) <|
    chooseo_l1 N self n_ l more u (w + 1) x_5 y_6)
   | .inr (.inl (x_7, y_8, y_9)) =>
    (grd (!y_9.isEmpty) <|
    some (.inl (x_7, y_8, y_9)))
   | .inr (.inr (x_10, y_11, y_12)) =>
    (grd (!y_12.isEmpty) <|
    some (.inl (x_10, y_11, y_12)))))
   (some (.inr (g, g2)))
def chooseo_j1 (N : Nat) (self : Int → Int → (Qa) → Int → (Qa) → Int → Qg → Option (Qw ⊕ (Qm ⊕ Qm))) (l : List Int) (from_ more : Int) (u g : Qa) (g2 : Int) : Option (Qw ⊕ (Qm ⊕ Qm)) :=
 (chooseo_l1 N self N l more u from_ g g2).bind fun e => match e with
 | .inl (g_13, g2_14, out_15) =>
  some (.inr (.inr (g_13, g2_14, out_15)))
 | .inr (g_16, g2_17) =>
  some (.inl (g_16, g2_17))
def chooseo_S (N : Nat) (self : Int → Int → (Qa) → Int → (Qa) → Int → Qg → Option (Qw ⊕ (Qm ⊕ Qm))) (from_ more : Int) (u : Qa) (u2 : Int) (g : Qa) (g2 : Int) (l : List Int) : Option (Qw ⊕ (Qm ⊕ Qm)) :=
 br (decide (more = 0))
  ((weight_S N u l).bind fun x_1 =>
  br (decide (u2 ≤ x_1))
   ((keeps_S N u l).bind fun x_2 =>
   br x_2
    (some (.inr (.inl (g, g2, l))))
    (some (.inl (g, g2))))
   (some (.inl (g, g2))))
  (chooseo_j1 N self l from_ more u g g2)
noncomputable def chooseo_sp (N : Nat) (self : Int → Int → (Qa) → Int → (Qa) → Int → Qg → Option (Qw ⊕ (Qm ⊕ Qm))) (hself : SpecOK Tryz.prog (chooseo_self self)) : Oks := [⟨_, hself⟩, ⟨_, sp_cloneo_ok N⟩, ⟨_, sp_end__ok N⟩, ⟨_, sp_keeps_ok N⟩, ⟨_, sp_weight_ok N⟩]
noncomputable abbrev chooseo_B : Body := mkB Tryz.f63 chooseo_o 2
abbrev chooseo_rt : altD chooseo_o → Option (Qw ⊕ (Qm ⊕ Qm)) := fun r => match r with | .inl r => some (.inl (r.2.1.1.2.1, r.2.1.1.2.2.1)) | .inr (.inl r) => some (.inr (.inl (r.2.1.1.2.1, r.2.1.1.2.2.1, r.2.2.1))) | .inr (.inr r) => some (.inr (.inr (r.2.1.1.2.1, r.2.1.1.2.2.1, r.2.2.2.1)))
noncomputable def chooseo_l1_L (N : Nat) (self : Int → Int → (Qa) → Int → (Qa) → Int → Qg → Option (Qw ⊕ (Qm ⊕ Qm))) (hself : SpecOK Tryz.prog (chooseo_self self)) {top : Bool} : LpQ chooseo_B top := mkL (Z := Qm ⊕ Qw) (chooseo_sp N self hself) [] [.c [1, 1, 0, 1, 0, 0, 0, 0], .c [1, 1, 0, 1, 0, 0, 0, 1], .c [1, 1, 0, 1, 0, 0, 1], .l [1, 1, 0, 1, 0, 0], .b 0, .c [1, 1, 1]] ⟨[0, 2, 3, 5, 10], ⟨[.sl (.int .i64), .i .i64, .fe Qo, .own 0 0, .i .i64], [.segs [.fn 63 [] [.fe Qo, .fe (.int .i64), .own 0 0]], .dead]⟩⟩ (fun m p => chooseo_l1 N self m p.1.1 p.1.2.1 p.1.2.2.1 p.1.2.2.2.2.1 p.2.1.1.2.1 p.2.1.1.2.2.1) [⟨[.c [1, 1, 0, 1, 0, 0, 1, 0, 0, 1, 1, 0, 0], .c [1, 1, 0, 1, 0, 0, 1, 0, 0, 1, 1, 0, 1], .b 1, .c [1, 1, 0, 1, 0, 0, 1, 1], .l [1, 1, 0, 1, 0, 0], .b 0, .c [1, 1, 1]], ⟨[11], ⟨[.ols 2], [.segs [.fn 63 [] [.fe Qo, .fe (.int .i64), .own 0 0]], .dead, .lst (.int .i64)]⟩⟩, fun p => some (.inl (p.2.1.1.2.1, p.2.1.1.2.2.1, p.2.2.2.1))⟩, ⟨[.c [1, 1, 1, 0], .c [1, 1, 1, 1]], ⟨[], ⟨[], [.segs [.fn 63 [] [.fe Qo, .fe (.int .i64), .own 0 0]], .dead]⟩⟩, fun p => some (.inr (p.2.1.1.2.1, p.2.1.1.2.2.1))⟩] (fun _ => []) (fun k e => match e with | .inl x => k (.inl (((), ()), ((((), (x.1, x.2.1, (), ())), ()), (), x.2.2, ()))) | .inr x => k (.inr (.inl ((), ((((), (x.1, x.2, (), ())), ()), (), ()))))) N (fun m p => by kernel_rfl) (hg := (by rintro _ _ (_ | _) <;> rfl))
noncomputable def chooseo_j1_k (N : Nat) (self : Int → Int → (Qa) → Int → (Qa) → Int → Qg → Option (Qw ⊕ (Qm ⊕ Qm))) (hself : SpecOK Tryz.prog (chooseo_self self)) : JnQ (Z := Qw ⊕ (Qm ⊕ Qm)) chooseo_B true (some chooseo_rt) [] := mkJ (chooseo_sp N self hself) [chooseo_l1_L N self hself] [] ⟨[.c [1, 1, 0, 0], .c [1, 1, 0, 1], .c [1, 1, 1]], ⟨[0, 1, 2, 3, 5], ⟨[.sl (.int .i64), .i .i64, .i .i64, .fe Qo, .own 0 0], [.segs [.fn 63 [] [.fe Qo, .fe (.int .i64), .own 0 0]], .dead]⟩⟩, fun p => chooseo_j1 N self p.1.1 p.1.2.1 p.1.2.2.1 p.1.2.2.2.1 p.2.1.1.2.1 p.2.1.1.2.2.1⟩ (fun p => by kernel_rfl)
theorem chooseo_self_ok (N : Nat) (self : Int → Int → (Qa) → Int → (Qa) → Int → Qg → Option (Qw ⊕ (Qm ⊕ Qm))) (hself : SpecOK Tryz.prog (chooseo_self self)) : SpecOK Tryz.prog (chooseo_self (chooseo_S N self)) := mkF (R := Qw ⊕ (Qm ⊕ Qm)) (m0 := 2) (chooseo_sp N self hself) [chooseo_l1_L N self hself] (chooseo_rt) [chooseo_j1_k N self hself] Tryz.func63 (fun p => by kernel_rfl) (by kernel_rfl) (fun _ => by kernel_rfl) (by rintro _ _ (_ | _ | _) <;> rfl) (by rintro (_ | _ | _) z h <;> (cases h; rfl))
def chooseo_R (N : Nat) : Nat → Int → Int → (Qa) → Int → (Qa) → Int → Qg → Option (Qw ⊕ (Qm ⊕ Qm))
 | 0 => fun _ _ _ _ _ _ _ => none
 | n + 1 => chooseo_S N (chooseo_R N n)
theorem chooseo_R_ok (N : Nat) : ∀ n, SpecOK Tryz.prog (chooseo_self (chooseo_R N n))
 | 0 => SpecOK.none (fun _ _ _ => rfl) (fun args w => Sem.pv_run _ _ _ (by kernel_rfl) w)
 | n + 1 => chooseo_self_ok N (chooseo_R N n) (chooseo_R_ok N n)
noncomputable abbrev sp_chooseo (N : Nat) : Spec := chooseo_self (chooseo_R N N)
theorem sp_chooseo_ok (N : Nat) : SpecOK Tryz.prog (sp_chooseo N) := chooseo_R_ok N N

def chooseo0_l1 (N : Nat) : Nat → Int → (Qa) → Int → (Qa) → Int → Option (Qm ⊕ Qw)
 | 0, _, _, _, _, _ => none
 | n_ + 1, more, u, w, g, g2 =>
  chk (w + more) <|
  (end__S N u).bind fun x_3 =>
  br (decide ((w + more) ≤ x_3))
   ((clonen_S N).bind fun _ =>
   chk (w + 1) <|
   chk (more - 1) <|
   ((chooseo_R N N (w + 1) (more - 1) g g2 g g2 [w]).bind fun e => match e with
   | .inl (x_4, y_5) =>
    (chk (w + 1) <|
    chooseo0_l1 N n_ more u (w + 1) x_4 y_5)
   | .inr (.inl (x_6, y_7, y_8)) =>
    (grd (!y_8.isEmpty) <|
    some (.inl (x_6, y_7, y_8)))
   | .inr (.inr (x_9, y_10, y_11)) =>
    (grd (!y_11.isEmpty) <|
    some (.inl (x_9, y_10, y_11)))))
   (some (.inr (g, g2)))
def chooseo0_S (N : Nat) (from_ more : Int) (u : Qa) (u2 : Int) (g : Qa) (g2 : Int) : Option (Qw ⊕ Qm) :=
 br (decide (more = 0))
  ((weight_S N u []).bind fun x_1 =>
  br (decide (u2 ≤ x_1))
   ((keeps_S N u []).bind fun x_2 =>
   br x_2
    (some (.inl (g, g2)))
    (some (.inl (g, g2))))
   (some (.inl (g, g2))))
  ((chooseo0_l1 N N more u from_ g g2).bind fun e => match e with
  | .inl (g_12, g2_13, out_14) =>
   some (.inr (g_12, g2_13, out_14))
  | .inr (g_15, g2_16) =>
   some (.inl (g_15, g2_16)))
noncomputable def chooseo0_sp (N : Nat) : Oks := [⟨_, sp_clonen_ok N⟩, ⟨_, sp_chooseo_ok N⟩, ⟨_, sp_end__ok N⟩, ⟨_, sp_keeps_ok N⟩, ⟨_, sp_weight_ok N⟩]
abbrev chooseo0_o : List StSh := [⟨[.nils], [.segs [.fn 63 [] [.fe Qo, .fe (.int .i64), .own 0 0]]]⟩, ⟨[.ols 1], [.segs [.fn 63 [] [.fe Qo, .fe (.int .i64), .own 0 0]], .lst (.int .i64)]⟩]
noncomputable abbrev chooseo0_B : Body := mkB Tryz.f63 chooseo0_o 1
noncomputable def chooseo0_l1_L (N : Nat) {top : Bool} : LpQ chooseo0_B top := mkL (Z := Qm ⊕ Qw) (chooseo0_sp N) [] [.c [1, 1, 0, 1, 0, 0, 0, 0], .c [1, 1, 0, 1, 0, 0, 0, 1], .c [1, 1, 0, 1, 0, 0, 1], .l [1, 1, 0, 1, 0, 0], .b 0, .c [1, 1, 1]] ⟨[0, 2, 3, 5, 10], ⟨[.nils, .i .i64, .fe Qo, .own 0 0, .i .i64], [.segs [.fn 63 [] [.fe Qo, .fe (.int .i64), .own 0 0]]]⟩⟩ (fun m p => chooseo0_l1 N m p.1.2.1 p.1.2.2.1 p.1.2.2.2.2.1 p.2.1.1.2.1 p.2.1.1.2.2.1) [⟨[.c [1, 1, 0, 1, 0, 0, 1, 0, 0, 1, 1, 0, 0], .c [1, 1, 0, 1, 0, 0, 1, 0, 0, 1, 1, 0, 1], .b 1, .c [1, 1, 0, 1, 0, 0, 1, 1], .l [1, 1, 0, 1, 0, 0], .b 0, .c [1, 1, 1]], ⟨[11], ⟨[.ols 1], [.segs [.fn 63 [] [.fe Qo, .fe (.int .i64), .own 0 0]], .lst (.int .i64)]⟩⟩, fun p => some (.inl (p.2.1.1.2.1, p.2.1.1.2.2.1, p.2.2.1))⟩, ⟨[.c [1, 1, 1, 0], .c [1, 1, 1, 1]], ⟨[], ⟨[], [.segs [.fn 63 [] [.fe Qo, .fe (.int .i64), .own 0 0]]]⟩⟩, fun p => some (.inr (p.2.1.1.2.1, p.2.1.1.2.2.1))⟩] (fun _ => []) (fun k e => match e with | .inl x => k (.inl (((), ()), ((((), (x.1, x.2.1, (), ())), ()), x.2.2, ()))) | .inr x => k (.inr (.inl ((), ((((), (x.1, x.2, (), ())), ()), ()))))) N (fun m p => by kernel_rfl) (hg := (by rintro _ _ (_ | _) <;> rfl))
noncomputable def sp_chooseo0 (N : Nat) : Spec := mkS 63 ⟨[.nils, .i .i64, .i .i64, .fe Qo, .fe (.int .i64), .own 0 0], [.segs [.fn 63 [] [.fe Qo, .fe (.int .i64), .own 0 0]]]⟩ chooseo0_o (fun p => chooseo0_S N p.1.2.1 p.1.2.2.1 p.1.2.2.2.1 p.1.2.2.2.2.1 p.2.1.1.2.1 p.2.1.1.2.2.1) (fun k r => match r with | .inl r => k (.inl (((), ()), ((((), (r.1, r.2, (), ())), ()), ()))) | .inr r => k (.inr (((), ()), ((((), (r.1, r.2.1, (), ())), ()), r.2.2, ()))))
theorem sp_chooseo0_ok (N : Nat) : SpecOK Tryz.prog (sp_chooseo0 N) := mkF (R := Qw ⊕ Qm) (m0 := 1) (chooseo0_sp N) [chooseo0_l1_L N] (fun r => match r with | .inl r => some (.inl (r.2.1.1.2.1, r.2.1.1.2.2.1)) | .inr r => some (.inr (r.2.1.1.2.1, r.2.1.1.2.2.1, r.2.2.1))) [] Tryz.func63 (fun p => by kernel_rfl) (by kernel_rfl) (fun _ => by kernel_rfl) (by rintro _ _ (_ | _) <;> rfl) (by rintro (_ | _) z h <;> (cases h; rfl))

def leasto_l1 (N : Nat) : Nat → Int → Int → (Qa) → Int → Option (Qg ⊕ (Unit))
 | 0, _, _, _, _ => none
 | n_ + 1, u, u2, choose, choose2 =>
  br (decide (u2 < u))
   (chk (u2 + 1) <|
   ((chooseo0_S N 0 (u2 + 1) choose choose2 choose choose2).bind fun e => match e with
   | .inl (x_4, y_5) =>
    (chk (u2 + 1) <|
    leasto_l1 N n_ u (u2 + 1) x_4 y_5)
   | .inr (x_6, y_7, y_8) =>
    (grd (!y_8.isEmpty) <|
    some (.inl y_8))))
   (some (.inr ()))
def leasto_S (N : Nat) (t : List Qe) (t2 : List Qf) (t3 weight : Int) : Option (Int × List Int) :=
 ((opened_S N t t2 t3).bind fun e => match e with
 | .inl (x_1, y_2) =>
  (br (!decide (y_2 = 0))
   (some (y_2, []))
   (br (decide (weight < 0))
    (some (3, []))
    ((end__S N x_1).bind fun x_3 =>
    (leasto_l1 N N x_3 0 x_1 weight).bind fun e => match e with
    | .inl l_9 =>
     some (0, l_9)
    | .inr _ =>
     some (6, []))))
 | .inr x_10 =>
  (br (!decide (x_10 = 0))
   (some (x_10, []))
   (br (decide (weight < 0))
    (some (3, []))
    (none))))
noncomputable def leasto_sp (N : Nat) : Oks := [⟨_, sp_chooseo0_ok N⟩, ⟨_, sp_opened_ok N⟩, ⟨_, sp_end__ok N⟩]
abbrev leasto_o : List StSh := [⟨[.ols 0, .i .i64], [.lst (.int .i64)]⟩]
noncomputable abbrev leasto_B : Body := mkB Tryz.f14 leasto_o 0
noncomputable def leasto_l1_L (N : Nat) {top : Bool} : LpQ leasto_B top := mkL (Z := Qg ⊕ (Unit)) (leasto_sp N) [] [.c [1, 1, 1, 1, 1, 1, 0, 1, 0, 0, 0], .c [1, 1, 1, 1, 1, 1, 0, 1, 0, 0, 1], .l [1, 1, 1, 1, 1, 1, 0, 1, 0, 0], .b 0, .c [1, 1, 1, 1, 1, 1, 1]] ⟨[8, 23, 24], ⟨[.own 0 0, .i .i64, .i .i64], [.segs [.fn 63 [] [.fe Qo, .fe (.int .i64), .own 0 0]]]⟩⟩ (fun m p => leasto_l1 N m p.1.2.1 p.1.2.2.1 p.2.1.1.2.1 p.2.1.1.2.2.1) [⟨[.c [1, 1, 1, 1, 1, 1, 0, 1, 0, 0, 1, 1, 0, 0, 1, 1, 1, 0, 0], .c [1, 1, 1, 1, 1, 1, 0, 1, 0, 0, 1, 1, 0, 0, 1, 1, 1, 0, 1], .b 1, .c [1, 1, 1, 1, 1, 1, 0, 1, 0, 0, 1, 1, 1], .l [1, 1, 1, 1, 1, 1, 0, 1, 0, 0], .b 0, .c [1, 1, 1, 1, 1, 1, 1]], ⟨[10], ⟨[.ols 0], [.lst (.int .i64)]⟩⟩, fun p => some (.inl p.2.1)⟩, ⟨[.c [1, 1, 1, 1, 1, 1, 1, 0], .c [1, 1, 1, 1, 1, 1, 1, 1]], ⟨[], ⟨[], []⟩⟩, fun p => some (.inr ())⟩] (fun _ => []) (fun k e => match e with | .inl x => k (.inl (((), ()), (x, ()))) | .inr x => k (.inr (.inl ((), ())))) N (fun m p => by kernel_rfl) (hg := (by rintro _ _ (_ | _) <;> rfl))
noncomputable def sp_leasto (N : Nat) : Spec := mkS 14 ⟨[.agg [.sl Qd, .sl Qc, .i .i64], .i .i64], []⟩ leasto_o (fun p => leasto_S N p.1.1.1 p.1.1.2.1 p.1.1.2.2.1 p.1.2.1) (fun k r => k (((), r.1, ()), (r.2, ())))
theorem sp_leasto_ok (N : Nat) : SpecOK Tryz.prog (sp_leasto N) := mkF (R := Int × List Int) (m0 := 0) (leasto_sp N) [leasto_l1_L N] (fun r => some (r.1.2.1, r.2.1)) [] Tryz.func14 (fun p => by kernel_rfl) (by kernel_rfl) (fun _ => by kernel_rfl)

def tsmall_l2 (N : Nat) : Nat → Int → Int → Int → Int → Qg → Option ((Unit) ⊕ (Int × Int × List Int))
 | 0, _, _, _, _, _ => none
 | n_ + 1, v, u, u2, u3, g =>
  br (decide (u3 < 16))
   ((gateo_S N 7).bind fun (x_2, y_3, y_4) =>
   rng 3 y_3.length <|
   rng 1 y_3.length <|
   rng 0 y_4.length <|
   rng 0 y_4.length <|
   rng 0 y_4.length <|
   rng 0 [4, 2, 2].length <|
   rng 2 [4, 2, 2].length <|
   rng 0 [0, 1, 1, 1, 1, 1, 2, 2, 3].length <|
   rng 8 [0, 1, 1, 1, 1, 1, 2, 2, 3].length <|
   rng 0 [1, 3, 5].length <|
   rng 2 [1, 3, 5].length <|
   br (decide (u3 = (0 : Int)))
    ((tpartsG_S N y_3 y_4 v 4 7 [4, 2, 2]).bind fun x_5 =>
    br (!x_5)
     (some (.inl ()))
     ((tmarksG_S N y_3 y_4 v [0, 1, 1, 1, 1, 1, 2, 2, 3]).bind fun x_6 =>
     br (!x_6)
      (some (.inl ()))
      ((tastrayG_S N y_3 y_4 v [4, 2, 2]).bind fun x_7 =>
      br (!x_7)
       (some (.inl ()))
       ((tshorterG_S N y_3 y_4 v [1, 3, 5] 2).bind fun x_8 =>
       br (!x_8)
        (some (.inl ()))
        ((tleastG_S N y_3 y_4 v 7).bind fun x_9 =>
        br (!x_9)
         (some (.inl ()))
         (br (decide (u3 < 6))
          ((tfewestG_S N y_3 y_4 v).bind fun x_10 =>
          br (!x_10)
           (some (.inl ()))
           ((tevenG_S N y_3 y_4 v).bind fun x_11 =>
           br (!x_11)
            (some (.inl ()))
            (chk (u3 + 1) <|
            tsmall_l2 N n_ v u u2 (u3 + 1) g)))
          (chk (u3 + 1) <|
          tsmall_l2 N n_ v u u2 (u3 + 1) g)))))))
    (br (decide (u3 = (1 : Int)))
     (get y_3 3 fun z_12 =>
     (tpartsG_S N (y_3.set 3 (v, z_12.2.1, z_12.2.2)) y_4 x_2 4 7 [4, 2, 2]).bind fun x_13 =>
     br (!x_13)
      (some (.inl ()))
      ((tmarksG_S N (y_3.set 3 (v, z_12.2.1, z_12.2.2)) y_4 x_2 [0, 1, 1, 1, 1, 1, 2, 2, 3]).bind fun x_14 =>
      br (!x_14)
       (some (.inl ()))
       ((tastrayG_S N (y_3.set 3 (v, z_12.2.1, z_12.2.2)) y_4 x_2 [4, 2, 2]).bind fun x_15 =>
       br (!x_15)
        (some (.inl ()))
        ((tshorterG_S N (y_3.set 3 (v, z_12.2.1, z_12.2.2)) y_4 x_2 [1, 3, 5] 2).bind fun x_16 =>
        br (!x_16)
         (some (.inl ()))
         ((tleastG_S N (y_3.set 3 (v, z_12.2.1, z_12.2.2)) y_4 x_2 7).bind fun x_17 =>
         br (!x_17)
          (some (.inl ()))
          (br (decide (u3 < 6))
           ((tfewestG_S N (y_3.set 3 (v, z_12.2.1, z_12.2.2)) y_4 x_2).bind fun x_18 =>
           br (!x_18)
            (some (.inl ()))
            ((tevenG_S N (y_3.set 3 (v, z_12.2.1, z_12.2.2)) y_4 x_2).bind fun x_19 =>
            br (!x_19)
             (some (.inl ()))
             (chk (u3 + 1) <|
             tsmall_l2 N n_ v u u2 (u3 + 1) g)))
           (chk (u3 + 1) <|
           tsmall_l2 N n_ v u u2 (u3 + 1) g)))))))
     (br (decide (u3 = (2 : Int)))
      (get y_3 1 fun z_20 =>
      (tpartsG_S N (y_3.set 1 (z_20.1, v, z_20.2.2)) y_4 x_2 4 7 [4, 2, 2]).bind fun x_21 =>
      br (!x_21)
       (some (.inl ()))
       ((tmarksG_S N (y_3.set 1 (z_20.1, v, z_20.2.2)) y_4 x_2 [0, 1, 1, 1, 1, 1, 2, 2, 3]).bind fun x_22 =>
       br (!x_22)
        (some (.inl ()))
        ((tastrayG_S N (y_3.set 1 (z_20.1, v, z_20.2.2)) y_4 x_2 [4, 2, 2]).bind fun x_23 =>
        br (!x_23)
         (some (.inl ()))
         ((tshorterG_S N (y_3.set 1 (z_20.1, v, z_20.2.2)) y_4 x_2 [1, 3, 5] 2).bind fun x_24 =>
         br (!x_24)
          (some (.inl ()))
          ((tleastG_S N (y_3.set 1 (z_20.1, v, z_20.2.2)) y_4 x_2 7).bind fun x_25 =>
          br (!x_25)
           (some (.inl ()))
           (br (decide (u3 < 6))
            ((tfewestG_S N (y_3.set 1 (z_20.1, v, z_20.2.2)) y_4 x_2).bind fun x_26 =>
            br (!x_26)
             (some (.inl ()))
             ((tevenG_S N (y_3.set 1 (z_20.1, v, z_20.2.2)) y_4 x_2).bind fun x_27 =>
             br (!x_27)
              (some (.inl ()))
              (chk (u3 + 1) <|
              tsmall_l2 N n_ v u u2 (u3 + 1) g)))
            (chk (u3 + 1) <|
            tsmall_l2 N n_ v u u2 (u3 + 1) g)))))))
      (br (decide (u3 = (3 : Int)))
       (get y_4 0 fun z_28 =>
       (tpartsG_S N y_3 (y_4.set 0 (v, z_28.2.1, z_28.2.2)) x_2 4 7 [4, 2, 2]).bind fun x_29 =>
       br (!x_29)
        (some (.inl ()))
        ((tmarksG_S N y_3 (y_4.set 0 (v, z_28.2.1, z_28.2.2)) x_2 [0, 1, 1, 1, 1, 1, 2, 2, 3]).bind fun x_30 =>
        br (!x_30)
         (some (.inl ()))
         ((tastrayG_S N y_3 (y_4.set 0 (v, z_28.2.1, z_28.2.2)) x_2 [4, 2, 2]).bind fun x_31 =>
         br (!x_31)
          (some (.inl ()))
          ((tshorterG_S N y_3 (y_4.set 0 (v, z_28.2.1, z_28.2.2)) x_2 [1, 3, 5] 2).bind fun x_32 =>
          br (!x_32)
           (some (.inl ()))
           ((tleastG_S N y_3 (y_4.set 0 (v, z_28.2.1, z_28.2.2)) x_2 7).bind fun x_33 =>
           br (!x_33)
            (some (.inl ()))
            (br (decide (u3 < 6))
             ((tfewestG_S N y_3 (y_4.set 0 (v, z_28.2.1, z_28.2.2)) x_2).bind fun x_34 =>
             br (!x_34)
              (some (.inl ()))
              ((tevenG_S N y_3 (y_4.set 0 (v, z_28.2.1, z_28.2.2)) x_2).bind fun x_35 =>
              br (!x_35)
               (some (.inl ()))
               (chk (u3 + 1) <|
               tsmall_l2 N n_ v u u2 (u3 + 1) g)))
             (chk (u3 + 1) <|
             tsmall_l2 N n_ v u u2 (u3 + 1) g)))))))
       (br (decide (u3 = (4 : Int)))
        (get y_4 0 fun z_36 =>
        (tpartsG_S N y_3 (y_4.set 0 (z_36.1, v, z_36.2.2)) x_2 4 7 [4, 2, 2]).bind fun x_37 =>
        br (!x_37)
         (some (.inl ()))
         ((tmarksG_S N y_3 (y_4.set 0 (z_36.1, v, z_36.2.2)) x_2 [0, 1, 1, 1, 1, 1, 2, 2, 3]).bind fun x_38 =>
         br (!x_38)
          (some (.inl ()))
          ((tastrayG_S N y_3 (y_4.set 0 (z_36.1, v, z_36.2.2)) x_2 [4, 2, 2]).bind fun x_39 =>
          br (!x_39)
           (some (.inl ()))
           ((tshorterG_S N y_3 (y_4.set 0 (z_36.1, v, z_36.2.2)) x_2 [1, 3, 5] 2).bind fun x_40 =>
           br (!x_40)
            (some (.inl ()))
            ((tleastG_S N y_3 (y_4.set 0 (z_36.1, v, z_36.2.2)) x_2 7).bind fun x_41 =>
            br (!x_41)
             (some (.inl ()))
             (br (decide (u3 < 6))
              ((tfewestG_S N y_3 (y_4.set 0 (z_36.1, v, z_36.2.2)) x_2).bind fun x_42 =>
              br (!x_42)
               (some (.inl ()))
               ((tevenG_S N y_3 (y_4.set 0 (z_36.1, v, z_36.2.2)) x_2).bind fun x_43 =>
               br (!x_43)
                (some (.inl ()))
                (chk (u3 + 1) <|
                tsmall_l2 N n_ v u u2 (u3 + 1) g)))
              (chk (u3 + 1) <|
              tsmall_l2 N n_ v u u2 (u3 + 1) g)))))))
        (br (decide (u3 = (5 : Int)))
         (get y_4 0 fun z_44 =>
         (tpartsG_S N y_3 (y_4.set 0 (z_44.1, z_44.2.1, v)) x_2 4 7 [4, 2, 2]).bind fun x_45 =>
         br (!x_45)
          (some (.inl ()))
          ((tmarksG_S N y_3 (y_4.set 0 (z_44.1, z_44.2.1, v)) x_2 [0, 1, 1, 1, 1, 1, 2, 2, 3]).bind fun x_46 =>
          br (!x_46)
           (some (.inl ()))
           ((tastrayG_S N y_3 (y_4.set 0 (z_44.1, z_44.2.1, v)) x_2 [4, 2, 2]).bind fun x_47 =>
           br (!x_47)
            (some (.inl ()))
            ((tshorterG_S N y_3 (y_4.set 0 (z_44.1, z_44.2.1, v)) x_2 [1, 3, 5] 2).bind fun x_48 =>
            br (!x_48)
             (some (.inl ()))
             ((tleastG_S N y_3 (y_4.set 0 (z_44.1, z_44.2.1, v)) x_2 7).bind fun x_49 =>
             br (!x_49)
              (some (.inl ()))
              (br (decide (u3 < 6))
               ((tfewestG_S N y_3 (y_4.set 0 (z_44.1, z_44.2.1, v)) x_2).bind fun x_50 =>
               br (!x_50)
                (some (.inl ()))
                ((tevenG_S N y_3 (y_4.set 0 (z_44.1, z_44.2.1, v)) x_2).bind fun x_51 =>
                br (!x_51)
                 (some (.inl ()))
                 (chk (u3 + 1) <|
                 tsmall_l2 N n_ v u u2 (u3 + 1) g)))
               (chk (u3 + 1) <|
               tsmall_l2 N n_ v u u2 (u3 + 1) g)))))))
         (br (decide (u3 = (6 : Int)))
          (get [4, 2, 2] 0 fun _ =>
          (tpartsG_S N y_3 y_4 x_2 4 7 ([4, 2, 2].set 0 v)).bind fun x_53 =>
          br (!x_53)
           (some (.inl ()))
           ((tmarksG_S N y_3 y_4 x_2 [0, 1, 1, 1, 1, 1, 2, 2, 3]).bind fun x_54 =>
           br (!x_54)
            (some (.inl ()))
            ((tastrayG_S N y_3 y_4 x_2 ([4, 2, 2].set 0 v)).bind fun x_55 =>
            br (!x_55)
             (some (.inl ()))
             ((tshorterG_S N y_3 y_4 x_2 [1, 3, 5] 2).bind fun x_56 =>
             br (!x_56)
              (some (.inl ()))
              ((tleastG_S N y_3 y_4 x_2 7).bind fun x_57 =>
              br (!x_57)
               (some (.inl ()))
               (br (decide (u3 < 6))
                ((tfewestG_S N y_3 y_4 x_2).bind fun x_58 =>
                br (!x_58)
                 (some (.inl ()))
                 ((tevenG_S N y_3 y_4 x_2).bind fun x_59 =>
                 br (!x_59)
                  (some (.inl ()))
                  (chk (u3 + 1) <|
                  tsmall_l2 N n_ v u u2 (u3 + 1) g)))
                (chk (u3 + 1) <|
                tsmall_l2 N n_ v u u2 (u3 + 1) g)))))))
          (br (decide (u3 = (7 : Int)))
           (get [4, 2, 2] 2 fun _ =>
           (tpartsG_S N y_3 y_4 x_2 4 7 ([4, 2, 2].set 2 v)).bind fun x_61 =>
           br (!x_61)
            (some (.inl ()))
            ((tmarksG_S N y_3 y_4 x_2 [0, 1, 1, 1, 1, 1, 2, 2, 3]).bind fun x_62 =>
            br (!x_62)
             (some (.inl ()))
             ((tastrayG_S N y_3 y_4 x_2 ([4, 2, 2].set 2 v)).bind fun x_63 =>
             br (!x_63)
              (some (.inl ()))
              ((tshorterG_S N y_3 y_4 x_2 [1, 3, 5] 2).bind fun x_64 =>
              br (!x_64)
               (some (.inl ()))
               ((tleastG_S N y_3 y_4 x_2 7).bind fun x_65 =>
               br (!x_65)
                (some (.inl ()))
                (br (decide (u3 < 6))
                 ((tfewestG_S N y_3 y_4 x_2).bind fun x_66 =>
                 br (!x_66)
                  (some (.inl ()))
                  ((tevenG_S N y_3 y_4 x_2).bind fun x_67 =>
                  br (!x_67)
                   (some (.inl ()))
                   (chk (u3 + 1) <|
                   tsmall_l2 N n_ v u u2 (u3 + 1) g)))
                 (chk (u3 + 1) <|
                 tsmall_l2 N n_ v u u2 (u3 + 1) g)))))))
           (br (decide (u3 = (8 : Int)))
            (get [0, 1, 1, 1, 1, 1, 2, 2, 3] 0 fun _ =>
            (tpartsG_S N y_3 y_4 x_2 4 7 [4, 2, 2]).bind fun x_69 =>
            br (!x_69)
             (some (.inl ()))
             ((tmarksG_S N y_3 y_4 x_2 ([0, 1, 1, 1, 1, 1, 2, 2, 3].set 0 v)).bind fun x_70 =>
             br (!x_70)
              (some (.inl ()))
              ((tastrayG_S N y_3 y_4 x_2 [4, 2, 2]).bind fun x_71 =>
              br (!x_71)
               (some (.inl ()))
               ((tshorterG_S N y_3 y_4 x_2 [1, 3, 5] 2).bind fun x_72 =>
               br (!x_72)
                (some (.inl ()))
                ((tleastG_S N y_3 y_4 x_2 7).bind fun x_73 =>
                br (!x_73)
                 (some (.inl ()))
                 (br (decide (u3 < 6))
                  ((tfewestG_S N y_3 y_4 x_2).bind fun x_74 =>
                  br (!x_74)
                   (some (.inl ()))
                   ((tevenG_S N y_3 y_4 x_2).bind fun x_75 =>
                   br (!x_75)
                    (some (.inl ()))
                    (chk (u3 + 1) <|
                    tsmall_l2 N n_ v u u2 (u3 + 1) g)))
                  (chk (u3 + 1) <|
                  tsmall_l2 N n_ v u u2 (u3 + 1) g)))))))
            (br (decide (u3 = (9 : Int)))
             (get [0, 1, 1, 1, 1, 1, 2, 2, 3] 8 fun _ =>
             (tpartsG_S N y_3 y_4 x_2 4 7 [4, 2, 2]).bind fun x_77 =>
             br (!x_77)
              (some (.inl ()))
              ((tmarksG_S N y_3 y_4 x_2 ([0, 1, 1, 1, 1, 1, 2, 2, 3].set 8 v)).bind fun x_78 =>
              br (!x_78)
               (some (.inl ()))
               ((tastrayG_S N y_3 y_4 x_2 [4, 2, 2]).bind fun x_79 =>
               br (!x_79)
                (some (.inl ()))
                ((tshorterG_S N y_3 y_4 x_2 [1, 3, 5] 2).bind fun x_80 =>
                br (!x_80)
                 (some (.inl ()))
                 ((tleastG_S N y_3 y_4 x_2 7).bind fun x_81 =>
                 br (!x_81)
                  (some (.inl ()))
                  (br (decide (u3 < 6))
                   ((tfewestG_S N y_3 y_4 x_2).bind fun x_82 =>
                   br (!x_82)
                    (some (.inl ()))
                    ((tevenG_S N y_3 y_4 x_2).bind fun x_83 =>
                    br (!x_83)
                     (some (.inl ()))
                     (chk (u3 + 1) <|
                     tsmall_l2 N n_ v u u2 (u3 + 1) g)))
                   (chk (u3 + 1) <|
                   tsmall_l2 N n_ v u u2 (u3 + 1) g)))))))
             (br (decide (u3 = (10 : Int)))
              (get [1, 3, 5] 0 fun _ =>
              (tpartsG_S N y_3 y_4 x_2 4 7 [4, 2, 2]).bind fun x_85 =>
              br (!x_85)
               (some (.inl ()))
               ((tmarksG_S N y_3 y_4 x_2 [0, 1, 1, 1, 1, 1, 2, 2, 3]).bind fun x_86 =>
               br (!x_86)
                (some (.inl ()))
                ((tastrayG_S N y_3 y_4 x_2 [4, 2, 2]).bind fun x_87 =>
                br (!x_87)
                 (some (.inl ()))
                 ((tshorterG_S N y_3 y_4 x_2 ([1, 3, 5].set 0 v) 2).bind fun x_88 =>
                 br (!x_88)
                  (some (.inl ()))
                  ((tleastG_S N y_3 y_4 x_2 7).bind fun x_89 =>
                  br (!x_89)
                   (some (.inl ()))
                   (br (decide (u3 < 6))
                    ((tfewestG_S N y_3 y_4 x_2).bind fun x_90 =>
                    br (!x_90)
                     (some (.inl ()))
                     ((tevenG_S N y_3 y_4 x_2).bind fun x_91 =>
                     br (!x_91)
                      (some (.inl ()))
                      (chk (u3 + 1) <|
                      tsmall_l2 N n_ v u u2 (u3 + 1) g)))
                    (chk (u3 + 1) <|
                    tsmall_l2 N n_ v u u2 (u3 + 1) g)))))))
              (br (decide (u3 = (11 : Int)))
               (get [1, 3, 5] 2 fun _ =>
               (tpartsG_S N y_3 y_4 x_2 4 7 [4, 2, 2]).bind fun x_93 =>
               br (!x_93)
                (some (.inl ()))
                ((tmarksG_S N y_3 y_4 x_2 [0, 1, 1, 1, 1, 1, 2, 2, 3]).bind fun x_94 =>
                br (!x_94)
                 (some (.inl ()))
                 ((tastrayG_S N y_3 y_4 x_2 [4, 2, 2]).bind fun x_95 =>
                 br (!x_95)
                  (some (.inl ()))
                  ((tshorterG_S N y_3 y_4 x_2 ([1, 3, 5].set 2 v) 2).bind fun x_96 =>
                  br (!x_96)
                   (some (.inl ()))
                   ((tleastG_S N y_3 y_4 x_2 7).bind fun x_97 =>
                   br (!x_97)
                    (some (.inl ()))
                    (br (decide (u3 < 6))
                     ((tfewestG_S N y_3 y_4 x_2).bind fun x_98 =>
                     br (!x_98)
                      (some (.inl ()))
                      ((tevenG_S N y_3 y_4 x_2).bind fun x_99 =>
                      br (!x_99)
                       (some (.inl ()))
                       (chk (u3 + 1) <|
                       tsmall_l2 N n_ v u u2 (u3 + 1) g)))
                     (chk (u3 + 1) <|
                     tsmall_l2 N n_ v u u2 (u3 + 1) g)))))))
               (br (decide (u3 = (12 : Int)))
                ((tpartsG_S N y_3 y_4 x_2 v 7 [4, 2, 2]).bind fun x_100 =>
                br (!x_100)
                 (some (.inl ()))
                 ((tmarksG_S N y_3 y_4 x_2 [0, 1, 1, 1, 1, 1, 2, 2, 3]).bind fun x_101 =>
                 br (!x_101)
                  (some (.inl ()))
                  ((tastrayG_S N y_3 y_4 x_2 [4, 2, 2]).bind fun x_102 =>
                  br (!x_102)
                   (some (.inl ()))
                   ((tshorterG_S N y_3 y_4 x_2 [1, 3, 5] 2).bind fun x_103 =>
                   br (!x_103)
                    (some (.inl ()))
                    ((tleastG_S N y_3 y_4 x_2 7).bind fun x_104 =>
                    br (!x_104)
                     (some (.inl ()))
                     (br (decide (u3 < 6))
                      ((tfewestG_S N y_3 y_4 x_2).bind fun x_105 =>
                      br (!x_105)
                       (some (.inl ()))
                       ((tevenG_S N y_3 y_4 x_2).bind fun x_106 =>
                       br (!x_106)
                        (some (.inl ()))
                        (chk (u3 + 1) <|
                        tsmall_l2 N n_ v u u2 (u3 + 1) g)))
                      (chk (u3 + 1) <|
                      tsmall_l2 N n_ v u u2 (u3 + 1) g)))))))
                (br (decide (u3 = (13 : Int)))
                 ((tpartsG_S N y_3 y_4 x_2 4 v [4, 2, 2]).bind fun x_107 =>
                 br (!x_107)
                  (some (.inl ()))
                  ((tmarksG_S N y_3 y_4 x_2 [0, 1, 1, 1, 1, 1, 2, 2, 3]).bind fun x_108 =>
                  br (!x_108)
                   (some (.inl ()))
                   ((tastrayG_S N y_3 y_4 x_2 [4, 2, 2]).bind fun x_109 =>
                   br (!x_109)
                    (some (.inl ()))
                    ((tshorterG_S N y_3 y_4 x_2 [1, 3, 5] 2).bind fun x_110 =>
                    br (!x_110)
                     (some (.inl ()))
                     ((tleastG_S N y_3 y_4 x_2 7).bind fun x_111 =>
                     br (!x_111)
                      (some (.inl ()))
                      (br (decide (u3 < 6))
                       ((tfewestG_S N y_3 y_4 x_2).bind fun x_112 =>
                       br (!x_112)
                        (some (.inl ()))
                        ((tevenG_S N y_3 y_4 x_2).bind fun x_113 =>
                        br (!x_113)
                         (some (.inl ()))
                         (chk (u3 + 1) <|
                         tsmall_l2 N n_ v u u2 (u3 + 1) g)))
                       (chk (u3 + 1) <|
                       tsmall_l2 N n_ v u u2 (u3 + 1) g)))))))
                 (br (decide (u3 = (14 : Int)))
                  ((tpartsG_S N y_3 y_4 x_2 4 7 [4, 2, 2]).bind fun x_114 =>
                  br (!x_114)
                   (some (.inl ()))
                   ((tmarksG_S N y_3 y_4 x_2 [0, 1, 1, 1, 1, 1, 2, 2, 3]).bind fun x_115 =>
                   br (!x_115)
                    (some (.inl ()))
                    ((tastrayG_S N y_3 y_4 x_2 [4, 2, 2]).bind fun x_116 =>
                    br (!x_116)
                     (some (.inl ()))
                     ((tshorterG_S N y_3 y_4 x_2 [1, 3, 5] v).bind fun x_117 =>
                     br (!x_117)
                      (some (.inl ()))
                      ((tleastG_S N y_3 y_4 x_2 7).bind fun x_118 =>
                      br (!x_118)
                       (some (.inl ()))
                       (br (decide (u3 < 6))
                        ((tfewestG_S N y_3 y_4 x_2).bind fun x_119 =>
                        br (!x_119)
                         (some (.inl ()))
                         ((tevenG_S N y_3 y_4 x_2).bind fun x_120 =>
                         br (!x_120)
                          (some (.inl ()))
                          (chk (u3 + 1) <|
                          tsmall_l2 N n_ v u u2 (u3 + 1) g)))
                        (chk (u3 + 1) <|
                        tsmall_l2 N n_ v u u2 (u3 + 1) g)))))))
                  (br (decide (u3 = (15 : Int)))
                   ((tpartsG_S N y_3 y_4 x_2 4 7 [4, 2, 2]).bind fun x_121 =>
                   br (!x_121)
                    (some (.inl ()))
                    ((tmarksG_S N y_3 y_4 x_2 [0, 1, 1, 1, 1, 1, 2, 2, 3]).bind fun x_122 =>
                    br (!x_122)
                     (some (.inl ()))
                     ((tastrayG_S N y_3 y_4 x_2 [4, 2, 2]).bind fun x_123 =>
                     br (!x_123)
                      (some (.inl ()))
                      ((tshorterG_S N y_3 y_4 x_2 [1, 3, 5] 2).bind fun x_124 =>
                      br (!x_124)
                       (some (.inl ()))
                       ((tleastG_S N y_3 y_4 x_2 v).bind fun x_125 =>
                       br (!x_125)
                        (some (.inl ()))
                        (br (decide (u3 < 6))
                         ((tfewestG_S N y_3 y_4 x_2).bind fun x_126 =>
                         br (!x_126)
                          (some (.inl ()))
                          ((tevenG_S N y_3 y_4 x_2).bind fun x_127 =>
                          br (!x_127)
                           (some (.inl ()))
                           (chk (u3 + 1) <|
                           tsmall_l2 N n_ v u u2 (u3 + 1) g)))
                         (chk (u3 + 1) <|
                         tsmall_l2 N n_ v u u2 (u3 + 1) g)))))))
                   (none)))))))))))))))))
   (some (.inr (u, u2, g)))
def tsmall_l1 (N : Nat) : Nat → Int → Int → Qg → Option ((Unit) ⊕ (Unit))
 | 0, _, _, _ => none
 | n_ + 1, u, u2, g =>
  br (decide (u2 < u))
   (rng u2 g.length <|
   get g u2.toNat fun x_1 =>
   (tsmall_l2 N N x_1 u u2 0 g).bind fun e => match e with
   | .inl _ =>
    some (.inl ())
   | .inr (u_128, u2_129, g_130) =>
    chk (u2_129 + 1) <|
    tsmall_l1 N n_ u_128 (u2_129 + 1) g_130)
   (some (.inr ()))
def tsmall_l4 (N : Nat) : Nat → Int → Int → Int → Int → Int → Qh → Option (Int × Int × Int × Qh)
 | 0, _, _, _, _, _, _ => none
 | n_ + 1, n, u, u2, u3, t, t2 =>
  br (decide (u3 < u2))
   (chk (u3 + 1) <|
   grd (!decide ((u3 + 1) = 0)) <|
   chk (1 + (Int.tmod (IntKind.i64.wrap (Int.tdiv n (u3 + 1))) 3)) <|
   chk (u3 + 2) <|
   grd (!decide ((u3 + 2) = 0)) <|
   grd (decide (0 ≤ u3 ∧ u3 ≤ 31)) <|
   grd (decide (0 ≤ (Int.fdiv n (2 ^ u3.toNat)) ∧ (0 : Int) ≤ 1)) <|
   br (decide ((((Int.fdiv n (2 ^ u3.toNat)).toNat &&& 1 : Nat) : Int) = 0))
    (lim (t2.length + [((1 + (Int.tmod (IntKind.i64.wrap (Int.tdiv n (u3 + 1))) 3)), (Int.tmod (IntKind.i64.wrap (Int.tdiv n (u3 + 2))) 4), true)].length) <|
    chk (u3 + 1) <|
    tsmall_l4 N n_ n u u2 (u3 + 1) t (t2 ++ [((1 + (Int.tmod (IntKind.i64.wrap (Int.tdiv n (u3 + 1))) 3)), (Int.tmod (IntKind.i64.wrap (Int.tdiv n (u3 + 2))) 4), true)]))
    (lim (t2.length + [((1 + (Int.tmod (IntKind.i64.wrap (Int.tdiv n (u3 + 1))) 3)), (Int.tmod (IntKind.i64.wrap (Int.tdiv n (u3 + 2))) 4), (decide ((Int.tmod u3 3) = 2)))].length) <|
    chk (u3 + 1) <|
    tsmall_l4 N n_ n u u2 (u3 + 1) t (t2 ++ [((1 + (Int.tmod (IntKind.i64.wrap (Int.tdiv n (u3 + 1))) 3)), (Int.tmod (IntKind.i64.wrap (Int.tdiv n (u3 + 2))) 4), (decide ((Int.tmod u3 3) = 2)))])))
   (some ((n, u, t, t2)))
def tsmall_l5 (N : Nat) : Nat → Int → Int → Int → Int → Int → Qh → Qi → Option (Int × Int × Int × Qh × Qi)
 | 0, _, _, _, _, _, _, _ => none
 | n_ + 1, n, u, u2, u3, t, t2, t3 =>
  br (decide (u3 < u2))
   (chk (u3 + 1) <|
   grd (!decide ((u3 + 1) = 0)) <|
   grd (!decide ((t2.length : Int) = 0)) <|
   chk (u3 + 3) <|
   grd (!decide ((u3 + 3) = 0)) <|
   grd (!decide ((t2.length : Int) = 0)) <|
   chk ((t2.length : Int) - 1) <|
   chk (u3 + 2) <|
   grd (!decide ((u3 + 2) = 0)) <|
   chk ((Int.tmod (IntKind.i64.wrap (Int.tdiv n (u3 + 3))) (t2.length : Int)) + (Int.tmod (IntKind.i64.wrap (Int.tdiv n (u3 + 2))) 3)) <|
   lim (t3.length + [((Int.tmod (IntKind.i64.wrap (Int.tdiv n (u3 + 1))) (t2.length : Int)), (Int.tmod (IntKind.i64.wrap (Int.tdiv n (u3 + 3))) (t2.length : Int)), (min ((t2.length : Int) - 1) ((Int.tmod (IntKind.i64.wrap (Int.tdiv n (u3 + 3))) (t2.length : Int)) + (Int.tmod (IntKind.i64.wrap (Int.tdiv n (u3 + 2))) 3))))].length) <|
   chk (u3 + 1) <|
   tsmall_l5 N n_ n u u2 (u3 + 1) t t2 (t3 ++ [((Int.tmod (IntKind.i64.wrap (Int.tdiv n (u3 + 1))) (t2.length : Int)), (Int.tmod (IntKind.i64.wrap (Int.tdiv n (u3 + 3))) (t2.length : Int)), (min ((t2.length : Int) - 1) ((Int.tmod (IntKind.i64.wrap (Int.tdiv n (u3 + 3))) (t2.length : Int)) + (Int.tmod (IntKind.i64.wrap (Int.tdiv n (u3 + 2))) 3))))]))
   (some ((n, u, t, t2, t3)))
def tsmall_j3 (N : Nat) (rec : Int → Option ((Unit) ⊕ (Unit))) (n u : Int) (t : List Qe) (t2 : List Qf) (t3 : Int) (l m k : List Int) : Option ((Unit) ⊕ (Unit)) :=
 (tpartsG_S N t t2 t3 (Int.tmod n 3) (Int.tmod n 5) l).bind fun x_152 =>
 br (!x_152)
  (some (.inl ()))
  ((tfewestG_S N t t2 t3).bind fun x_153 =>
  br (!x_153)
   (some (.inl ()))
   ((tmarksG_S N t t2 t3 m).bind fun x_154 =>
   br (!x_154)
    (some (.inl ()))
    ((tevenG_S N t t2 t3).bind fun x_155 =>
    br (!x_155)
     (some (.inl ()))
     ((tastrayG_S N t t2 t3 l).bind fun x_156 =>
     br (!x_156)
      (some (.inl ()))
      ((tshorterG_S N t t2 t3 k (Int.tmod n 4)).bind fun x_157 =>
      br (!x_157)
       (some (.inl ()))
       ((tleastG_S N t t2 t3 (Int.tmod n 9)).bind fun x_158 =>
       br (!x_158)
        (some (.inl ()))
        (chk (u + 1) <|
        rec (u + 1))))))))
def tsmall_j2 (N : Nat) (rec : Int → Option ((Unit) ⊕ (Unit))) (n u : Int) (t : List Qe) (t2 : List Qf) (t3 : Int) (l m k : List Int) : Option ((Unit) ⊕ (Unit)) :=
 br (decide ((Int.tmod n 3) = 2))
  (br (decide (0 < (k.length : Int)))
   (grd (!decide ((k.length : Int) = 0)) <|
   rng (Int.tmod n (k.length : Int)) k.length <|
   get k ((Int.tmod n (k.length : Int)).toNat) fun x_150 =>
   chk (x_150 + 1) <|
   rng (Int.tmod n (k.length : Int)) k.length <|
   get k ((Int.tmod n (k.length : Int)).toNat) fun _ =>
   tsmall_j3 N (rec) n u t t2 t3 l m (k.set ((Int.tmod n (k.length : Int)).toNat) (x_150 + 1)))
   (tsmall_j3 N (rec) n u t t2 t3 l m k))
  (tsmall_j3 N (rec) n u t t2 t3 l m k)
def tsmall_j1 (N : Nat) (rec : Int → Option ((Unit) ⊕ (Unit))) (n u : Int) (t : List Qe) (t2 : List Qf) (t3 : Int) (l m k : List Int) : Option ((Unit) ⊕ (Unit)) :=
 br (decide ((Int.tmod n 3) = 1))
  (br (decide (0 < (m.length : Int)))
   (grd (!decide ((m.length : Int) = 0)) <|
   rng (Int.tmod n (m.length : Int)) m.length <|
   get m ((Int.tmod n (m.length : Int)).toNat) fun x_148 =>
   chk (x_148 + (Int.tmod n 4)) <|
   rng (Int.tmod n (m.length : Int)) m.length <|
   get m ((Int.tmod n (m.length : Int)).toNat) fun _ =>
   tsmall_j2 N (rec) n u t t2 t3 l (m.set ((Int.tmod n (m.length : Int)).toNat) (x_148 + (Int.tmod n 4))) k)
   (tsmall_j2 N (rec) n u t t2 t3 l m k))
  (tsmall_j2 N (rec) n u t t2 t3 l m k)
def tsmall_l3 (N : Nat) : Nat → Int → Option ((Unit) ⊕ (Unit))
 | 0, _ => none
 | n_ + 1, u =>
  br (decide (u < 120))
   (chk (2 + (Int.tmod u 5)) <|
   chk (3 + (Int.tmod u 4)) <|
   (tsmall_l4 N N u u (3 + (Int.tmod u 4)) 0 (2 + (Int.tmod u 5)) []).bind fun (n_131, u_132, t_133, t2_134) =>
   (tsmall_l5 N N n_131 u_132 (Int.tmod (IntKind.i64.wrap (Int.tdiv n_131 2)) 3) 0 t_133 t2_134 []).bind fun (n_135, u_136, t_137, t2_138, t3_139) =>
   (fewesto_S N t2_138 t3_139 t_137).bind fun (x_140, y_141) =>
   (markso_S N t2_138 t3_139 t_137).bind fun (x_142, y_143) =>
   (leasto_S N t2_138 t3_139 t_137 (Int.tmod n_135 9)).bind fun (x_144, y_145) =>
   br (decide ((Int.tmod n_135 3) = 0))
    (br (decide (0 < (y_141.length : Int)))
     (grd (!decide ((y_141.length : Int) = 0)) <|
     rng (Int.tmod n_135 (y_141.length : Int)) y_141.length <|
     get y_141 ((Int.tmod n_135 (y_141.length : Int)).toNat) fun x_146 =>
     chk (x_146 + 1) <|
     rng (Int.tmod n_135 (y_141.length : Int)) y_141.length <|
     get y_141 ((Int.tmod n_135 (y_141.length : Int)).toNat) fun _ =>
     tsmall_j1 N (tsmall_l3 N n_) n_135 u_136 t2_138 t3_139 t_137 (y_141.set ((Int.tmod n_135 (y_141.length : Int)).toNat) (x_146 + 1)) y_143 y_145)
     (tsmall_j1 N (tsmall_l3 N n_) n_135 u_136 t2_138 t3_139 t_137 y_141 y_143 y_145))
    (tsmall_j1 N (tsmall_l3 N n_) n_135 u_136 t2_138 t3_139 t_137 y_141 y_143 y_145))
   (some (.inr ()))
def tsmall_l7 (N : Nat) : Nat → Int → Int → Int → Int → Int → Int → Qg → Qg → Qh → Qh → Qi → Option (Int × Int × Int × Int × List Int × List Int × Qh × Qh × Qi)
 | 0, _, _, _, _, _, _, _, _, _, _, _ => none
 | n_ + 1, n, u, u2, u3, words, turns, reading, kept, words2, turns2, turns3 =>
  br (decide (u3 < u2))
   ((word__S N (Int.tmod u3 3) (decide ((Int.tmod u3 2) = 0))).bind fun (x_162, y_163, y_164) =>
   lim (words2.length + [(x_162, y_163, y_164)].length) <|
   chk (3 + (Int.tmod u3 5)) <|
   lim (turns3.length + [((Int.tmod u3 3), 3, (3 + (Int.tmod u3 5)))].length) <|
   lim (reading.length + [1].length) <|
   lim (kept.length + [u3].length) <|
   chk (u3 + 1) <|
   tsmall_l7 N n_ n u u2 (u3 + 1) words turns (reading ++ [1]) (kept ++ [u3]) (words2 ++ [(x_162, y_163, y_164)]) turns2 (turns3 ++ [((Int.tmod u3 3), 3, (3 + (Int.tmod u3 5)))]))
   (some ((n, u, words, turns, reading, kept, words2, turns2, turns3)))
def tsmall_l6 (N : Nat) : Nat → Int → Option ((Unit) ⊕ ((Unit) ⊕ (Unit)))
 | 0, _ => none
 | n_ + 1, u =>
  br (decide (u < 15))
   ((gateo_S N 5).bind fun (x_159, y_160, y_161) =>
   (tsmall_l7 N N u u u 0 40 x_159 [] [] [] y_160 []).bind fun (n_165, u_166, words_167, turns_168, reading_169, kept_170, words2_171, turns2_172, turns3_173) =>
   (tpartsG_S N words2_171 [] words_167 0 0 reading_169).bind fun x_174 =>
   br (!x_174)
    (some (.inl ()))
    ((tastrayG_S N words2_171 [] words_167 reading_169).bind fun x_175 =>
    br (!x_175)
     (some (.inl ()))
     ((tshorterG_S N words2_171 [] words_167 kept_170 1).bind fun x_176 =>
     br (!x_176)
      (some (.inl ()))
      ((tpartsG_S N turns2_172 turns3_173 turns_168 3 7 [2, 4, 2]).bind fun x_177 =>
      br (!x_177)
       (some (.inl ()))
       ((tastrayG_S N turns2_172 turns3_173 turns_168 [2, 4, 2]).bind fun x_178 =>
       br (!x_178)
        (some (.inl ()))
        ((tmarksG_S N turns2_172 turns3_173 turns_168 []).bind fun x_179 =>
        br (!x_179)
         (some (.inl ()))
         (br (decide (n_165 < 9))
          (chk (n_165 + 1) <|
          grd (lmI (n_165 + 1)) <|
          (tmarksG_S N words2_171 [] words_167 (List.replicate (n_165 + 1).toNat (0 : Int))).bind fun x_180 =>
          br (!x_180)
           (some (.inl ()))
           ((tfewestG_S N words2_171 [] words_167).bind fun x_181 =>
           br (!x_181)
            (some (.inl ()))
            ((tevenG_S N words2_171 [] words_167).bind fun x_182 =>
            br (!x_182)
             (some (.inl ()))
             ((tleastG_S N words2_171 [] words_167 n_165).bind fun x_183 =>
             br (!x_183)
              (some (.inl ()))
              ((check_S N words2_171 [] words_167).bind fun x_184 =>
              br (decide (0 < n_165))
               (br (!((decide (x_184 = 0)) == (decide (n_165 < 13))))
                (some (.inr (.inl ())))
                ((check_S N turns2_172 turns3_173 turns_168).bind fun x_185 =>
                br (!((decide (x_185 = 0)) == (decide (n_165 < 7))))
                 (some (.inr (.inl ())))
                 (chk (u_166 + 1) <|
                 tsmall_l6 N n_ (u_166 + 1))))
               (br (!((decide (x_184 = 0)) == false))
                (some (.inr (.inl ())))
                ((check_S N turns2_172 turns3_173 turns_168).bind fun x_186 =>
                br (!((decide (x_186 = 0)) == (decide (n_165 < 7))))
                 (some (.inr (.inl ())))
                 (chk (u_166 + 1) <|
                 tsmall_l6 N n_ (u_166 + 1)))))))))
          (br (decide (12 < n_165))
           (chk (n_165 + 1) <|
           grd (lmI (n_165 + 1)) <|
           (tmarksG_S N words2_171 [] words_167 (List.replicate (n_165 + 1).toNat (0 : Int))).bind fun x_187 =>
           br (!x_187)
            (some (.inl ()))
            ((tfewestG_S N words2_171 [] words_167).bind fun x_188 =>
            br (!x_188)
             (some (.inl ()))
             ((tevenG_S N words2_171 [] words_167).bind fun x_189 =>
             br (!x_189)
              (some (.inl ()))
              ((tleastG_S N words2_171 [] words_167 n_165).bind fun x_190 =>
              br (!x_190)
               (some (.inl ()))
               ((check_S N words2_171 [] words_167).bind fun x_191 =>
               br (decide (0 < n_165))
                (br (!((decide (x_191 = 0)) == (decide (n_165 < 13))))
                 (some (.inr (.inl ())))
                 ((check_S N turns2_172 turns3_173 turns_168).bind fun x_192 =>
                 br (!((decide (x_192 = 0)) == (decide (n_165 < 7))))
                  (some (.inr (.inl ())))
                  (chk (u_166 + 1) <|
                  tsmall_l6 N n_ (u_166 + 1))))
                (br (!((decide (x_191 = 0)) == false))
                 (some (.inr (.inl ())))
                 ((check_S N turns2_172 turns3_173 turns_168).bind fun x_193 =>
                 br (!((decide (x_193 = 0)) == (decide (n_165 < 7))))
                  (some (.inr (.inl ())))
                  (chk (u_166 + 1) <|
                  tsmall_l6 N n_ (u_166 + 1)))))))))
           ((check_S N words2_171 [] words_167).bind fun x_194 =>
           br (decide (0 < n_165))
            (br (!((decide (x_194 = 0)) == (decide (n_165 < 13))))
             (some (.inr (.inl ())))
             ((check_S N turns2_172 turns3_173 turns_168).bind fun x_195 =>
             br (!((decide (x_195 = 0)) == (decide (n_165 < 7))))
              (some (.inr (.inl ())))
              (chk (u_166 + 1) <|
              tsmall_l6 N n_ (u_166 + 1))))
            (br (!((decide (x_194 = 0)) == false))
             (some (.inr (.inl ())))
             ((check_S N turns2_172 turns3_173 turns_168).bind fun x_196 =>
             br (!((decide (x_196 = 0)) == (decide (n_165 < 7))))
              (some (.inr (.inl ())))
              (chk (u_166 + 1) <|
              tsmall_l6 N n_ (u_166 + 1)))))))))))))
   (some (.inr (.inr ())))
def tsmall_S (N : Nat)  : Option Bool :=
 (tsmall_l1 N N ([-9223372036854775808, -1, 0, 1, 2, 4, 7, 8, 9, 10, 12, 13, 20, 21, 40, 41, 99, 100, 101, 9223372036854775807].length : Int) 0 [-9223372036854775808, -1, 0, 1, 2, 4, 7, 8, 9, 10, 12, 13, 20, 21, 40, 41, 99, 100, 101, 9223372036854775807]).bind fun e => match e with
 | .inl _ =>
  some false
 | .inr _ =>
  (tsmall_l3 N N 0).bind fun e => match e with
  | .inl _ =>
   some false
  | .inr _ =>
   (tsmall_l6 N N 0).bind fun e => match e with
   | .inl _ =>
    some false
   | .inr (.inl _) =>
    some false
   | .inr (.inr _) =>
    (awake_S N).bind fun x_197 =>
    some x_197
noncomputable def tsmall_sp (N : Nat) : Oks := [⟨_, sp_tpartsG_ok N⟩, ⟨_, sp_tmarksG_ok N⟩, ⟨_, sp_tastrayG_ok N⟩, ⟨_, sp_tshorterG_ok N⟩, ⟨_, sp_tleastG_ok N⟩, ⟨_, sp_tfewestG_ok N⟩, ⟨_, sp_tevenG_ok N⟩, ⟨_, sp_gateo_ok N⟩, ⟨_, sp_fewesto_ok N⟩, ⟨_, sp_markso_ok N⟩, ⟨_, sp_leasto_ok N⟩, ⟨_, sp_check_ok N⟩, ⟨_, sp_word__ok N⟩, ⟨_, sp_awake_ok N⟩]
abbrev tsmall_o : List StSh := [⟨[.b], []⟩]
noncomputable abbrev tsmall_B : Body := mkB Tryz.f3 tsmall_o 0
noncomputable def tsmall_l2_L (N : Nat) {top : Bool} : LpQ tsmall_B top := mkL (Z := (Unit) ⊕ (Int × Int × List Int)) (tsmall_sp N) [] [.c [1, 0, 1, 0, 0, 1, 1, 0, 0, 1, 1, 0, 0, 0], .c [1, 0, 1, 0, 0, 1, 1, 0, 0, 1, 1, 0, 0, 1], .l [1, 0, 1, 0, 0, 1, 1, 0, 0, 1, 1, 0, 0], .b 2, .b 1, .c [1, 0, 1, 0, 0, 1, 1, 1], .l [1, 0, 1, 0, 0], .b 0, .c [1, 1]] ⟨[2, 30, 31, 32, 36], ⟨[.i .i64, .ols 0, .i .i64, .i .i64, .i .i64], [.lst (.int .i64)]⟩⟩ (fun m p => tsmall_l2 N m p.1.1 p.1.2.2.1 p.1.2.2.2.1 p.1.2.2.2.2.1 p.2.1) [⟨[.c [1, 0, 1, 0, 0, 1, 1, 0, 0, 1, 1, 0, 0, 1, 1, 0, 0, 1, 1, 1, 1, 1, 1, 0, 0], .c [1, 0, 1, 0, 0, 1, 1, 0, 0, 1, 1, 0, 0, 1, 1, 0, 0, 1, 1, 1, 1, 1, 1, 0, 1], .b 3, .c [1, 0, 1, 0, 0, 1, 1, 0, 0, 1, 1, 0, 0, 1, 1, 1], .l [1, 0, 1, 0, 0, 1, 1, 0, 0, 1, 1, 0, 0], .b 2, .b 1, .c [1, 0, 1, 0, 0, 1, 1, 1], .l [1, 0, 1, 0, 0], .b 0, .c [1, 1]], ⟨[], ⟨[], []⟩⟩, fun p => some (.inl ())⟩, ⟨[.c [1, 0, 1, 0, 0, 1, 1, 1], .l [1, 0, 1, 0, 0], .b 0, .c [1, 1]], ⟨[30, 31, 32], ⟨[.ols 0, .i .i64, .i .i64], [.lst (.int .i64)]⟩⟩, fun p => some (.inr (p.1.2.1, p.1.2.2.1, p.2.1))⟩] (fun _ => []) (fun k e => match e with | .inl x => k (.inl ((), ())) | .inr x => k (.inr (.inl (((), x.1, x.2.1, ()), (x.2.2, ()))))) N (fun m p => by kernel_rfl) (hg := (by rintro _ _ (_ | _) <;> rfl))
noncomputable def tsmall_l1_L (N : Nat) {top : Bool} : LpQ tsmall_B top := mkL (Z := (Unit) ⊕ (Unit)) (tsmall_sp N) [tsmall_l2_L N] [.c [1, 0, 1, 0, 0, 0], .c [1, 0, 1, 0, 0, 1], .l [1, 0, 1, 0, 0], .b 0, .c [1, 1]] ⟨[30, 31, 32], ⟨[.ols 0, .i .i64, .i .i64], [.lst (.int .i64)]⟩⟩ (fun m p => tsmall_l1 N m p.1.2.1 p.1.2.2.1 p.2.1) [⟨[.c [1, 0, 1, 0, 0, 1, 1, 0, 0, 1, 1, 0, 0, 1, 1, 0, 0, 1, 1, 1, 1, 1, 1, 0, 0], .c [1, 0, 1, 0, 0, 1, 1, 0, 0, 1, 1, 0, 0, 1, 1, 0, 0, 1, 1, 1, 1, 1, 1, 0, 1], .b 3, .c [1, 0, 1, 0, 0, 1, 1, 0, 0, 1, 1, 0, 0, 1, 1, 1], .l [1, 0, 1, 0, 0, 1, 1, 0, 0, 1, 1, 0, 0], .b 2, .b 1, .c [1, 0, 1, 0, 0, 1, 1, 1], .l [1, 0, 1, 0, 0], .b 0, .c [1, 1]], ⟨[], ⟨[], []⟩⟩, fun p => some (.inl ())⟩, ⟨[.c [1, 1, 0, 0], .c [1, 1, 0, 1], .c [1, 1, 1]], ⟨[], ⟨[], []⟩⟩, fun p => some (.inr ())⟩] (fun _ => []) (fun k e => match e with | .inl x => k (.inl ((), ())) | .inr x => k (.inr (.inl ((), ())))) N (fun m p => by kernel_rfl) (hg := (by rintro _ _ (_ | _) <;> rfl))
noncomputable def tsmall_l4_L (N : Nat) {top : Bool} : LpQ tsmall_B top := mkL (Z := Int × Int × Int × Qh) (tsmall_sp N) [tsmall_l2_L N, tsmall_l1_L N] [.c [1, 1, 0, 1, 0, 0, 1, 1, 0, 0, 1, 1, 0, 1, 0, 0, 0], .c [1, 1, 0, 1, 0, 0, 1, 1, 0, 0, 1, 1, 0, 1, 0, 0, 1], .l [1, 1, 0, 1, 0, 0, 1, 1, 0, 0, 1, 1, 0, 1, 0, 0], .b 6, .c [1, 1, 0, 1, 0, 0, 1, 1, 0, 0, 1, 1, 1], .b 5, .c [1, 1, 0, 1, 0, 0, 1, 1, 1], .l [1, 1, 0, 1, 0, 0], .b 4, .c [1, 1, 1]] ⟨[12, 13, 134, 143, 144], ⟨[.i .i64, .own 0 0, .i .i64, .i .i64, .i .i64], [.segs [.ols 1, .nils, .i .i64], .lst Qd]⟩⟩ (fun m p => tsmall_l4 N m p.1.1 p.1.2.2.1 p.1.2.2.2.1 p.1.2.2.2.2.1 p.2.1.2.2.1 p.2.2.1) [⟨[.c [1, 1, 0, 1, 0, 0, 1, 1, 0, 0, 1, 1, 1, 0, 0], .c [1, 1, 0, 1, 0, 0, 1, 1, 0, 0, 1, 1, 1, 0, 1], .c [1, 1, 0, 1, 0, 0, 1, 1, 0, 0, 1, 1, 1, 1], .b 5, .c [1, 1, 0, 1, 0, 0, 1, 1, 1], .l [1, 1, 0, 1, 0, 0], .b 4, .c [1, 1, 1]], ⟨[12, 13, 134], ⟨[.i .i64, .own 0 0, .i .i64], [.segs [.ols 1, .nils, .i .i64], .lst Qd]⟩⟩, fun p => some ((p.1.1, p.1.2.2.1, p.2.1.2.2.1, p.2.2.1))⟩] (fun _ => []) (fun k e => k (.inl ((e.1, (), e.2.1, ()), (((), (), e.2.2.1, ()), e.2.2.2, ())))) N (fun m p => by kernel_rfl)
noncomputable def tsmall_l5_L (N : Nat) {top : Bool} : LpQ tsmall_B top := mkL (Z := Int × Int × Int × Qh × Qi) (tsmall_sp N) [tsmall_l2_L N, tsmall_l1_L N, tsmall_l4_L N] [.c [1, 1, 0, 1, 0, 0, 1, 1, 0, 0, 1, 1, 1, 0, 1, 0, 0, 0], .c [1, 1, 0, 1, 0, 0, 1, 1, 0, 0, 1, 1, 1, 0, 1, 0, 0, 1], .l [1, 1, 0, 1, 0, 0, 1, 1, 0, 0, 1, 1, 1, 0, 1, 0, 0], .b 8, .c [1, 1, 0, 1, 0, 0, 1, 1, 0, 0, 1, 1, 1, 1], .b 5, .c [1, 1, 0, 1, 0, 0, 1, 1, 1], .l [1, 1, 0, 1, 0, 0], .b 4, .c [1, 1, 1]] ⟨[12, 13, 134, 177, 178], ⟨[.i .i64, .own 0 0, .i .i64, .i .i64, .i .i64], [.segs [.ols 1, .ols 2, .i .i64], .lst Qd, .lst Qc]⟩⟩ (fun m p => tsmall_l5 N m p.1.1 p.1.2.2.1 p.1.2.2.2.1 p.1.2.2.2.2.1 p.2.1.2.2.1 p.2.2.1 p.2.2.2.1) [⟨[.c [1, 1, 0, 1, 0, 0, 1, 1, 0, 0, 1, 1, 1, 1, 0], .c [1, 1, 0, 1, 0, 0, 1, 1, 0, 0, 1, 1, 1, 1, 1], .b 5, .c [1, 1, 0, 1, 0, 0, 1, 1, 1], .l [1, 1, 0, 1, 0, 0], .b 4, .c [1, 1, 1]], ⟨[12, 13, 134], ⟨[.i .i64, .own 0 0, .i .i64], [.segs [.ols 1, .ols 2, .i .i64], .lst Qd, .lst Qc]⟩⟩, fun p => some ((p.1.1, p.1.2.2.1, p.2.1.2.2.1, p.2.2.1, p.2.2.2.1))⟩] (fun _ => []) (fun k e => k (.inl ((e.1, (), e.2.1, ()), (((), (), e.2.2.1, ()), e.2.2.2.1, e.2.2.2.2, ())))) N (fun m p => by kernel_rfl)
abbrev tsmall_l3_at : List PI := [.c [1, 1, 0, 1, 0, 0, 0], .c [1, 1, 0, 1, 0, 0, 1], .l [1, 1, 0, 1, 0, 0], .b 4, .c [1, 1, 1]]
abbrev tsmall_l3_st : Sta := ⟨[134], ⟨[.i .i64], []⟩⟩
abbrev tsmall_l3_h (rec : Int → Option ((Unit) ⊕ (Unit))) : Leaf ((Unit) ⊕ (Unit)) := ⟨tsmall_l3_at, tsmall_l3_st, fun p => rec p.1.1⟩
abbrev tsmall_l3_e0 : Leaf ((Unit) ⊕ (Unit)) := ⟨[.c [1, 1, 0, 1, 0, 0, 1, 1, 0, 0, 1, 1, 1, 1, 1, 1, 1, 1, 1, 1, 1, 0, 0], .c [1, 1, 0, 1, 0, 0, 1, 1, 0, 0, 1, 1, 1, 1, 1, 1, 1, 1, 1, 1, 1, 0, 1], .b 5, .c [1, 1, 0, 1, 0, 0, 1, 1, 1], .l [1, 1, 0, 1, 0, 0], .b 4, .c [1, 1, 1]], ⟨[], ⟨[], []⟩⟩, fun p => some (.inl ())⟩
abbrev tsmall_l3_e1 : Leaf ((Unit) ⊕ (Unit)) := ⟨[.c [1, 1, 1, 0, 0], .c [1, 1, 1, 0, 1], .c [1, 1, 1, 1]], ⟨[], ⟨[], []⟩⟩, fun p => some (.inr ())⟩
noncomputable def tsmall_j3_k (N : Nat) (rec : Int → Option ((Unit) ⊕ (Unit))) {top : Bool} : JnQ (Z := (Unit) ⊕ (Unit)) tsmall_B top none [tsmall_l3_h rec, tsmall_l3_e0, tsmall_l3_e1] := mkJ (tsmall_sp N) [tsmall_l2_L N, tsmall_l1_L N, tsmall_l4_L N, tsmall_l5_L N] [] ⟨[.c [1, 1, 0, 1, 0, 0, 1, 1, 0, 0, 1, 1, 1, 1, 1, 1, 1, 1, 1, 1, 0], .c [1, 1, 0, 1, 0, 0, 1, 1, 0, 0, 1, 1, 1, 1, 1, 1, 1, 1, 1, 1, 1], .b 5, .c [1, 1, 0, 1, 0, 0, 1, 1, 1], .l [1, 1, 0, 1, 0, 0], .b 4, .c [1, 1, 1]], ⟨[12, 13, 18, 20, 22, 134], ⟨[.i .i64, .own 0 0, .ols 1, .ols 2, .ols 3, .i .i64], [.segs [.sl Qd, .sl Qc, .i .i64], .lst (.int .i64), .lst (.int .i64), .lst (.int .i64)]⟩⟩, fun p => tsmall_j3 N rec p.1.1 p.1.2.2.2.2.2.1 p.2.1.1 p.2.1.2.1 p.2.1.2.2.1 p.2.2.1 p.2.2.2.1 p.2.2.2.2.1⟩ (fun p => by kernel_rfl)
noncomputable def tsmall_j2_k (N : Nat) (rec : Int → Option ((Unit) ⊕ (Unit))) {top : Bool} : JnQ (Z := (Unit) ⊕ (Unit)) tsmall_B top none [tsmall_l3_h rec, tsmall_l3_e0, tsmall_l3_e1] := mkJ (tsmall_sp N) [tsmall_l2_L N, tsmall_l1_L N, tsmall_l4_L N, tsmall_l5_L N] [tsmall_j3_k N rec] ⟨[.c [1, 1, 0, 1, 0, 0, 1, 1, 0, 0, 1, 1, 1, 1, 1, 1, 1, 1, 1, 0, 0], .c [1, 1, 0, 1, 0, 0, 1, 1, 0, 0, 1, 1, 1, 1, 1, 1, 1, 1, 1, 0, 1], .c [1, 1, 0, 1, 0, 0, 1, 1, 0, 0, 1, 1, 1, 1, 1, 1, 1, 1, 1, 1], .b 5, .c [1, 1, 0, 1, 0, 0, 1, 1, 1], .l [1, 1, 0, 1, 0, 0], .b 4, .c [1, 1, 1]], ⟨[12, 13, 18, 20, 22, 134], ⟨[.i .i64, .own 0 0, .ols 1, .ols 2, .ols 3, .i .i64], [.segs [.sl Qd, .sl Qc, .i .i64], .lst (.int .i64), .lst (.int .i64), .lst (.int .i64)]⟩⟩, fun p => tsmall_j2 N rec p.1.1 p.1.2.2.2.2.2.1 p.2.1.1 p.2.1.2.1 p.2.1.2.2.1 p.2.2.1 p.2.2.2.1 p.2.2.2.2.1⟩ (fun p => by kernel_rfl)
noncomputable def tsmall_j1_k (N : Nat) (rec : Int → Option ((Unit) ⊕ (Unit))) {top : Bool} : JnQ (Z := (Unit) ⊕ (Unit)) tsmall_B top none [tsmall_l3_h rec, tsmall_l3_e0, tsmall_l3_e1] := mkJ (tsmall_sp N) [tsmall_l2_L N, tsmall_l1_L N, tsmall_l4_L N, tsmall_l5_L N] [tsmall_j3_k N rec, tsmall_j2_k N rec] ⟨[.c [1, 1, 0, 1, 0, 0, 1, 1, 0, 0, 1, 1, 1, 1, 1, 1, 1, 1, 0, 0], .c [1, 1, 0, 1, 0, 0, 1, 1, 0, 0, 1, 1, 1, 1, 1, 1, 1, 1, 0, 1], .c [1, 1, 0, 1, 0, 0, 1, 1, 0, 0, 1, 1, 1, 1, 1, 1, 1, 1, 1], .b 5, .c [1, 1, 0, 1, 0, 0, 1, 1, 1], .l [1, 1, 0, 1, 0, 0], .b 4, .c [1, 1, 1]], ⟨[12, 13, 18, 20, 22, 134], ⟨[.i .i64, .own 0 0, .ols 1, .ols 2, .ols 3, .i .i64], [.segs [.sl Qd, .sl Qc, .i .i64], .lst (.int .i64), .lst (.int .i64), .lst (.int .i64)]⟩⟩, fun p => tsmall_j1 N rec p.1.1 p.1.2.2.2.2.2.1 p.2.1.1 p.2.1.2.1 p.2.1.2.2.1 p.2.2.1 p.2.2.2.1 p.2.2.2.2.1⟩ (fun p => by kernel_rfl)
noncomputable def tsmall_l3_L (N : Nat) {top : Bool} : LpQ tsmall_B top := mkL (Z := (Unit) ⊕ (Unit)) (tsmall_sp N) [tsmall_l2_L N, tsmall_l1_L N, tsmall_l4_L N, tsmall_l5_L N] tsmall_l3_at tsmall_l3_st (fun m p => tsmall_l3 N m p.1.1) [tsmall_l3_e0, tsmall_l3_e1] (fun m => [tsmall_j3_k N (tsmall_l3 N m), tsmall_j2_k N (tsmall_l3 N m), tsmall_j1_k N (tsmall_l3 N m)]) (fun k e => match e with | .inl x => k (.inl ((), ())) | .inr x => k (.inr (.inl ((), ())))) N (fun m p => by kernel_rfl) (hg := (by rintro _ _ (_ | _) <;> rfl))
noncomputable def tsmall_l7_L (N : Nat) {top : Bool} : LpQ tsmall_B top := mkL (Z := Int × Int × Int × Int × List Int × List Int × Qh × Qh × Qi) (tsmall_sp N) [tsmall_l2_L N, tsmall_l1_L N, tsmall_l4_L N, tsmall_l5_L N, tsmall_l3_L N] [.c [1, 1, 1, 0, 1, 0, 0, 1, 1, 0, 0, 1, 1, 1, 1, 0, 1, 0, 0, 0], .c [1, 1, 1, 0, 1, 0, 0, 1, 1, 0, 0, 1, 1, 1, 1, 0, 1, 0, 0, 1], .l [1, 1, 1, 0, 1, 0, 0, 1, 1, 0, 0, 1, 1, 1, 1, 0, 1, 0, 0], .b 12, .c [1, 1, 1, 0, 1, 0, 0, 1, 1, 0, 0, 1, 1, 1, 1, 1], .b 11, .c [1, 1, 1, 0, 1, 0, 0, 1, 1, 1], .l [1, 1, 1, 0, 1, 0, 0], .b 10, .c [1, 1, 1, 1]] ⟨[24, 25, 26, 27, 28, 336, 342, 343], ⟨[.i .i64, .own 0 0, .own 1 0, .ols 2, .ols 3, .i .i64, .i .i64, .i .i64], [.segs [.ols 4, .nils, .i .i64], .segs [.ols 5, .ols 6, .i .i64], .lst (.int .i64), .lst (.int .i64), .lst Qd, .lst Qd, .lst Qc]⟩⟩ (fun m p => tsmall_l7 N m p.1.1 p.1.2.2.2.2.2.1 p.1.2.2.2.2.2.2.1 p.1.2.2.2.2.2.2.2.1 p.2.1.2.2.1 p.2.2.1.2.2.1 p.2.2.2.1 p.2.2.2.2.1 p.2.2.2.2.2.1 p.2.2.2.2.2.2.1 p.2.2.2.2.2.2.2.1) [⟨[.c [1, 1, 1, 0, 1, 0, 0, 1, 1, 0, 0, 1, 1, 1, 1, 1, 0, 0], .c [1, 1, 1, 0, 1, 0, 0, 1, 1, 0, 0, 1, 1, 1, 1, 1, 0, 1], .c [1, 1, 1, 0, 1, 0, 0, 1, 1, 0, 0, 1, 1, 1, 1, 1, 1], .b 11, .c [1, 1, 1, 0, 1, 0, 0, 1, 1, 1], .l [1, 1, 1, 0, 1, 0, 0], .b 10, .c [1, 1, 1, 1]], ⟨[24, 25, 26, 27, 28, 336], ⟨[.i .i64, .own 0 0, .own 1 0, .ols 2, .ols 3, .i .i64], [.segs [.ols 4, .nils, .i .i64], .segs [.ols 5, .ols 6, .i .i64], .lst (.int .i64), .lst (.int .i64), .lst Qd, .lst Qd, .lst Qc]⟩⟩, fun p => some ((p.1.1, p.1.2.2.2.2.2.1, p.2.1.2.2.1, p.2.2.1.2.2.1, p.2.2.2.1, p.2.2.2.2.1, p.2.2.2.2.2.1, p.2.2.2.2.2.2.1, p.2.2.2.2.2.2.2.1))⟩] (fun _ => []) (fun k e => k (.inl ((e.1, (), (), (), (), e.2.1, ()), (((), (), e.2.2.1, ()), ((), (), e.2.2.2.1, ()), e.2.2.2.2.1, e.2.2.2.2.2.1, e.2.2.2.2.2.2.1, e.2.2.2.2.2.2.2.1, e.2.2.2.2.2.2.2.2, ())))) N (fun m p => by kernel_rfl)
noncomputable def tsmall_l6_L (N : Nat) {top : Bool} : LpQ tsmall_B top := mkL (Z := (Unit) ⊕ ((Unit) ⊕ (Unit))) (tsmall_sp N) [tsmall_l2_L N, tsmall_l1_L N, tsmall_l4_L N, tsmall_l5_L N, tsmall_l3_L N, tsmall_l7_L N] [.c [1, 1, 1, 0, 1, 0, 0, 0], .c [1, 1, 1, 0, 1, 0, 0, 1], .l [1, 1, 1, 0, 1, 0, 0], .b 10, .c [1, 1, 1, 1]] ⟨[336], ⟨[.i .i64], []⟩⟩ (fun m p => tsmall_l6 N m p.1.1) [⟨[.c [1, 1, 1, 0, 1, 0, 0, 1, 1, 0, 0, 1, 1, 1, 1, 1, 0, 1, 0, 0], .c [1, 1, 1, 0, 1, 0, 0, 1, 1, 0, 0, 1, 1, 1, 1, 1, 0, 1, 0, 1], .c [1, 1, 1, 0, 1, 0, 0, 1, 1, 0, 0, 1, 1, 1, 1, 1, 1], .b 11, .c [1, 1, 1, 0, 1, 0, 0, 1, 1, 1], .l [1, 1, 1, 0, 1, 0, 0], .b 10, .c [1, 1, 1, 1]], ⟨[], ⟨[], []⟩⟩, fun p => some (.inl ())⟩, ⟨[.c [1, 1, 1, 0, 1, 0, 0, 1, 1, 0, 0, 1, 1, 1, 1, 1, 1, 1, 0, 0], .c [1, 1, 1, 0, 1, 0, 0, 1, 1, 0, 0, 1, 1, 1, 1, 1, 1, 1, 0, 1], .b 11, .c [1, 1, 1, 0, 1, 0, 0, 1, 1, 1], .l [1, 1, 1, 0, 1, 0, 0], .b 10, .c [1, 1, 1, 1]], ⟨[], ⟨[], []⟩⟩, fun p => some (.inr (.inl ()))⟩, ⟨[.c [1, 1, 1, 1, 0], .c [1, 1, 1, 1, 1]], ⟨[], ⟨[], []⟩⟩, fun p => some (.inr (.inr ()))⟩] (fun _ => []) (fun k e => match e with | .inl x => k (.inl ((), ())) | .inr (.inl x) => k (.inr (.inl ((), ()))) | .inr (.inr x) => k (.inr (.inr (.inl ((), ()))))) N (fun m p => by kernel_rfl) (hg := (by rintro _ _ (_ | _ | _) <;> rfl))
noncomputable def sp_tsmall (N : Nat) : Spec := mkS 3 ⟨[], []⟩ tsmall_o (fun p => tsmall_S N) (fun k r => k ((r, ()), ()))
theorem sp_tsmall_ok (N : Nat) : SpecOK Tryz.prog (sp_tsmall N) := mkF (R := Bool) (m0 := 0) (tsmall_sp N) [tsmall_l2_L N, tsmall_l1_L N, tsmall_l4_L N, tsmall_l5_L N, tsmall_l3_L N, tsmall_l7_L N, tsmall_l6_L N] (fun r => some r.1.1) [] Tryz.func3 (fun p => by kernel_rfl) (by kernel_rfl) (fun _ => by kernel_rfl)

end Go.Proofs.YtfamlpbdhhikdaaGreat

namespace Go.Proofs.YtfamlpbdhhikdaaGreat
set_option linter.all false
open Go
theorem tsmall_true : tsmall_S 1100 = some true := by kernel_rfl
end Go.Proofs.YtfamlpbdhhikdaaGreat

/-
  Parts of a proof, put together: Fm3, FD1, FD2, FD3, FD4, FD5, FD6, FD7, FD8, FD9, FDa, FDb, FDe, FDf, FDg, FDh, Dl, FDel1, FDel.
  Conditions: none.
-/
import Derived.Test.YthncjilcflilcaaZd
import Derived.Test.YthncjilcflilcaaZf
namespace Go.Proofs.Ythncjilcflilcaa
set_option linter.all false
open Go

/-- As many are so of two lists, if there is a way to and fro. -/
theorem countP_bij {α β : Type} {A : List α} {B : List β} {p : α → Bool} {q : β → Bool} (hA : A.Nodup) (hB : B.Nodup) (f : β → α) (g : α → β)
    (h1 : ∀ x ∈ B, q x = true → f x ∈ A ∧ p (f x) = true ∧ g (f x) = x) (h2 : ∀ y ∈ A, p y = true → g y ∈ B ∧ q (g y) = true ∧ f (g y) = y) : A.countP p = B.countP q := by
  rw [List.countP_eq_length_filter, List.countP_eq_length_filter, show (B.filter q).length = ((B.filter q).map f).length by simp]
  refine ((List.perm_ext_iff_of_nodup (List.Pairwise.filter _ hA) ?_).2 fun y => ?_).length_eq
  · unfold List.Nodup
    rw [List.pairwise_map]
    refine (List.Pairwise.filter q hB).imp_of_mem fun {a b} ha hb hab e => hab ?_
    obtain ⟨a1, a2⟩ := List.mem_filter.1 ha
    obtain ⟨b1, b2⟩ := List.mem_filter.1 hb
    rw [← (h1 a a1 a2).2.2, ← (h1 b b1 b2).2.2, e]
  · rw [List.mem_filter, List.mem_map]
    constructor
    · rintro ⟨ha, hp⟩
      obtain ⟨g1, g2, g3⟩ := h2 y ha hp
      exact ⟨g y, List.mem_filter.2 ⟨g1, g2⟩, g3⟩
    · rintro ⟨x, hx, rfl⟩
      obtain ⟨x1, x2⟩ := List.mem_filter.1 hx
      obtain ⟨f1, f2, _⟩ := h1 x x1 x2
      exact ⟨f1, f2⟩
theorem ext_getD {a b : List Int} (hl : a.length = b.length) (h : ∀ j, j < a.length → a.getD j (-1) = b.getD j (-1)) : a = b := by
  refine List.ext_getElem hl fun j h1 h2 => ?_
  have := h j h1
  simpa [List.getD, h1, h2] using this
/-! ### Numbers without one -/
def up (i x : Nat) : Nat := if x < i then x else x + 1
def dn (i x : Nat) : Nat := if x < i then x else x - 1
def upI (k : Nat) (v : Int) : Int := if v < k then v else v + 1
def dnI (k : Nat) (v : Int) : Int := if v < k then v else v - 1
theorem up_ne (i x : Nat) : up i x ≠ i := by unfold up; split <;> omega
theorem up_lt {i x n : Nat} (h : x < n - 1) : up i x < n := by unfold up; split <;> omega
theorem dn_lt {i x n : Nat} (hi : i < n) (h : x < n) (hne : x ≠ i) : dn i x < n - 1 := by unfold dn; split <;> omega
theorem dn_up (i x : Nat) : dn i (up i x) = x := by unfold dn up; split <;> first | omega | (split <;> omega)
theorem up_dn {i x : Nat} (h : x ≠ i) : up i (dn i x) = x := by unfold dn up; split <;> first | omega | (split <;> omega)
theorem up_inj {i x y : Nat} (h : up i x = up i y) : x = y := by rw [← dn_up i x, h, dn_up]
theorem upI_none (k : Nat) : upI k (-1) = -1 := by unfold upI; rw [if_pos (by omega)]
theorem dnI_none (k : Nat) : dnI k (-1) = -1 := by unfold dnI; rw [if_pos (by omega)]
theorem upI_nat (k y : Nat) : upI k (y : Int) = (up k y : Nat) := by unfold upI up; split <;> first | omega | (split <;> omega)
theorem dnI_nat {k y : Nat} (h : y ≠ k) : dnI k (y : Int) = (dn k y : Nat) := by unfold dnI dn; split <;> first | omega | (split <;> omega)
theorem dnI_upI (k : Nat) {v : Int} (h : -1 ≤ v) : dnI k (upI k v) = v := by unfold dnI upI; split <;> first | omega | (split <;> omega)
theorem upI_dnI {k : Nat} {v : Int} (h : v ≠ k) : upI k (dnI k v) = v := by unfold dnI upI; split <;> first | omega | (split <;> omega)
theorem upI_ne (k : Nat) (v : Int) : upI k v ≠ k := by unfold upI; split <;> omega
theorem upI_inj {k : Nat} {a b : Int} (ha : -1 ≤ a) (hb : -1 ≤ b) (h : upI k a = upI k b) : a = b := by rw [← dnI_upI k ha, h, dnI_upI k hb]
theorem dnI_inj {k : Nat} {a b : Int} (ha : a ≠ k) (hb : b ≠ k) (h : dnI k a = dnI k b) : a = b := by rw [← upI_dnI ha, h, upI_dnI hb]
theorem sumN_skip {f : Nat → Int} {i : Nat} : ∀ {n : Nat}, i < n → sumN f n = sumN (fun x => f (up i x)) (n - 1) + f i
  | 0, h => by omega
  | n + 1, h => by
    rw [sumN, Nat.add_sub_cancel]
    by_cases e : i = n
    · subst e
      rw [sumN_congr (f := fun x => f (up i x)) (g := f) (fun x hx => by rw [show up i x = x by unfold up; rw [if_pos hx]])]
    · obtain ⟨n, rfl⟩ : ∃ k, n = k + 1 := ⟨n - 1, by omega⟩
      have := sumN_skip (f := f) (n := n + 1) (i := i) (by omega)
      rw [Nat.add_sub_cancel] at this
      rw [this]
      show _ = sumN (fun x => f (up i x)) n + f (up i n) + f i
      rw [show up i n = n + 1 by unfold up; rw [if_neg (by omega)]]
      omega
section
variable {n m : Nat} {can : Nat → Nat → Bool} {t : Nat → Nat → Int}
theorem Mt.bd {J : Nat → Int} (h : Mt n m can J) {i : Nat} (hi : i < n) : -1 ≤ J i ∧ J i < m := by
  rcases h.ok i hi with e | ⟨k, e, hk, _⟩ <;> omega
/-! ### Without a found thing -/
theorem Mt.dnF {J : Nat → Int} {k : Nat} (hk : k < m) (h : Mt n m can J) (hu : ¬ Usd n J k) : Mt n (m - 1) (fun x y => can x (up k y)) (fun x => dnI k (J x)) ∧ wt (fun x y => t x (up k y)) n (fun x => dnI k (J x)) = wt t n J := by
  have hne : ∀ i, i < n → J i ≠ k := fun i hi e => hu ⟨i, hi, e⟩
  refine ⟨⟨fun i hi => ?_, fun i j hi hj hij he => ?_⟩, sumN_congr fun i hi => ?_⟩
  · rcases h.ok i hi with e | ⟨y, e, hy, hc⟩
    · exact .inl (by rw [e, dnI_none])
    · have hyk : y ≠ k := fun e2 => hne i hi (by rw [e, e2])
      exact .inr ⟨dn k y, by rw [e, dnI_nat hyk], dn_lt hk hy hyk, by rw [up_dn hyk]; exact hc⟩
  · have := h.inj i j hi hj hij (dnI_inj (hne i hi) (hne j hj) he)
    show dnI k (J i) = -1
    rw [this, dnI_none]
  · show pv _ i (dnI k (J i)) = pv t i (J i)
    rcases h.ok i hi with e | ⟨y, e, hy, hc⟩
    · rw [e, dnI_none, pv_none, pv_none]
    · have hyk : y ≠ k := fun e2 => hne i hi (by rw [e, e2])
      rw [e, dnI_nat hyk, pv_some, pv_some, up_dn hyk]
theorem Mt.upF {J : Nat → Int} {k : Nat} (h : Mt n (m - 1) (fun x y => can x (up k y)) J) : Mt n m can (fun x => upI k (J x)) ∧ (¬ Usd n (fun x => upI k (J x)) k) ∧ wt t n (fun x => upI k (J x)) = wt (fun x y => t x (up k y)) n J := by
  refine ⟨⟨fun i hi => ?_, fun i j hi hj hij he => ?_⟩, fun ⟨i, hi, e⟩ => upI_ne k _ e, sumN_congr fun i hi => ?_⟩
  · rcases h.ok i hi with e | ⟨y, e, hy, hc⟩
    · exact .inl (by rw [e, upI_none])
    · exact .inr ⟨up k y, by rw [e, upI_nat], up_lt hy, hc⟩
  · have := h.inj i j hi hj hij (upI_inj (h.bd hi).1 (h.bd hj).1 he)
    show upI k (J i) = -1
    rw [this, upI_none]
  · show pv t i (upI k (J i)) = pv _ i (J i)
    rcases h.ok i hi with e | ⟨y, e, hy, hc⟩
    · rw [e, upI_none, pv_none, pv_none]
    · rw [e, upI_nat, pv_some, pv_some]
theorem IsMax.congr {fr fr' : Nat → Prop} {v : Int} (h : IsMax n m can t fr v) (hf : ∀ k, fr k ↔ fr' k) : IsMax n m can t fr' v := by
  have : fr = fr' := funext fun k => propext (hf k)
  rw [← this]; exact h
/-- What is best without a found thing is what is best of all that leave it. -/
theorem IsMax.rmF {k : Nat} {v : Int} (hk : k < m) (h : IsMax n (m - 1) (fun x y => can x (up k y)) (fun x y => t x (up k y)) (fun _ => False) v) : IsMax n m can t (· = k) v := by
  obtain ⟨J, a, _, c⟩ := h.ex
  obtain ⟨u1, u2, u3⟩ := Mt.upF (t := t) a
  refine ⟨⟨_, u1, fun x hx => by subst hx; exact u2, by rw [u3, c]⟩, fun J hJ hu => ?_⟩
  obtain ⟨d1, d2⟩ := Mt.dnF (t := t) hk hJ (hu k rfl)
  rw [← d2]
  exact h.le _ d1 (fun _ h => h.elim)
/-! ### Without a lost thing -/
theorem Mt.dnL {J : Nat → Int} {i : Nat} (hi : i < n) (h : Mt n m can J) : Mt (n - 1) m (fun x y => can (up i x) y) (fun x => J (up i x)) ∧ wt t n J = wt (fun x y => t (up i x) y) (n - 1) (fun x => J (up i x)) + pv t i (J i) := by
  refine ⟨⟨fun x hx => h.ok _ (up_lt hx), fun x y hx hy hxy he => h.inj _ _ (up_lt hx) (up_lt hy) (fun e => hxy (up_inj e)) he⟩, ?_⟩
  unfold wt
  rw [sumN_skip hi]
  rfl
theorem Mt.upL {J : Nat → Int} {i : Nat} {v : Int} (hi : i < n) (h : Mt (n - 1) m (fun x y => can (up i x) y) J) (hv : v = -1 ∨ ∃ k : Nat, v = k ∧ k < m ∧ can i k = true ∧ ¬ Usd (n - 1) J k) :
    Mt n m can (fun x => if x = i then v else J (dn i x)) ∧ wt t n (fun x => if x = i then v else J (dn i x)) = wt (fun x y => t (up i x) y) (n - 1) J + pv t i v := by
  refine ⟨⟨fun x hx => ?_, fun x y hx hy hxy he => ?_⟩, ?_⟩
  · by_cases e : x = i
    · subst e
      rw [if_pos rfl]
      exact hv.imp id fun ⟨k, a, b, c, _⟩ => ⟨k, a, b, c⟩
    · rw [if_neg e]
      have := h.ok _ (dn_lt hi hx e)
      rw [up_dn e] at this
      exact this
  · by_cases e : x = i
    · by_cases e2 : y = i
      · exact absurd (e.trans e2.symm) hxy
      · rw [if_pos e, if_neg e2] at he
        rw [if_pos e]
        rcases hv with hv | ⟨k, rfl, _, _, hu⟩
        · exact hv
        · exact absurd ⟨_, dn_lt hi hy e2, he.symm⟩ hu
    · rw [if_neg e] at he ⊢
      by_cases e2 : y = i
      · rw [if_pos e2] at he
        rcases hv with hv | ⟨k, rfl, _, _, hu⟩
        · rw [he, hv]
        · exact absurd ⟨_, dn_lt hi hx e, he⟩ hu
      · rw [if_neg e2] at he
        exact h.inj _ _ (dn_lt hi hx e) (dn_lt hi hy e2) (fun e3 => hxy (by rw [← up_dn e, e3, up_dn e2])) he
  · unfold wt
    rw [sumN_skip hi]
    dsimp only
    rw [if_pos rfl]
    congr 1
    refine sumN_congr fun x hx => ?_
    rw [if_neg (up_ne i x), dn_up]
    rfl
/-! ### How many joins join two things -/
def insJ (n i k : Nat) (l : List Int) : List Int := (List.range n).map fun x => if x = i then (k : Int) else upI k (fnJ l (dn i x))
def delJ (n i k : Nat) (l : List Int) : List Int := (List.range (n - 1)).map fun x => dnI k (fnJ l (up i x))
theorem mem_joins {l : List Int} {u : Nat} : l ∈ joinsL can m n 0 u ↔ l.length = n ∧ Mt n m can (fnJ l) ∧ ∀ k, u.testBit k = true → ¬ Usd n (fnJ l) k := by
  constructor
  · intro h
    obtain ⟨h1, h2, _⟩ := list_mt (t := fun _ _ => 0) h
    exact ⟨(mem_joinsL.1 h).1, h1, h2⟩
  · rintro ⟨h1, h2⟩
    exact mem_joinsL.2 ⟨h1, okJ_mt.2 (by rw [h1]; exact h2)⟩
theorem val_joins {l : List Int} (h : l.length = n) : valJ t 0 l = wt t n (fnJ l) := by rw [valJ_wt, h]
theorem fn_map {f : Nat → Int} {j : Nat} (h : j < n) : fnJ ((List.range n).map f) j = f j := range_getD h
theorem Mt.congr {J J' : Nat → Int} (h : Mt n m can J) (he : ∀ i, i < n → J i = J' i) : Mt n m can J' := by
  refine ⟨fun i hi => by rw [← he i hi]; exact h.ok i hi, fun i j hi hj hij e => ?_⟩
  rw [← he i hi, ← he j hj] at e
  rw [← he i hi]
  exact h.inj i j hi hj hij e
theorem wt_congr {J J' : Nat → Int} (he : ∀ i, i < n → J i = J' i) : wt t n J = wt t n J' := sumN_congr fun i hi => by rw [he i hi]
theorem count_with {i k : Nat} {V : Int} (hi : i < n) (hk : k < m) (hc : can i k = true) :
    (joinsL can m n 0 0).countP (fun l => decide (valJ t 0 l = V) && decide (fnJ l i = k)) = (joinsL (fun x y => can (up i x) (up k y)) (m - 1) (n - 1) 0 0).countP (fun l => decide (valJ (fun x y => t (up i x) (up k y)) 0 l = V - t i k)) := by
  refine countP_bij (nodup_joinsL _ _ _) (nodup_joinsL _ _ _) (insJ n i k) (delJ n i k) (fun l hl hq => ?_) (fun l hl hp => ?_)
  · obtain ⟨h1, h2, _⟩ := mem_joins.1 hl
    have hv := val_joins (t := fun x y => t (up i x) (up k y)) h1
    rw [decide_eq_true_eq, hv] at hq
    obtain ⟨u1, u2, u3⟩ := Mt.upF (can := fun x y => can (up i x) y) (t := fun x y => t (up i x) y) h2
    obtain ⟨w1, w2⟩ := Mt.upL (t := t) (v := (k : Int)) hi u1 (.inr ⟨k, rfl, hk, hc, u2⟩)
    have hlen : (insJ n i k l).length = n := by simp [insJ]
    have he : ∀ x, x < n → (fun x => if x = i then (k : Int) else upI k (fnJ l (dn i x))) x = fnJ (insJ n i k l) x := fun x hx => by unfold insJ; rw [fn_map hx]
    have hmt := w1.congr he
    have hwt := wt_congr (t := t) he
    refine ⟨mem_joins.2 ⟨hlen, hmt, fun k h => by simp at h⟩, ?_, ?_⟩
    · rw [Bool.and_eq_true, decide_eq_true_eq, decide_eq_true_eq]
      refine ⟨?_, ?_⟩
      · rw [val_joins hlen, ← hwt, w2, u3, hq, pv_some]; omega
      · rw [← he i hi]; exact if_pos rfl
    · refine ext_getD (by simp [delJ, h1]) fun j hj => ?_
      have hj' : j < n - 1 := by simpa [delJ] using hj
      show fnJ (delJ n i k (insJ n i k l)) j = fnJ l j
      unfold delJ
      rw [fn_map hj', ← he _ (up_lt hj')]
      dsimp only
      rw [if_neg (up_ne i j), dn_up, dnI_upI k (h2.bd hj').1]
  · obtain ⟨h1, h2, _⟩ := mem_joins.1 hl
    rw [Bool.and_eq_true, decide_eq_true_eq, decide_eq_true_eq, val_joins h1] at hp
    obtain ⟨p1, p2⟩ := hp
    have hne : ∀ x, x < n → x ≠ i → fnJ l x ≠ k := fun x hx hxi e => by
      have := h2.inj x i hx hi hxi (by rw [e, p2])
      omega
    obtain ⟨d1, d2⟩ := Mt.dnL (t := t) hi h2
    obtain ⟨e1, e2⟩ := Mt.dnF (can := fun x y => can (up i x) y) (t := fun x y => t (up i x) y) hk d1 (fun ⟨x, hx, e⟩ => hne _ (up_lt hx) (up_ne i x) e)
    have hlen : (delJ n i k l).length = n - 1 := by simp [delJ]
    have he : ∀ x, x < n - 1 → (fun x => dnI k (fnJ l (up i x))) x = fnJ (delJ n i k l) x := fun x hx => by unfold delJ; rw [fn_map hx]
    refine ⟨mem_joins.2 ⟨hlen, e1.congr he, fun k h => by simp at h⟩, ?_, ?_⟩
    · rw [decide_eq_true_eq, val_joins hlen, ← wt_congr (t := fun x y => t (up i x) (up k y)) he, e2]
      rw [p1, p2, pv_some] at d2
      omega
    · refine ext_getD (by simp [insJ, h1]) fun j hj => ?_
      have hj' : j < n := by simpa [insJ] using hj
      show fnJ (insJ n i k (delJ n i k l)) j = fnJ l j
      unfold insJ
      rw [fn_map hj']
      by_cases e : j = i
      · rw [if_pos e, e, p2]
      · rw [if_neg e, ← he _ (dn_lt hi hj' e)]
        dsimp only
        rw [up_dn e, upI_dnI (hne j hj' e)]
def insN (n i : Nat) (l : List Int) : List Int := (List.range n).map fun x => if x = i then (-1 : Int) else fnJ l (dn i x)
def delN (n i : Nat) (l : List Int) : List Int := (List.range (n - 1)).map fun x => fnJ l (up i x)
theorem count_none {i : Nat} {V : Int} (hi : i < n) :
    (joinsL can m n 0 0).countP (fun l => decide (valJ t 0 l = V) && decide (fnJ l i = -1)) = (joinsL (fun x y => can (up i x) y) m (n - 1) 0 0).countP (fun l => decide (valJ (fun x y => t (up i x) y) 0 l = V)) := by
  refine countP_bij (nodup_joinsL _ _ _) (nodup_joinsL _ _ _) (insN n i) (delN n i) (fun l hl hq => ?_) (fun l hl hp => ?_)
  · obtain ⟨h1, h2, _⟩ := mem_joins.1 hl
    rw [decide_eq_true_eq, val_joins h1] at hq
    obtain ⟨w1, w2⟩ := Mt.upL (t := t) (v := -1) hi h2 (.inl rfl)
    have hlen : (insN n i l).length = n := by simp [insN]
    have he : ∀ x, x < n → (fun x => if x = i then (-1 : Int) else fnJ l (dn i x)) x = fnJ (insN n i l) x := fun x hx => by unfold insN; rw [fn_map hx]
    refine ⟨mem_joins.2 ⟨hlen, w1.congr he, fun k h => by simp at h⟩, ?_, ?_⟩
    · rw [Bool.and_eq_true, decide_eq_true_eq, decide_eq_true_eq]
      refine ⟨?_, ?_⟩
      · rw [val_joins hlen, ← wt_congr (t := t) he, w2, hq, pv_none]; omega
      · rw [← he i hi]; exact if_pos rfl
    · refine ext_getD (by simp [delN, h1]) fun j hj => ?_
      have hj' : j < n - 1 := by simpa [delN] using hj
      show fnJ (delN n i (insN n i l)) j = fnJ l j
      unfold delN
      rw [fn_map hj', ← he _ (up_lt hj')]
      dsimp only
      rw [if_neg (up_ne i j), dn_up]
  · obtain ⟨h1, h2, _⟩ := mem_joins.1 hl
    rw [Bool.and_eq_true, decide_eq_true_eq, decide_eq_true_eq, val_joins h1] at hp
    obtain ⟨p1, p2⟩ := hp
    obtain ⟨d1, d2⟩ := Mt.dnL (t := t) hi h2
    have hlen : (delN n i l).length = n - 1 := by simp [delN]
    have he : ∀ x, x < n - 1 → (fun x => fnJ l (up i x)) x = fnJ (delN n i l) x := fun x hx => by unfold delN; rw [fn_map hx]
    refine ⟨mem_joins.2 ⟨hlen, d1.congr he, fun k h => by simp at h⟩, ?_, ?_⟩
    · rw [decide_eq_true_eq, val_joins hlen, ← wt_congr (t := fun x y => t (up i x) y) he]
      rw [p1, p2, pv_none] at d2
      omega
    · refine ext_getD (by simp [insN, h1]) fun j hj => ?_
      have hj' : j < n := by simpa [insN] using hj
      show fnJ (insN n i (delN n i l)) j = fnJ l j
      unfold insN
      rw [fn_map hj']
      by_cases e : j = i
      · rw [if_pos e, e, p2]
      · rw [if_neg e, ← he _ (dn_lt hi hj' e)]
        dsimp only
        rw [up_dn e]
/-- Joins counted by what a lost thing is joined to. -/
theorem count_by {i : Nat} (hi : i < n) (P : List Int → Bool) : ((joinsL can m n 0 0).countP P : Int) = sumN (fun k => (((joinsL can m n 0 0).countP (fun l => P l && decide (fnJ l i = k)) : Nat) : Int)) m + (((joinsL can m n 0 0).countP (fun l => P l && decide (fnJ l i = -1)) : Nat) : Int) := by
  have hb : ∀ l ∈ joinsL can m n 0 0, -1 ≤ fnJ l i ∧ fnJ l i < m := fun l hl => (mem_joins.1 hl).2.1.bd hi
  generalize joinsL can m n 0 0 = L at hb
  induction L with
  | nil => simp [sumN_zero]
  | cons l L ih =>
    have ih := ih (fun x hx => hb x (by simp [hx]))
    have h0 := hb l (by simp)
    simp only [List.countP_cons]
    have e : ∀ k : Nat, (((L.countP (fun l => P l && decide (fnJ l i = k)) + if (P l && decide (fnJ l i = k)) = true then 1 else 0 : Nat)) : Int) = ((L.countP (fun l => P l && decide (fnJ l i = k)) : Nat) : Int) + (if P l = true ∧ fnJ l i = k then 1 else 0) := fun k => by
      rw [Int.natCast_add]
      congr 1
      by_cases c : P l = true ∧ fnJ l i = (k : Int)
      · rw [if_pos c, if_pos (by simp [c.1, c.2])]; rfl
      · rw [if_neg c, if_neg (by simpa using c)]; rfl
    simp only [e]
    rw [sumN_add]
    have hs : sumN (fun k : Nat => if P l = true ∧ fnJ l i = (k : Int) then (1 : Int) else 0) m = if P l = true ∧ 0 ≤ fnJ l i then 1 else 0 := by
      by_cases c : P l = true ∧ 0 ≤ fnJ l i
      · rw [if_pos c]
        obtain ⟨k, hk⟩ : ∃ k : Nat, fnJ l i = k := ⟨(fnJ l i).toNat, by omega⟩
        have hz : sumN (fun _ => (0 : Int)) m = 0 := sumN_zero (fun _ _ => rfl)
        have := sumN_upd (n := m) (fun _ (v : Int) => v) (J := fun _ => 0) (i := k) (v := 1) (by omega)
        rw [hz] at this
        have e2 : sumN (fun x => upd (fun _ => (0 : Int)) k 1 x) m = sumN (fun k : Nat => if P l = true ∧ fnJ l i = (k : Int) then (1 : Int) else 0) m := by
          refine sumN_congr fun x _ => ?_
          by_cases d : x = k
          · subst d
            rw [upd_self, if_pos ⟨c.1, hk⟩]
          · rw [upd_ne d, if_neg (fun h => d (by omega))]
        rw [e2] at this
        omega
      · rw [if_neg c]
        exact sumN_zero fun k _ => if_neg (fun h => c ⟨h.1, by omega⟩)
    rw [hs]
    by_cases c : P l = true
    · by_cases d : fnJ l i = -1
      · have h1 : ¬ (P l = true ∧ 0 ≤ fnJ l i) := fun h => by have := h.2; omega
        rw [if_neg h1]
        simp only [c, d, decide_true, Bool.and_self, if_true]
        omega
      · have h1 : P l = true ∧ 0 ≤ fnJ l i := ⟨c, by omega⟩
        rw [if_pos h1]
        simp only [c, d, decide_false, Bool.and_false, if_true, Bool.false_eq_true, if_false, Nat.add_zero]
        omega
    · have h1 : ¬ (P l = true ∧ 0 ≤ fnJ l i) := fun h => c h.1
      rw [if_neg h1]
      rw [Bool.not_eq_true] at c
      simp only [c, Bool.false_and, Bool.false_eq_true, if_false, Nat.add_zero]
      omega
end
end Go.Proofs.Ythncjilcflilcaa

namespace Go.Proofs.Ythncjilcflilcaa
set_option linter.all false
open Go

theorem drop_cons {α : Type} {l : List α} {k : Nat} (h : k < l.length) (d : α) : l.drop k = l.getD k d :: l.drop (k + 1) := by
  rw [List.drop_eq_getElem_cons h]; simp [List.getD, h]
theorem gets {α : Type} {l : List α} {k : Nat} (h : k < l.length) (d : α) : l[((k : Nat) : Int).toNat]? = some (l.getD k d) := by simp [List.getD, h]
theorem getD_mem {α : Type} {l : List α} {i : Nat} {d : α} (h : i < l.length) : l.getD i d ∈ l := by
  simp [List.getD, h]
theorem nat_succ (k : Nat) : ((k + 1 : Nat) : Int) = (k : Int) + 1 := by omega
theorem in_v (N : Nat) (n lo hi : Int) : in__S N n lo hi = some (decide (lo ≤ n ∧ n ≤ hi)) := by
  unfold in__S br
  by_cases h : lo ≤ n <;> simp [h]
theorem every_gen {α : Type} {f : α → Option Bool} {p : α → Bool} {s : List α} {N : Nat} (hf : ∀ x ∈ s, f x = some (p x)) (hs : s.length ≤ 1000000) (hN : s.length < N) :
    (((ixS (fun x => (f x).bind fun c => some (!c)) N s).bind fun x => some (decide (0 ≤ x))).bind fun x => some (!x)) = some (s.all p) := by
  rw [ixS_any (p := fun x => !p x) (fun x hx => by rw [hf x hx]; rfl) hs hN]
  simp only [Option.bind_some, any_not]
/-- The limits of a desk's numbers. -/
def okv (x : Int) : Bool := decide (-1 ≤ x ∧ x ≤ 5)
def okw (x : Int) : Bool := decide (1 ≤ x ∧ x ≤ 9)
def okr (x : Int) : Bool := decide (0 ≤ x ∧ x ≤ 99)
def okl (n : Nat) (r : List Int) : Bool := decide (r.length = n)
/-- What is looked at is small. -/
structure Sm (W : List Int) (L F : List (List Int)) (R : List Int) : Prop where
  w : W.length ≤ 100
  l : L.length ≤ 100
  f : F.length ≤ 100
  r : R.length ≤ 100
  lr : ∀ x ∈ L, x.length ≤ 100
  fr : ∀ x ∈ F, x.length ≤ 100
section
variable (N : Nat)
theorem ixfv_gen : ∀ (n : Nat) (s : List Int) (u u2 : Int), ixfv_l1 N n s u u2 = ixL (every1v_S N) n s u u2
  | 0, _, _, _ => rfl
  | n + 1, s, u, u2 => by unfold ixfv_l1 ixL; simp only [ixfv_gen n]
theorem ixfva_gen : ∀ (n : Nat) (s : List (List Int)) (u u2 : Int), ixfva_l1 N n s u u2 = ixL (every1va_S N) n s u u2
  | 0, _, _, _ => rfl
  | n + 1, s, u, u2 => by unfold ixfva_l1 ixL; simp only [ixfva_gen n]
theorem ixfw_gen : ∀ (n : Nat) (s : List Int) (u u2 : Int), ixfw_l1 N n s u u2 = ixL (every1w_S N) n s u u2
  | 0, _, _, _ => rfl
  | n + 1, s, u, u2 => by unfold ixfw_l1 ixL; simp only [ixfw_gen n]
theorem ixfr_gen : ∀ (n : Nat) (s : List Int) (u u2 : Int), ixfr_l1 N n s u u2 = ixL (every1r_S N) n s u u2
  | 0, _, _, _ => rfl
  | n + 1, s, u, u2 => by unfold ixfr_l1 ixL; simp only [ixfr_gen n]
end
section
variable {N : Nat} {W : List Int} {s : Int} {L F : List (List Int)} {R : List Int}
theorem everyv_v {l : List Int} (h : l.length ≤ 1000000) (hN : l.length < N) : everyv_S N l = some (l.all okv) := by
  unfold everyv_S cofv_S ixfv_S
  rw [← every_gen (f := check21_S N) (p := okv) (s := l) (N := N) (fun x _ => ?_) h hN]
  · unfold ixS
    rw [ixfv_gen]
    rfl
  · unfold check21_S okv
    rw [in_v]; rfl
theorem everyw_v {l : List Int} (h : l.length ≤ 1000000) (hN : l.length < N) : everyw_S N l = some (l.all okw) := by
  unfold everyw_S cofw_S ixfw_S
  rw [← every_gen (f := check3_S N) (p := okw) (s := l) (N := N) (fun x _ => ?_) h hN]
  · unfold ixS
    rw [ixfw_gen]
    rfl
  · unfold check3_S okw
    rw [in_v]; rfl
theorem everyr_v {l : List Int} (h : l.length ≤ 1000000) (hN : l.length < N) : everyr_S N l = some (l.all okr) := by
  unfold everyr_S cofr_S ixfr_S
  rw [← every_gen (f := check4_S N) (p := okr) (s := l) (N := N) (fun x _ => ?_) h hN]
  · unfold ixS
    rw [ixfr_gen]
    rfl
  · unfold check4_S okr
    rw [in_v]; rfl
theorem everyva_v {l : List (List Int)} (h : l.length ≤ 1000000) (hN : l.length < N) (hr : ∀ x ∈ l, x.length ≤ 1000000 ∧ x.length < N) : everyva_S N l = some (l.all fun r => r.all okv) := by
  unfold everyva_S cofva_S ixfva_S
  rw [← every_gen (f := check2_S N) (p := fun r => r.all okv) (s := l) (N := N) (fun x hx => ?_) h hN]
  · unfold ixS
    rw [ixfva_gen]
    rfl
  · unfold check2_S
    rw [everyv_v (hr x hx).1 (hr x hx).2]; rfl
theorem ixflo_gen : ∀ (n : Nat) (l : List (List Int)) (u u2 : Int), ixflo_l1 N n l u u2 (W, s, L, F, R) = (ixL (fun x => some (!okl W.length x)) n l u u2).map fun r => match r with | .inl i => .inl (i, (W, s, L, F, R)) | .inr _ => .inr (W, s, L, F, R)
  | 0, _, _, _ => rfl
  | n + 1, l, u, u2 => by
    have e : ∀ x, every1lo_S N x (W, s, L, F, R) = some (!okl W.length x, (W, s, L, F, R)) := fun x => by
      unfold every1lo_S check1_S okl
      simp only [Option.bind_some]
      congr 3
      exact decide_eq_decide.2 (by omega)
    unfold ixflo_l1 ixL
    simp only [e, Option.bind_some, ixflo_gen n]
    unfold br
    split
    · unfold idx
      split
      · cases l[u2.toNat]? with
        | none => rfl
        | some a =>
          dsimp only
          cases okl W.length a
          · rfl
          · simp only [Bool.not_true, Bool.false_eq_true, if_false]
            unfold chk
            split <;> rfl
      · rfl
    · rfl
theorem everylo_v {l : List (List Int)} (h : l.length ≤ 1000000) (hN : l.length < N) : everylo_S N l (W, s, L, F, R) = some (l.all (okl W.length)) := by
  unfold everylo_S coflo_S ixflo_S
  rw [← every_gen (f := fun x => some (okl W.length x)) (p := okl W.length) (s := l) (N := N) (fun x _ => rfl) h hN]
  unfold ixS
  rw [ixflo_gen]
  simp only [Option.bind_some]
  cases ixL (fun x => some (!okl W.length x)) N l l.length 0 with
  | none => rfl
  | some r => cases r <;> rfl
end
/-- The error of a desk. -/
def errD (W : List Int) (s : Int) (L F : List (List Int)) (R : List Int) : Int :=
  if ¬ (1 ≤ (W.length : Int) ∧ (W.length : Int) ≤ 5) then 2 else if 6 < (L.length : Int) then 2 else if 6 < (F.length : Int) then 2 else if L.all (okl W.length) = false then 2 else if F.all (okl W.length) = false then 2 else
  if ¬ ((R.length : Int) = (L.length : Int)) then 2 else if (W.all okw && decide (0 ≤ s ∧ s ≤ 3) && R.all okr && (L.all fun r => r.all okv) && F.all fun r => r.all okv) = true then 0 else 3
section
variable {N : Nat} {W : List Int} {s : Int} {L F : List (List Int)} {R : List Int}
theorem check_v (hN : 110 ≤ N) (h : Sm W L F R) : check_S N W s L F R = some (errD W s L F R) := by
  obtain ⟨hw, hl, hf, hr, hlr, hfr⟩ := h
  unfold check_S errD
  rw [in_v]
  simp only [Option.bind_some]
  by_cases c1 : 1 ≤ (W.length : Int) ∧ (W.length : Int) ≤ 5
  rotate_left
  · rw [br_nnd c1, if_pos c1]
  rw [br_nd c1, if_neg (by simpa using c1)]
  by_cases c2 : 6 < (L.length : Int)
  · rw [br_dec c2, if_pos c2]
  rw [br_ndec c2, if_neg c2]
  by_cases c3 : 6 < (F.length : Int)
  · rw [br_dec c3, if_pos c3]
  rw [br_ndec c3, if_neg c3, everylo_v (by omega) (by omega), everylo_v (by omega) (by omega), everyw_v (by omega) (by omega), in_v, everyr_v (by omega) (by omega),
    everyva_v (by omega) (by omega) (fun x hx => ⟨by have := hlr x hx; omega, by have := hlr x hx; omega⟩), everyva_v (by omega) (by omega) (fun x hx => ⟨by have := hfr x hx; omega, by have := hfr x hx; omega⟩)]
  simp only [Option.bind_some]
  cases L.all (okl W.length)
  · rfl
  cases F.all (okl W.length)
  · rfl
  by_cases c4 : (R.length : Int) = (L.length : Int)
  rotate_left
  · simp only [Bool.not_true, br_false, Bool.true_eq_false, if_false]
    rw [br_nnd c4, if_pos c4]
  simp only [Bool.not_true, br_false, Bool.true_eq_false, if_false]
  rw [br_nd c4, if_neg (not_not_intro c4)]
  cases W.all okw <;> cases decide (0 ≤ s ∧ s ≤ 3) <;> cases R.all okr <;> cases (L.all fun r => r.all okv) <;> cases (F.all fun r => r.all okv) <;> rfl
end
section
variable {N : Nat}
theorem copyi_v {l : List Int} (h : l.length ≤ 1000000) : copyi_S N l = some l := by
  unfold copyi_S
  rw [grd_eq (lmI_iff.2 (by omega))]
  simp
theorem take_succ' {α : Type} {l : List α} {k : Nat} (c : k < l.length) (d : α) : l.take (k + 1) = l.take k ++ [l.getD k d] := by
  rw [List.take_add_one]; simp [List.getD, c]
end
end Go.Proofs.Ythncjilcflilcaa

namespace Go.Proofs.Ythncjilcflilcaa
set_option linter.all false
open Go

def tabA (g : Nat → Int) : List Int := (List.range 36).map g
theorem tabA_len (g : Nat → Int) : (tabA g).length = 36 := by simp [tabA]
theorem tabA_get {g : Nat → Int} {x : Nat} (h : x < 36) : (tabA g).getD x 0 = g x := by simp [tabA, List.getD, h]
theorem tabA_set (g : Nat → Int) (x : Nat) (v : Int) : (tabA g).set x v = tabA (upd g x v) := by
  refine List.ext_getElem (by simp [tabA]) fun i h1 h2 => ?_
  simp only [tabA, List.getElem_set, List.getElem_map, List.getElem_range, upd]
  by_cases e : x = i
  · rw [if_pos e, if_pos e.symm]
  · rw [if_neg e, if_neg (Ne.symm e)]
theorem tabA_congr {g h : Nat → Int} (e : ∀ x, x < 36 → g x = h x) : tabA g = tabA h := by
  unfold tabA
  refine List.map_congr_left fun x hx => e x (by simpa using hx)
/-- What two descriptions agree in, and how often they slip, up to a trait. -/
def agA (W a b : List Int) (t : Nat) : Int := if a.getD t 0 = b.getD t 0 ∧ a.getD t 0 ≠ -1 then W.getD t 0 else 0
def slA (a b : List Int) (t : Nat) : Int := if a.getD t 0 ≠ -1 ∧ b.getD t 0 ≠ -1 ∧ a.getD t 0 ≠ b.getD t 0 then 1 else 0
def agP (W a b : List Int) (k : Nat) : Int := sumN (agA W a b) k
def slP (a b : List Int) (k : Nat) : Int := sumN (slA a b) k
def agF (W : List Int) (L F : List (List Int)) (i k : Nat) : Int := if i < L.length ∧ k < F.length then agP W (L.getD i []) (F.getD k []) W.length else 0
def slF (W : List Int) (L F : List (List Int)) (i k : Nat) : Int := if i < L.length ∧ k < F.length then slP (L.getD i []) (F.getD k []) W.length else 0
theorem sumN_bound {f : Nat → Int} {m : Int} (h : ∀ i, 0 ≤ f i ∧ f i ≤ m) (hm : 0 ≤ m ∧ m ≤ 10) : ∀ n : Nat, n ≤ 1000 → 0 ≤ sumN f n ∧ sumN f n ≤ 10 * n
  | 0, _ => by simp [sumN]
  | n + 1, hn => by
    have h1 := sumN_bound h hm n (by omega)
    have h2 := h n
    rw [sumN]; omega
/-- A desk without an error. -/
structure Fine (W : List Int) (s : Int) (L F : List (List Int)) (R : List Int) : Prop where
  w1 : 1 ≤ W.length
  w5 : W.length ≤ 5
  l6 : L.length ≤ 6
  f6 : F.length ≤ 6
  lw : ∀ x ∈ L, x.length = W.length
  fw : ∀ x ∈ F, x.length = W.length
  rl : R.length = L.length
  w : ∀ x ∈ W, 1 ≤ x ∧ x ≤ 9
  s : 0 ≤ s ∧ s ≤ 3
  r : ∀ x ∈ R, 0 ≤ x ∧ x ≤ 99
  lv : ∀ r ∈ L, ∀ x ∈ r, -1 ≤ x ∧ x ≤ 5
  fv : ∀ r ∈ F, ∀ x ∈ r, -1 ≤ x ∧ x ≤ 5
section
variable {W : List Int} {s : Int} {L F : List (List Int)} {R : List Int}
theorem errD_iff : errD W s L F R = 0 ↔ Fine W s L F R := by
  unfold errD
  constructor
  · intro h
    split at h
    · cases h
    rename_i c1
    split at h
    · cases h
    rename_i c2
    split at h
    · cases h
    rename_i c3
    split at h
    · cases h
    rename_i c4
    split at h
    · cases h
    rename_i c5
    split at h
    · cases h
    rename_i c6
    split at h
    rotate_left
    · cases h
    rename_i c7
    simp only [Bool.and_eq_true, List.all_eq_true, okw, okr, okv, decide_eq_true_eq] at c7
    simp only [Bool.not_eq_false, List.all_eq_true, okl, decide_eq_true_eq] at c4 c5
    exact ⟨by omega, by omega, by omega, by omega, c4, c5, by omega, c7.1.1.1.1, c7.1.1.1.2, c7.1.1.2, c7.1.2, c7.2⟩
  · intro h
    have c4 : L.all (okl W.length) = true := by simpa [okl] using h.lw
    have c5 : F.all (okl W.length) = true := by simpa [okl] using h.fw
    have h1 := h.w1; have h2 := h.w5; have h3 := h.l6; have h4 := h.f6; have h5 := h.rl
    rw [if_neg (by omega), if_neg (by omega), if_neg (by omega), if_neg (by simp [c4]), if_neg (by simp [c5]), if_neg (by omega), if_pos]
    simp only [Bool.and_eq_true, List.all_eq_true, okw, okr, okv, decide_eq_true_eq]
    exact ⟨⟨⟨⟨h.w, h.s⟩, h.r⟩, h.lv⟩, h.fv⟩
theorem Fine.sm (h : Fine W s L F R) : Sm W L F R := by
  have h1 := h.w1; have h2 := h.w5; have h3 := h.l6; have h4 := h.f6; have h5 := h.rl
  exact ⟨by omega, by omega, by omega, by omega, fun x hx => by have := h.lw x hx; omega, fun x hx => by have := h.fw x hx; omega⟩
/-- The desk at work. -/
def dkT (W : List Int) (s : Int) (L F : List (List Int)) (R : List Int) (A B : Nat → Nat → Int) : Dk := (W, s, L, F, R, tabA (fun x => A (x / 6) (x % 6)), tabA (fun x => B (x / 6) (x % 6)), ())
def dkO (W : List Int) (s : Int) (L F : List (List Int)) (R : List Int) : Dk := dkT W s L F R (agF W L F) (slF W L F)
theorem getD_W (hw : ∀ x ∈ W, 1 ≤ x ∧ x ≤ 9) (t : Nat) : 0 ≤ W.getD t 0 ∧ W.getD t 0 ≤ 9 := by
  by_cases h : t < W.length
  · have := hw _ (getD_mem (d := 0) h); omega
  · have : W.getD t 0 = 0 := by simp [List.getD, List.getElem?_eq_none (show W.length ≤ t by omega)]
    omega
theorem agA_bound (hw : ∀ x ∈ W, 1 ≤ x ∧ x ≤ 9) (a b : List Int) (t : Nat) : 0 ≤ agA W a b t ∧ agA W a b t ≤ 9 := by
  have := getD_W hw t
  unfold agA; split <;> omega
theorem slA_bound (a b : List Int) (t : Nat) : 0 ≤ slA a b t ∧ slA a b t ≤ 1 := by unfold slA; split <;> omega
theorem agP_bound (hw : ∀ x ∈ W, 1 ≤ x ∧ x ≤ 9) (a b : List Int) {t : Nat} (ht : t ≤ 5) : 0 ≤ agP W a b t ∧ agP W a b t ≤ 50 := by
  have := sumN_bound (agA_bound hw a b) (by omega) t (by omega)
  unfold agP; omega
theorem slP_bound (a b : List Int) {t : Nat} (ht : t ≤ 5) : 0 ≤ slP a b t ∧ slP a b t ≤ 50 := by
  have := sumN_bound (slA_bound a b) (by omega) t (by omega)
  unfold slP; omega
theorem upd_upd {α : Type} (J : Nat → α) (i : Nat) (v w : α) : upd (upd J i v) i w = upd J i w := by
  funext x; unfold upd; split <;> rfl
theorem upd_id {α : Type} (J : Nat → α) (i : Nat) : upd J i (J i) = J := by
  funext x; unfold upd; split
  · rename_i e; rw [e]
  · rfl
theorem opened_l3_p {N : Nat} (h : Fine W s L F R) {i k : Nat} (hi : i < 6) (hk : k < 6) {a b : List Int} (ha : a.length = W.length) (hb : b.length = W.length) {u u4 : List (List Int)} {u2 u3 u5 u6 : Int} {o1 o5 : List Int} {o2 : Int} {o3 o4 : List (List Int)} :
    ∀ (n t : Nat) (g g' : Nat → Int), W.length < n + t → t ≤ W.length → g (i * 6 + k) = agP W a b t → g' (i * 6 + k) = slP a b t →
      opened_l3 N n i a k b u u2 u3 u4 u5 u6 a a.length t W s L F R o1 o2 o3 o4 o5 (tabA g) (tabA g') = some ((i : Int), a, u, u2, u3, u4, u5, u6, W, s, L, F, R, o1, o2, o3, o4, o5, tabA (upd g (i * 6 + k) (agP W a b W.length)), tabA (upd g' (i * 6 + k) (slP a b W.length)))
  | 0, t, _, _, hn, ht, _, _ => by omega
  | n + 1, t, g, g', hn, ht, e1, e2 => by
    unfold opened_l3
    have hw5 := h.w5
    by_cases c : t < W.length
    · have hx : i * 6 + k < 36 := by omega
      have hj : ∀ g g' : Nat → Int, opened_j1 N (opened_l3 N n) i a k b u u2 u3 u4 u5 u6 a a.length t W s L F R o1 o2 o3 o4 o5 (tabA g) (tabA g') = opened_l3 N n i a k b u u2 u3 u4 u5 u6 a a.length ((t + 1 : Nat) : Int) W s L F R o1 o2 o3 o4 o5 (tabA g) (tabA g') := fun g g' => by
        unfold opened_j1
        rw [chk_eq (by omega)]; rfl
      have b1 := agP_bound h.w a b (t := t) (by omega)
      have b2 := slP_bound a b (t := t) (by omega)
      have b3 := getD_W h.w t
      have s1 : agP W a b (t + 1) = agP W a b t + agA W a b t := rfl
      have s2 : slP a b (t + 1) = slP a b t + slA a b t := rfl
      rw [br_dec (by omega), idx_eq (by omega) (gets (by omega) 0)]
      unfold agA at s1
      unfold slA at s2
      by_cases c1 : a.getD t 0 = -1
      · rw [if_neg (by omega)] at s1 s2
        rw [br_dec c1, hj, opened_l3_p h hi hk ha hb n (t + 1) g g' (by omega) (by omega) (by omega) (by omega)]
      rw [br_ndec c1, idx_eq (by omega) (gets (by omega) 0)]
      by_cases c2 : b.getD t 0 = -1
      · rw [if_neg (by omega)] at s1 s2
        rw [br_dec c2, hj, opened_l3_p h hi hk ha hb n (t + 1) g g' (by omega) (by omega) (by omega) (by omega)]
      rw [br_ndec c2, idx_eq (by omega) (gets (by omega) 0)]
      by_cases c3 : a.getD t 0 = b.getD t 0
      · rw [if_pos ⟨c3, c1⟩] at s1
        rw [if_neg (by omega)] at s2
        rw [br_dec c3, rng_eq (by omega), rng_eq (by omega)]
        simp only [Int.toNat_natCast]
        rw [get_get 0 (by rw [tabA_len]; exact hx), tabA_get hx, e1, idx_eq (by omega) (gets (k := t) (l := W) (by omega) 0), chk_eq (by omega), rng_eq (by omega), rng_eq (by omega), get_get 0 (by rw [tabA_len]; exact hx), tabA_set, hj,
          opened_l3_p h hi hk ha hb n (t + 1) _ _ (by omega) (by omega) (by rw [upd_self]; omega) (by omega), upd_upd]
      · rw [if_neg (by omega)] at s1
        rw [if_pos ⟨c1, c2, c3⟩] at s2
        rw [br_ndec c3, rng_eq (by omega), rng_eq (by omega)]
        simp only [Int.toNat_natCast]
        rw [get_get 0 (by rw [tabA_len]; exact hx), tabA_get hx, e2, chk_eq (by omega), rng_eq (by omega), rng_eq (by omega), get_get 0 (by rw [tabA_len]; exact hx), tabA_set, hj,
          opened_l3_p h hi hk ha hb n (t + 1) _ _ (by omega) (by omega) (by omega) (by rw [upd_self]; omega), upd_upd]
    · obtain rfl : t = W.length := by omega
      rw [br_ndec (by omega), ← e1, ← e2, upd_id, upd_id]
/-- Tables that are filled up to a pair. -/
def gK (A : Nat → Nat → Int) (i k : Nat) : Nat → Int := fun x => if x / 6 < i ∨ (x / 6 = i ∧ x % 6 < k) then A (x / 6) (x % 6) else 0
theorem gK_step (A : Nat → Nat → Int) {i k : Nat} (hk : k < 6) : upd (gK A i k) (i * 6 + k) (A i k) = gK A i (k + 1) := by
  funext x
  unfold upd gK
  by_cases e : x = i * 6 + k
  · rw [if_pos e, if_pos (by omega), show x / 6 = i by omega, show x % 6 = k by omega]
  · rw [if_neg e]
    by_cases c : x / 6 < i ∨ (x / 6 = i ∧ x % 6 < k)
    · rw [if_pos c, if_pos (by omega)]
    · rw [if_neg c, if_neg (by omega)]
theorem gK_self (A : Nat → Nat → Int) {i k : Nat} (hk : k < 6) : gK A i k (i * 6 + k) = 0 := if_neg (by omega)
theorem gK_row {A : Nat → Nat → Int} {i m : Nat} (h : ∀ k, m ≤ k → A i k = 0) : gK A i m = gK A (i + 1) 0 := by
  funext x
  unfold gK
  by_cases c : x / 6 < i ∨ (x / 6 = i ∧ x % 6 < m)
  · rw [if_pos c, if_pos (by omega)]
  · rw [if_neg c]
    by_cases d : x / 6 = i
    · rw [if_pos (by omega), d, h _ (by omega)]
    · rw [if_neg (by omega)]
theorem gK_all {A : Nat → Nat → Int} {n : Nat} (h : ∀ i k, n ≤ i → A i k = 0) : gK A n 0 = fun x => A (x / 6) (x % 6) := by
  funext x
  unfold gK
  by_cases c : x / 6 < n
  · rw [if_pos (.inl c)]
  · rw [if_neg (by omega), h _ _ (by omega)]
theorem opened_l2_p {N : Nat} (hN : 110 ≤ N) (h : Fine W s L F R) {i : Nat} (hi : i < L.length) {u : List (List Int)} {u2 u3 : Int} {o1 o5 : List Int} {o2 : Int} {o3 o4 : List (List Int)} :
    ∀ (n k : Nat), F.length < n + k → k ≤ F.length →
      opened_l2 N n i (L.getD i []) u u2 u3 F F.length k W s L F R o1 o2 o3 o4 o5 (tabA (gK (agF W L F) i k)) (tabA (gK (slF W L F) i k)) = some (u, u2, u3, W, s, L, F, R, o1, o2, o3, o4, o5, tabA (gK (agF W L F) (i + 1) 0), tabA (gK (slF W L F) (i + 1) 0))
  | 0, k, hn, hk => by omega
  | n + 1, k, hn, hk => by
    unfold opened_l2
    have hl6 := h.l6; have hf6 := h.f6; have hw5 := h.w5
    by_cases c : k < F.length
    · have ih := opened_l2_p hN h hi (u := u) (u2 := u2) (u3 := u3) (o1 := o1) (o5 := o5) (o2 := o2) (o3 := o3) (o4 := o4) n (k + 1) (by omega) (by omega)
      rw [nat_succ] at ih
      have e := opened_l3_p (N := N) h (i := i) (k := k) (by omega) (by omega) (h.lw _ (getD_mem (d := []) hi)) (h.fw _ (getD_mem (d := []) c)) (u := u) (u4 := F) (u2 := u2) (u3 := u3) (u5 := F.length) (u6 := k) (o1 := o1) (o5 := o5) (o2 := o2) (o3 := o3) (o4 := o4)
        N 0 (gK (agF W L F) i k) (gK (slF W L F) i k) (by omega) (by omega) (gK_self _ (by omega)) (gK_self _ (by omega))
      have a1 : agP W (L.getD i []) (F.getD k []) W.length = agF W L F i k := (if_pos ⟨hi, c⟩).symm
      have a2 : slP (L.getD i []) (F.getD k []) W.length = slF W L F i k := (if_pos ⟨hi, c⟩).symm
      rw [a1, a2, gK_step _ (by omega), gK_step _ (by omega), show ((0 : Nat) : Int) = 0 from rfl] at e
      rw [br_dec (by omega), idx_eq (by omega) (gets c []), e]
      simp only [Option.bind_some]
      rw [chk_eq (by omega)]
      exact ih
    · obtain rfl : k = F.length := by omega
      rw [br_ndec (by omega), gK_row (A := agF W L F) (i := i) (m := F.length) (fun k hk => by unfold agF; exact if_neg (by omega)), gK_row (A := slF W L F) (i := i) (m := F.length) (fun k hk => by unfold slF; exact if_neg (by omega))]
theorem opened_l1_p {N : Nat} (hN : 110 ≤ N) (h : Fine W s L F R) {o1 o5 : List Int} {o2 : Int} {o3 o4 : List (List Int)} :
    ∀ (n i : Nat), L.length < n + i → i ≤ L.length →
      opened_l1 N n L L.length i W s L F R o1 o2 o3 o4 o5 (tabA (gK (agF W L F) i 0)) (tabA (gK (slF W L F) i 0)) = some (o1, o2, o3, o4, o5, tabA (fun x => agF W L F (x / 6) (x % 6)), tabA (fun x => slF W L F (x / 6) (x % 6)))
  | 0, i, hn, hi => by omega
  | n + 1, i, hn, hi => by
    unfold opened_l1
    have hl6 := h.l6; have hf6 := h.f6
    by_cases c : i < L.length
    · have ih := opened_l1_p hN h (o1 := o1) (o5 := o5) (o2 := o2) (o3 := o3) (o4 := o4) n (i + 1) (by omega) (by omega)
      rw [nat_succ] at ih
      have e := opened_l2_p hN h c (u := L) (u2 := L.length) (u3 := i) (o1 := o1) (o5 := o5) (o2 := o2) (o3 := o3) (o4 := o4) N 0 (by omega) (by omega)
      rw [show ((0 : Nat) : Int) = 0 from rfl] at e
      rw [br_dec (by omega), idx_eq (by omega) (gets c []), e]
      simp only [Option.bind_some]
      rw [chk_eq (by omega)]
      exact ih
    · obtain rfl : i = L.length := by omega
      rw [br_ndec (by omega), gK_all (A := agF W L F) (fun i k hi => by unfold agF; exact if_neg (by omega)), gK_all (A := slF W L F) (fun i k hi => by unfold slF; exact if_neg (by omega))]
theorem opened_v {N : Nat} (hN : 110 ≤ N) (h : Sm W L F R) : opened_S N W s L F R = some (if errD W s L F R = 0 then .inl (dkO W s L F R, 0) else .inr (errD W s L F R)) := by
  unfold opened_S
  rw [check_v hN h]
  simp only [Option.bind_some]
  by_cases c : errD W s L F R = 0
  · have hF := errD_iff.1 c
    have e := opened_l1_p hN hF (o1 := W) (o2 := s) (o3 := L) (o4 := F) (o5 := R) N 0 (by have := hF.l6; omega) (by omega)
    have z : ∀ A : Nat → Nat → Int, tabA (gK A 0 0) = List.replicate 36 (0 : Int) := fun A => by
      rw [show gK A 0 0 = fun _ => 0 by funext x; exact if_neg (by omega)]; rfl
    rw [z, z, show ((0 : Nat) : Int) = 0 from rfl] at e
    rw [br_nd c, if_pos c, e]; rfl
  · rw [br_nnd c, if_neg c]
end
end Go.Proofs.Ythncjilcflilcaa

namespace Go.Proofs.Ythncjilcflilcaa
set_option linter.all false
open Go

/-! ### All of some numbers -/
def alI (p : Nat → Bool) (n : Nat) : Bool := (List.range' 0 n).all p
theorem alI_iff {p : Nat → Bool} {n : Nat} : alI p n = true ↔ ∀ i, i < n → p i = true := by
  unfold alI
  rw [List.all_eq_true]
  constructor
  · exact fun h i hi => h i (by simp [List.mem_range'_1, hi])
  · exact fun h i hi => h i (by have := List.mem_range'_1.1 hi; omega)
/-! ### Tables -/
def canT (A B : Nat → Nat → Int) (s : Int) (i k : Nat) : Bool := decide (0 < A i k) && decide (B i k ≤ s)
section
variable {W : List Int} {s : Int} {L F : List (List Int)} {R : List Int} {A B : Nat → Nat → Int} {N : Nat}
theorem agD_T {i k : Nat} (hi : i < 6) (hk : k < 6) : agD (dkT W s L F R A B) i k = A i k := by
  unfold agD dkT
  rw [tabA_get (by omega), show (i * 6 + k) / 6 = i by omega, show (i * 6 + k) % 6 = k by omega]
theorem slD_T {i k : Nat} (hi : i < 6) (hk : k < 6) : slD (dkT W s L F R A B) i k = B i k := by
  unfold slD dkT
  rw [tabA_get (by omega), show (i * 6 + k) / 6 = i by omega, show (i * 6 + k) % 6 = k by omega]
theorem get_T {i k : Nat} (hi : i < 6) (hk : k < 6) {Z : Type} {f : Int → Option Z} : get (dkT W s L F R A B).2.2.2.2.2.1 (i * 6 + k) f = f (A i k) := by
  have e := agD_T (W := W) (s := s) (L := L) (F := F) (R := R) (A := A) (B := B) hi hk
  unfold agD at e
  rw [get_get 0 (by unfold dkT; rw [tabA_len]; omega), e]
theorem agF_bound (h : Fine W s L F R) (i k : Nat) : 0 ≤ agF W L F i k ∧ agF W L F i k ≤ 50 := by
  unfold agF
  split
  · exact agP_bound h.w _ _ h.w5
  · omega
abbrev canF (W : List Int) (s : Int) (L F : List (List Int)) : Nat → Nat → Bool := canT (agF W L F) (slF W L F) s
/-! ### A pair -/
/-! ### Joins -/
def inm (m : Nat) (x : Int) : Bool := decide (-1 ≤ x ∧ x ≤ (m : Int) - 1)
def hasB (l : List Int) (x : Int) : Bool := l.any fun y => decide (x = y)
theorem hasB_iff {l : List Int} {x : Int} : hasB l x = true ↔ x ∈ l := by simp [hasB]
def dupI (l : List Int) (i : Nat) : Bool := decide (l.getD i 0 = -1) || !hasB (l.take i) (l.getD i 0)
def cnI (can : Nat → Nat → Bool) (l : List Int) (i : Nat) : Bool := decide (l.getD i 0 = -1) || can i (l.getD i 0).toNat
/-- The error of joins, e that of the desk. -/
def errJ (e : Int) (n m : Nat) (can : Nat → Nat → Bool) (l : List Int) : Int :=
  if ¬ e = 0 then e else if ¬ (l.length : Int) = (n : Int) then 2 else if l.all (inm m) = false then 1 else if alI (dupI l) l.length = false then 5 else if alI (cnI can l) l.length = false then 8 else 0
theorem dfound_v (h : F.length ≤ 1000000) (x : Int) : dfound_S N (dkT W s L F R A B) x = some (decide (0 ≤ x ∧ x ≤ (F.length : Int) - 1)) := by
  unfold dfound_S
  rw [in_v]
  exact chk_eq (by simp only [dkT]; omega)
theorem dlost_v (h : L.length ≤ 1000000) (x : Int) : dlost_S N (dkT W s L F R A B) x = some (decide (0 ≤ x ∧ x ≤ (L.length : Int) - 1)) := by
  unfold dlost_S
  rw [in_v]
  exact chk_eq (by simp only [dkT]; omega)
end
end Go.Proofs.Ythncjilcflilcaa

namespace Go.Proofs.Ythncjilcflilcaa
set_option linter.all false
open Go

section
variable {N : Nat}
theorem sum_l1_p {l : List Int} {m : Int} (hl : l.length ≤ 1000) (hm : 0 ≤ m ∧ m ≤ 1000) (hr : ∀ x ∈ l, -m ≤ x ∧ x ≤ m) : ∀ (n k : Nat) (s : Int), l.length < n + k → k ≤ l.length → (-(m * k) ≤ s ∧ s ≤ m * k) → sum_l1 N n s l l.length k = some (s + (l.drop k).sum)
  | 0, k, s, h, _, _ => by omega
  | n + 1, k, s, h, hk, hs => by
    unfold sum_l1
    have hmk : m * (k : Int) ≤ 1000 * 1000 := Int.mul_le_mul hm.2 (by omega) (by omega) (by omega)
    by_cases c : k < l.length
    · have hx := hr _ (getD_mem (d := 0) c)
      have g := gets c 0
      rw [drop_cons c 0]
      generalize l.getD k 0 = x at *
      have e : m * ((k + 1 : Nat) : Int) = m * k + m := by rw [Int.natCast_add, Int.mul_add]; simp
      have ih := sum_l1_p hl hm hr n (k + 1) (s + x) (by omega) (by omega) (by omega)
      rw [nat_succ] at ih
      rw [br_dec (by omega), idx_eq (by omega) g, chk_eq (by omega), chk_eq (by omega), ih, List.sum_cons]
      congr 1; omega
    · rw [br_ndec (by omega), List.drop_of_length_le (by omega)]; simp
theorem sum_v {l : List Int} {m : Int} (hl : l.length ≤ 1000) (hN : l.length < N) (hm : 0 ≤ m ∧ m ≤ 1000) (hr : ∀ x ∈ l, -m ≤ x ∧ x ≤ m) : sum_S N l = some l.sum := by
  unfold sum_S
  have := sum_l1_p (N := N) hl hm hr N 0 0 (by omega) (by omega) (by simp)
  simp only [Int.natCast_zero, List.drop_zero, Int.zero_add] at this
  rw [this]; rfl
end
/-- What joins count, one by one. -/
def wlJ (t : Nat → Nat → Int) : Nat → List Int → List Int
  | _, [] => []
  | i, x :: l => (if x = -1 then [] else [t i x.toNat]) ++ wlJ t (i + 1) l
theorem wlJ_sum (t : Nat → Nat → Int) : ∀ (l : List Int) (i : Nat), (wlJ t i l).sum = valJ t i l
  | [], _ => rfl
  | x :: l, i => by
    rw [wlJ, valJ, List.sum_append, wlJ_sum t l (i + 1)]
    unfold pv
    split <;> simp
theorem wlJ_len (t : Nat → Nat → Int) : ∀ (l : List Int) (i : Nat), (wlJ t i l).length ≤ l.length
  | [], _ => Nat.le_refl _
  | x :: l, i => by
    have := wlJ_len t l (i + 1)
    rw [wlJ, List.length_append, List.length_cons]
    split <;> simp <;> omega
theorem wlJ_bound {t : Nat → Nat → Int} {m : Int} (h : ∀ i k, 0 ≤ t i k ∧ t i k ≤ m) : ∀ (l : List Int) (i : Nat), ∀ x ∈ wlJ t i l, 0 ≤ x ∧ x ≤ m
  | [], _, x, hx => by cases hx
  | y :: l, i, x, hx => by
    rw [wlJ, List.mem_append] at hx
    rcases hx with hx | hx
    · split at hx
      · cases hx
      · simp only [List.mem_singleton] at hx
        subst hx; exact h _ _
    · exact wlJ_bound h l (i + 1) x hx
theorem valJ_bound {t : Nat → Nat → Int} {m : Int} (h : ∀ i k, 0 ≤ t i k ∧ t i k ≤ m) (hm : 0 ≤ m) : ∀ (l : List Int) (i : Nat), 0 ≤ valJ t i l ∧ valJ t i l ≤ m * l.length
  | [], _ => by simp [valJ]
  | x :: l, i => by
    have h1 := valJ_bound h hm l (i + 1)
    have h2 := h i x.toNat
    rw [valJ, List.length_cons, Int.natCast_add, Int.mul_add]
    unfold pv
    split <;> simp <;> omega
section
variable {W : List Int} {s : Int} {L F : List (List Int)} {R : List Int} {A B : Nat → Nat → Int} {N : Nat}
theorem dworth_l1_p {l : List Int} (hl : l.length ≤ 6) (hF : F.length ≤ 6) (hm : l.all (inm F.length) = true) : ∀ (n k : Nat) (acc : List Int), l.length < n + k → k ≤ l.length → acc.length ≤ k → dworth_l1 N n (dkT W s L F R A B) l l.length k acc = some (acc ++ wlJ A k (l.drop k))
  | 0, k, _, h, _, _ => by omega
  | n + 1, k, acc, h, hk, ha => by
    unfold dworth_l1
    by_cases c : k < l.length
    · have hx := List.all_eq_true.1 hm _ (getD_mem (d := 0) c)
      unfold inm at hx
      rw [decide_eq_true_eq] at hx
      have hj : ∀ acc, acc.length ≤ k + 1 → dworth_j1 N (dworth_l1 N n) (dkT W s L F R A B) l l.length k acc = some (acc ++ wlJ A (k + 1) (l.drop (k + 1))) := fun acc ha => by
        have ih := dworth_l1_p hl hF hm n (k + 1) acc (by omega) (by omega) ha
        rw [nat_succ] at ih
        unfold dworth_j1
        rw [chk_eq (by omega), ih]
      rw [br_dec (by omega), idx_eq (by omega) (gets c 0), drop_cons c 0, wlJ]
      by_cases c1 : l.getD k 0 = -1
      · rw [br_nd c1, hj _ (by omega), if_pos c1, List.nil_append]
      · obtain ⟨q, hq⟩ : ∃ q : Nat, l.getD k 0 = q := ⟨(l.getD k 0).toNat, by omega⟩
        rw [br_nnd c1, if_neg c1]
        rw [hq] at hx ⊢
        rw [rng_eq (by omega), rng_eq (by omega)]
        simp only [Int.toNat_natCast]
        rw [get_T (by omega) (by omega), lim_eq (by simp; omega), hj _ (by simp; omega), List.append_assoc]
    · rw [br_ndec (by omega), List.drop_of_length_le (by omega)]
      simp [wlJ]
theorem dworth_v (hN : 110 ≤ N) (hA : ∀ i k, 0 ≤ A i k ∧ A i k ≤ 50) {l : List Int} (hl : l.length ≤ 6) (hF : F.length ≤ 6) (hm : l.all (inm F.length) = true) : dworth_S N (dkT W s L F R A B) l = some (valJ A 0 l) := by
  have e := dworth_l1_p (N := N) (W := W) (s := s) (L := L) (F := F) (R := R) (A := A) (B := B) hl hF hm N 0 [] (by omega) (by omega) (by simp)
  have h1 := wlJ_len A l 0
  rw [show ((0 : Nat) : Int) = 0 from rfl, List.drop_zero, List.nil_append] at e
  unfold dworth_S
  rw [e]
  simp only [Option.bind_some]
  rw [sum_v (m := 1000) (by omega) (by omega) (by omega) (fun x hx => by have := wlJ_bound hA l 0 x hx; omega), wlJ_sum]; rfl
/-- What joins without an error are. -/
theorem errJ_fine {e : Int} {n m : Nat} {can : Nat → Nat → Bool} {l : List Int} (h : errJ e n m can l = 0) : e = 0 ∧ l.length = n ∧ l.all (inm m) = true ∧ alI (dupI l) l.length = true ∧ alI (cnI can l) l.length = true := by
  unfold errJ at h
  split at h
  · rename_i c; exact absurd h c
  rename_i c
  split at h
  · cases h
  rename_i c1
  split at h
  · cases h
  rename_i c2
  split at h
  · cases h
  rename_i c3
  split at h
  · cases h
  rename_i c4
  exact ⟨by omega, by omega, by simpa using c2, by simpa using c3, by simpa using c4⟩
/-! ### What may be joined -/
def mayE (can : Nat → Nat → Bool) (m i : Nat) : List (Int × Unit) := (mayL can m i).map fun (j : Nat) => ((j : Int), ())
theorem mayR_T (hF : F.length ≤ 6) {i : Nat} (hi : i < 6) : mayR (dkT W s L F R A B) (dkT W s L F R A B) i = some (mayE (canT A B s) F.length i) := by
  unfold mayR mayE mayL mayF
  rw [if_pos ⟨⟨by omega, by omega⟩, hF, tabA_len _, tabA_len _⟩]
  congr 2
  simp only [Int.toNat_natCast, Nat.sub_zero]
  rw [← List.range_eq_range']
  refine List.filter_congr fun k hk => ?_
  have hk : k < F.length := by simpa [dkT] using hk
  unfold canD canT
  rw [agD_T hi (by omega), slD_T hi (by omega)]; rfl
end
end Go.Proofs.Ythncjilcflilcaa

namespace Go.Proofs.Ythncjilcflilcaa
set_option linter.all false
open Go

section
variable {W : List Int} {s : Int} {L F : List (List Int)} {R : List Int} {A B : Nat → Nat → Int} {N : Nat}
/-! ### Copies -/
end
end Go.Proofs.Ythncjilcflilcaa

namespace Go.Proofs.Ythncjilcflilcaa
set_option linter.all false
open Go

abbrev MK := List ((Int × Int) × (Int × (Int × Int)))
def lkM (g : MK) (i u : Int) : Option (Int × (Int × Int)) := (g.find? fun (y : (Int × Int) × (Int × (Int × Int))) => Ty.beq (.pair (.int .i64) (.int .i64)) y.1 (i, u)).map (·.2)
theorem lkM_cons (a b : Int) (v : Int × (Int × Int)) (g : MK) (i u : Int) : lkM (((a, b), v) :: g) i u = if a = i ∧ b = u then some v else lkM g i u := by
  have e : Ty.beq (.pair (.int .i64) (.int .i64)) (a, b) (i, u) = decide (a = i ∧ b = u) := by
    show (decide (a = i) && decide (b = u)) = _
    by_cases h1 : a = i <;> by_cases h2 : b = u <;> simp [h1, h2]
  unfold lkM
  rw [List.find?_cons]
  by_cases h : a = i ∧ b = u
  · rw [if_pos h, show (Ty.beq (.pair (.int .i64) (.int .i64)) (((a, b), v) : (Int × Int) × (Int × (Int × Int))).1 (i, u)) = true by rw [e, decide_eq_true h]]; rfl
  · rw [if_neg h, show (Ty.beq (.pair (.int .i64) (.int .i64)) (((a, b), v) : (Int × Int) × (Int × (Int × Int))).1 (i, u)) = false by rw [e, decide_eq_false h]]
theorem lkM_some (g : MK) (i u : Int) : (g.find? fun (y : (Int × Int) × (Int × (Int × Int))) => Ty.beq (.pair (.int .i64) (.int .i64)) y.1 (i, u)).isSome = (lkM g i u).isSome := by
  unfold lkM; rw [Option.isSome_map]
def hasM (g : MK) (i u : Nat) : Prop := (lkM g i u).isSome = true
def subM (g g' : MK) : Prop := ∀ i u : Nat, hasM g i u → hasM g' i u
theorem subM.refl (g : MK) : subM g g := fun _ _ h => h
theorem subM.trans {a b c : MK} (h : subM a b) (k : subM b c) : subM a c := fun i u x => k i u (h i u x)
/-- What is remembered is right, and so is what follows from it. -/
structure MOK (can : Nat → Nat → Bool) (t : Nat → Nat → Int) (m n : Nat) (g : MK) : Prop where
  val : ∀ (i u : Nat) v, lkM g i u = some v → v = rsR can t m (n - i) i u
  clo : ∀ i u : Nat, hasM g i u → i + 1 < n → hasM g (i + 1) u ∧ ∀ k ∈ mayL can m i, u.testBit k = false → hasM g (i + 1) (u ||| 2 ^ k)
theorem MOK.nil {can : Nat → Nat → Bool} {t : Nat → Nat → Int} {m n : Nat} : MOK can t m n [] := ⟨fun i u v h => by simp [lkM] at h, fun i u h => by simp [hasM, lkM] at h⟩
theorem MOK.cons {can : Nat → Nat → Bool} {t : Nat → Nat → Int} {m n : Nat} {g : MK} (h : MOK can t m n g) {i u : Nat} (h1 : i + 1 < n → hasM g (i + 1) u ∧ ∀ k ∈ mayL can m i, u.testBit k = false → hasM g (i + 1) (u ||| 2 ^ k)) :
    MOK can t m n ((((i : Int), (u : Int)), rsR can t m (n - i) i u) :: g) ∧ subM g ((((i : Int), (u : Int)), rsR can t m (n - i) i u) :: g) ∧ hasM ((((i : Int), (u : Int)), rsR can t m (n - i) i u) :: g) i u := by
  have hsub : subM g ((((i : Int), (u : Int)), rsR can t m (n - i) i u) :: g) := fun i' u' hh => by
    unfold hasM at *
    rw [lkM_cons]
    split
    · rfl
    · exact hh
  refine ⟨⟨fun i' u' v hv => ?_, fun i' u' hh hi => ?_⟩, hsub, ?_⟩
  · rw [lkM_cons] at hv
    split at hv
    · rename_i e
      obtain rfl : i = i' := by omega
      obtain rfl : u = u' := by omega
      simp only [Option.some.injEq] at hv
      exact hv.symm
    · exact h.val i' u' v hv
  · unfold hasM at hh
    rw [lkM_cons] at hh
    split at hh
    · rename_i e
      obtain rfl : i = i' := by omega
      obtain rfl : u = u' := by omega
      exact ⟨hsub _ _ (h1 hi).1, fun k hk hb => hsub _ _ ((h1 hi).2 k hk hb)⟩
    · obtain ⟨x, y⟩ := h.clo i' u' hh hi
      exact ⟨hsub _ _ x, fun k hk hb => hsub _ _ (y k hk hb)⟩
  · unfold hasM
    rw [lkM_cons, if_pos ⟨rfl, rfl⟩]; rfl
theorem MOK.get {can : Nat → Nat → Bool} {t : Nat → Nat → Int} {m n : Nat} {g : MK} (h : MOK can t m n g) {i u : Nat} (hh : hasM g i u) : lkM g i u = some (rsR can t m (n - i) i u) := by
  unfold hasM at hh
  cases e : lkM g i u with
  | none => rw [e] at hh; cases hh
  | some v => rw [h.val i u v e]
/-! ### Bounds -/
theorem flatMap_len {α β : Type} {f : α → List β} {B : Nat} : ∀ {l : List α}, (∀ x ∈ l, (f x).length ≤ B) → (l.flatMap f).length ≤ l.length * B
  | [], _ => by simp
  | x :: l, h => by
    have h1 := h x (by simp)
    have h2 := flatMap_len (l := l) (fun y hy => h y (by simp [hy]))
    rw [List.flatMap_cons, List.length_append, List.length_cons, Nat.add_mul]; omega
theorem mayL_len (can : Nat → Nat → Bool) (m i : Nat) : (mayL can m i).length ≤ m := by
  have := List.length_filter_le (can i) (List.range m)
  simpa [mayL] using this
theorem joinsL_len {can : Nat → Nat → Bool} {m : Nat} (hm : m ≤ 6) : ∀ d i u : Nat, (joinsL can m d i u).length ≤ 7 ^ d
  | 0, _, _ => by simp [joinsL]
  | d + 1, i, u => by
    have h1 := joinsL_len (can := can) hm d (i + 1) u
    have h2 : ((mayL can m i).flatMap fun k => if u.testBit k then [] else (joinsL can m d (i + 1) (u ||| 2 ^ k)).map ((k : Int) :: ·)).length ≤ (mayL can m i).length * 7 ^ d := flatMap_len fun k _ => by
      split
      · simp
      · rw [List.length_map]; exact joinsL_len hm d (i + 1) _
    have h3 := mayL_len can m i
    have h4 : (mayL can m i).length * 7 ^ d ≤ 6 * 7 ^ d := Nat.mul_le_mul_right _ (by omega)
    rw [joinsL, List.length_append, List.length_map, Nat.pow_succ]
    omega
theorem rs_bound {can : Nat → Nat → Bool} {t : Nat → Nat → Int} {m : Nat} (hm : m ≤ 6) {T : Int} (ht : ∀ i k, 0 ≤ t i k ∧ t i k ≤ T) (hT : 0 ≤ T) (d i u : Nat) :
    (0 ≤ (rsR can t m d i u).2.1 ∧ (rsR can t m d i u).2.1 ≤ T * d) ∧ 0 ≤ (rsR can t m d i u).2.2 ∧ (rsR can t m d i u).2.2 ≤ ((7 ^ d : Nat) : Int) := by
  obtain ⟨q1, q2, q3⟩ := bl_best (can := can) (t := t) (m := m) d i u
  have hb := rs_bst (can := can) (t := t) (m := m) d i u
  have h1 := valJ_bound ht hT (blR can t m d i u) i
  rw [q2, q3] at h1
  have h2 := List.countP_le_length (p := fun l => decide (valJ t i l = (rsR can t m d i u).2.1)) (l := joinsL can m d i u)
  have h3 := joinsL_len (can := can) hm d i u
  have h4 := hb.ways
  exact ⟨h1, by omega, by omega⟩
theorem bit_of {u k : Nat} : ((((Int.fdiv (u : Int) (2 ^ ((k : Nat) : Int).toNat)).toNat &&& 1 : Nat) : Int) = 1) ↔ u.testBit k = true := by
  have e : (Int.fdiv (u : Int) (2 ^ ((k : Nat) : Int).toNat)).toNat = u / 2 ^ k := by
    rw [Int.toNat_natCast, Int.fdiv_eq_ediv_of_nonneg _ (by exact Int.le_of_lt (Int.pow_pos (by omega)))]
    rw [show ((2 : Int) ^ k) = ((2 ^ k : Nat) : Int) by simp, ← Int.natCast_ediv, Int.toNat_natCast]
  rw [e, Nat.and_one_is_mod, Nat.testBit_eq_decide_div_mod_eq, decide_eq_true_eq]
  omega
theorem fdiv_nn {u k : Nat} : 0 ≤ Int.fdiv (u : Int) (2 ^ ((k : Nat) : Int).toNat) := Int.fdiv_nonneg (by omega) (Int.le_of_lt (Int.pow_pos (by omega)))
theorem pow_small {k : Nat} (hk : k < 6) : ∃ q : Nat, 2 ^ k = q ∧ ((1 : Int) * 2 ^ ((k : Nat) : Int).toNat) = (q : Int) ∧ q < 64 := by
  refine ⟨_, rfl, by simp, ?_⟩
  have : 2 ^ k < 2 ^ 6 := Nat.pow_lt_pow_right (by omega) hk
  simpa using this
theorem or_small {u k : Nat} (hu : u < 64) (hk : k < 6) : u ||| 2 ^ k < 64 := Nat.or_lt_two_pow (n := 6) hu (by obtain ⟨q, h1, _, h2⟩ := pow_small hk; omega)
section
variable {W : List Int} {s : Int} {L F : List (List Int)} {R : List Int} {A B : Nat → Nat → Int} {N : Nat}
theorem tastep_v {i k : Nat} (hi : i < 6) (hk : k < 6) : tastep_S N i k (dkT W s L F R A B) = some (A i k) := by
  unfold tastep_S
  rw [rng_eq (by omega), rng_eq (by omega)]
  simp only [Int.toNat_natCast]
  rw [get_T hi hk]
theorem restp_l1_p {t : Nat → Nat → Int} (hF : F.length ≤ 6) (hL : L.length ≤ 6) (ht : ∀ i k, 0 ≤ t i k ∧ t i k ≤ 30000) (htv : ∀ i k : Nat, i < L.length → k < F.length → tastep_S N i k (dkT W s L F R A B) = some (t i k)) {self : Int → Int → Dk → Dk → Dk → Dk → MK → Option (Int × Int × Int × Dk × Dk × MK)} {i d u : Nat} (hi : i + 1 + d = L.length) (hu : u < 64)
    (hself : ∀ (u : Nat) g, u < 64 → MOK (canT A B s) t F.length L.length g → ∃ g', self ((i : Int) + 1) u (dkT W s L F R A B) (dkT W s L F R A B) (dkT W s L F R A B) (dkT W s L F R A B) g = some ((rsR (canT A B s) t F.length d (i + 1) u).1, (rsR (canT A B s) t F.length d (i + 1) u).2.1, (rsR (canT A B s) t F.length d (i + 1) u).2.2, dkT W s L F R A B, dkT W s L F R A B, g') ∧ MOK (canT A B s) t F.length L.length g' ∧ subM g g' ∧ (i + 1 < L.length → hasM g' (i + 1) u))
    {x4 : Int} {P : Nat} (hP : 7 ^ d = P) : ∀ (ks : List Nat) (g : MK) (b : Int × Int × Int) (Wb : Nat), (∀ k ∈ ks, k < F.length) → MOK (canT A B s) t F.length L.length g → (0 ≤ b.2.1 ∧ b.2.1 ≤ 30000 * (d + 1)) → 0 ≤ b.2.2 → b.2.2 ≤ Wb → Wb + ks.length * P ≤ 10000000 →
      ∃ g', restp_l1 N self (ks.map fun (j : Nat) => ((j : Int), ())) (dkT W s L F R A B) (dkT W s L F R A B) (dkT W s L F R A B) x4 (dkT W s L F R A B) (dkT W s L F R A B) g i u 0 0 0 b.1 b.2.1 b.2.2 =
        some (dkT W s L F R A B, dkT W s L F R A B, g', (i : Int), (u : Int), 0, 0, 0, (ks.foldl (rsS t (rsR (canT A B s) t F.length d (i + 1)) i u) b).1, (ks.foldl (rsS t (rsR (canT A B s) t F.length d (i + 1)) i u) b).2.1, (ks.foldl (rsS t (rsR (canT A B s) t F.length d (i + 1)) i u) b).2.2) ∧
        MOK (canT A B s) t F.length L.length g' ∧ subM g g' ∧ ∀ k ∈ ks, u.testBit k = false → i + 1 < L.length → hasM g' (i + 1) (u ||| 2 ^ k)
  | [], g, b, Wb, _, hg, _, _, _, _ => ⟨g, rfl, hg, subM.refl g, fun k hk => by cases hk⟩
  | k :: ks, g, b, Wb, hk, hg, hb1, hb2, hb3, hWb => by
    have hk0 := hk k (by simp)
    have hks : ∀ x ∈ ks, x < F.length := fun x hx => hk x (by simp [hx])
    rw [List.length_cons, Nat.add_mul, Nat.one_mul] at hWb
    rw [List.map_cons, List.foldl_cons, restp_l1, restp_l1_b]
    dsimp only
    rw [grd_eq (by rw [decide_eq_true_eq]; omega), grd_eq (by rw [decide_eq_true_eq]; exact ⟨fdiv_nn, by omega⟩)]
    by_cases hbit : u.testBit k = true
    · rw [br_dec (bit_of.2 hbit)]
      obtain ⟨g', e1, e2, e3, e4⟩ := restp_l1_p hF hL ht htv hi hu hself (x4 := x4) hP ks g b Wb hks hg hb1 hb2 hb3 (by omega)
      have es : rsS t (rsR (canT A B s) t F.length d (i + 1)) i u b k = b := by unfold rsS; rw [if_pos hbit]
      rw [es]
      refine ⟨g', e1, e2, e3, fun x hx hxb hi => ?_⟩
      rcases List.mem_cons.1 hx with rfl | hx
      · rw [hbit] at hxb; cases hxb
      · exact e4 x hx hxb hi
    · rw [br_ndec (fun h => hbit (bit_of.1 h))]
      obtain ⟨q, hq, p1, p2⟩ := pow_small (k := k) (by omega)
      rw [chk_eq (by omega), grd_eq (by rw [decide_eq_true_eq]; omega), p1, chk_eq (by omega), grd_eq (by rw [decide_eq_true_eq]; omega)]
      simp only [Int.toNat_natCast]
      subst hq
      have hu' := or_small hu (show k < 6 by omega)
      obtain ⟨g1, e1, e2, e3, e4⟩ := hself (u ||| 2 ^ k) g hu' hg
      rw [e1]
      simp only [Option.bind_some]
      rw [htv i k (by omega) hk0]
      simp only [Option.bind_some]
      obtain ⟨⟨r1, r2⟩, r3, r4⟩ := rs_bound (can := canT A B s) (t := t) hF ht (by omega) d (i + 1) (u ||| 2 ^ k)
      have ht0 := ht i k
      have hd : (d : Int) ≤ 5 := by omega
      rw [hP] at r4
      have hbit' : u.testBit k = false := by simpa using hbit
      have fin : ∀ b', rsS t (rsR (canT A B s) t F.length d (i + 1)) i u b k = b' → (0 ≤ b'.2.1 ∧ b'.2.1 ≤ 30000 * (d + 1)) → 0 ≤ b'.2.2 → b'.2.2 ≤ ((Wb + P : Nat) : Int) → ∃ g', restp_l1 N self (ks.map fun (j : Nat) => ((j : Int), ())) (dkT W s L F R A B) (dkT W s L F R A B) (dkT W s L F R A B) x4 (dkT W s L F R A B) (dkT W s L F R A B) g1 i u 0 0 0 b'.1 b'.2.1 b'.2.2 =
        some (dkT W s L F R A B, dkT W s L F R A B, g', (i : Int), (u : Int), 0, 0, 0, (ks.foldl (rsS t (rsR (canT A B s) t F.length d (i + 1)) i u) (rsS t (rsR (canT A B s) t F.length d (i + 1)) i u b k)).1, (ks.foldl (rsS t (rsR (canT A B s) t F.length d (i + 1)) i u) (rsS t (rsR (canT A B s) t F.length d (i + 1)) i u b k)).2.1, (ks.foldl (rsS t (rsR (canT A B s) t F.length d (i + 1)) i u) (rsS t (rsR (canT A B s) t F.length d (i + 1)) i u b k)).2.2) ∧
        MOK (canT A B s) t F.length L.length g' ∧ subM g g' ∧ ∀ x ∈ k :: ks, u.testBit x = false → i + 1 < L.length → hasM g' (i + 1) (u ||| 2 ^ x) := fun b' hb' q1 q2 q3 => by
        obtain ⟨g', f1, f2, f3, f4⟩ := restp_l1_p hF hL ht htv hi hu hself (x4 := x4) hP ks g1 b' (Wb + P) hks e2 q1 q2 q3 (by omega)
        rw [hb']
        refine ⟨g', f1, f2, e3.trans f3, fun x hx hxb hi => ?_⟩
        rcases List.mem_cons.1 hx with rfl | hx
        · exact f3 _ _ (e4 hi)
        · exact f4 x hx hxb hi
      have es : rsS t (rsR (canT A B s) t F.length d (i + 1)) i u b k = if b.2.1 < (rsR (canT A B s) t F.length d (i + 1) (u ||| 2 ^ k)).2.1 + t i k then ((k : Int), (rsR (canT A B s) t F.length d (i + 1) (u ||| 2 ^ k)).2.1 + t i k, (rsR (canT A B s) t F.length d (i + 1) (u ||| 2 ^ k)).2.2)
          else if (rsR (canT A B s) t F.length d (i + 1) (u ||| 2 ^ k)).2.1 + t i k = b.2.1 then (b.1, b.2.1, b.2.2 + (rsR (canT A B s) t F.length d (i + 1) (u ||| 2 ^ k)).2.2) else b := by
        unfold rsS; rw [if_neg hbit]
      have hmul : 30000 * ((d : Int) + 1) = 30000 * d + 30000 := by omega
      rw [chk_eq (by omega)]
      by_cases c1 : b.2.1 < (rsR (canT A B s) t F.length d (i + 1) (u ||| 2 ^ k)).2.1 + t i k
      · rw [if_pos c1] at es
        rw [br_dec c1]
        exact fin _ es ⟨by dsimp only; omega, by dsimp only; omega⟩ (by dsimp only; omega) (by dsimp only; omega)
      · rw [if_neg c1] at es
        rw [br_ndec c1]
        by_cases c2 : (rsR (canT A B s) t F.length d (i + 1) (u ||| 2 ^ k)).2.1 + t i k = b.2.1
        · rw [if_pos c2] at es
          rw [br_dec c2, chk_eq (by omega)]
          exact fin _ es hb1 (by dsimp only; omega) (by dsimp only; omega)
        · rw [if_neg c2] at es
          rw [br_ndec c2]
          exact fin _ es hb1 hb2 (by omega)
theorem restp_R_p {t : Nat → Nat → Int} (hF : F.length ≤ 6) (hL : L.length ≤ 6) (ht : ∀ i k, 0 ≤ t i k ∧ t i k ≤ 30000) (htv : ∀ i k : Nat, i < L.length → k < F.length → tastep_S N i k (dkT W s L F R A B) = some (t i k)) :
    ∀ (fu d i u : Nat) (g : MK), d < fu → i + d = L.length → u < 64 → MOK (canT A B s) t F.length L.length g →
      ∃ g', restp_R N fu i u (dkT W s L F R A B) (dkT W s L F R A B) (dkT W s L F R A B) (dkT W s L F R A B) g = some ((rsR (canT A B s) t F.length d i u).1, (rsR (canT A B s) t F.length d i u).2.1, (rsR (canT A B s) t F.length d i u).2.2, dkT W s L F R A B, dkT W s L F R A B, g') ∧ MOK (canT A B s) t F.length L.length g' ∧ subM g g' ∧ (i < L.length → hasM g' i u)
  | 0, d, i, u, g, h, _, _, _ => by omega
  | fu + 1, d, i, u, g, h, hid, hu, hg => by
    show ∃ g', restp_S N (restp_R N fu) i u (dkT W s L F R A B) (dkT W s L F R A B) (dkT W s L F R A B) (dkT W s L F R A B) g = _ ∧ _
    unfold restp_S
    have hdl : (dkT W s L F R A B).2.2.1.length = L.length := rfl
    rw [hdl]
    cases d with
    | zero =>
      rw [br_dec (by omega)]
      exact ⟨g, rfl, hg, subM.refl g, fun h => by omega⟩
    | succ d =>
      rw [br_ndec (by omega), lkM_some]
      by_cases c : hasM g i u
      · have e := hg.get c
        rw [show L.length - i = d + 1 by omega] at e
        unfold hasM at c
        rw [c, br_true]
        unfold lkM at e
        rw [e]
        exact ⟨g, rfl, hg, subM.refl g, fun _ => c⟩
      · rw [Bool.eq_false_iff.2 c, br_false, chk_eq (by omega)]
        have hself : ∀ (u : Nat) g, u < 64 → MOK (canT A B s) t F.length L.length g → ∃ g', restp_R N fu ((i : Int) + 1) u (dkT W s L F R A B) (dkT W s L F R A B) (dkT W s L F R A B) (dkT W s L F R A B) g = some ((rsR (canT A B s) t F.length d (i + 1) u).1, (rsR (canT A B s) t F.length d (i + 1) u).2.1, (rsR (canT A B s) t F.length d (i + 1) u).2.2, dkT W s L F R A B, dkT W s L F R A B, g') ∧ MOK (canT A B s) t F.length L.length g' ∧ subM g g' ∧ (i + 1 < L.length → hasM g' (i + 1) u) := fun u g hu hg => by
          have := restp_R_p hF hL ht htv fu d (i + 1) u g (by omega) (by omega) hu hg
          rwa [nat_succ] at this
        obtain ⟨g1, e1, e2, e3, e4⟩ := hself u g hu hg
        rw [e1]
        simp only [Option.bind_some]
        have em : may_S N (dkT W s L F R A B) (i : Int) = some (dkT W s L F R A B, dkT W s L F R A B, (i : Int)) := rfl
        rw [em]
        simp only [Option.bind_some]
        rw [mayR_T hF (by omega)]
        simp only [Option.bind_some]
        obtain ⟨⟨r1, r2⟩, r3, r4⟩ := rs_bound (can := canT A B s) (t := t) hF ht (by omega) d (i + 1) u
        have h7 : (7 : Nat) ^ d ≤ 7 ^ 5 := Nat.pow_le_pow_right (by omega) (by omega)
        have h7' : (mayL (canT A B s) F.length i).length * 7 ^ d ≤ 6 * 7 ^ 5 := Nat.mul_le_mul (by have := mayL_len (canT A B s) F.length i; omega) h7
        obtain ⟨g2, f1, f2, f3, f4⟩ := restp_l1_p hF hL ht htv (i := i) (d := d) (u := u) (by omega) hu hself (x4 := (i : Int)) rfl (mayL (canT A B s) F.length i) g1 (-1, (rsR (canT A B s) t F.length d (i + 1) u).2.1, (rsR (canT A B s) t F.length d (i + 1) u).2.2) (7 ^ d)
          (fun k hk => (mem_mayL.1 hk).1) e2 ⟨r1, by dsimp only; omega⟩ r3 r4 (by omega)
        unfold mayE
        rw [f1]
        simp only [Option.bind_some]
        have er : rsR (canT A B s) t F.length (d + 1) i u = (mayL (canT A B s) F.length i).foldl (rsS t (rsR (canT A B s) t F.length d (i + 1)) i u) (-1, (rsR (canT A B s) t F.length d (i + 1) u).2.1, (rsR (canT A B s) t F.length d (i + 1) u).2.2) := rfl
        rw [← er]
        obtain ⟨k1, k2, k3⟩ := f2.cons (i := i) (u := u) (fun hi => ⟨f3 _ _ (e4 hi), fun k hk hb => f4 k hk hb hi⟩)
        rw [show L.length - i = d + 1 by omega] at k1 k2 k3
        exact ⟨_, rfl, k1, e3.trans (f3.trans k2), fun _ => k3⟩
theorem restsp_v {t : Nat → Nat → Int} (hN : 110 ≤ N) (hF : F.length ≤ 6) (hL : L.length ≤ 6) (ht : ∀ i k, 0 ≤ t i k ∧ t i k ≤ 30000) (htv : ∀ i k : Nat, i < L.length → k < F.length → tastep_S N i k (dkT W s L F R A B) = some (t i k)) {u : Nat} (hu : u < 64) :
    ∃ g, restsp_S N (dkT W s L F R A B) (dkT W s L F R A B) u = some g ∧ (0 < L.length → MOK (canT A B s) t F.length L.length g ∧ hasM g 0 u) ∧ lkM g 0 u = some (rsR (canT A B s) t F.length L.length 0 u) := by
  obtain ⟨g, e1, e2, e3, e4⟩ := restp_R_p hF hL ht htv N L.length 0 u [] (by omega) (by omega) hu MOK.nil
  unfold restsp_S restsp_j1
  rw [show ((0 : Nat) : Int) = 0 from rfl] at e1
  rw [e1]
  simp only [Option.bind_some]
  refine ⟨_, rfl, fun h0 => ?_, by rw [lkM_cons, if_pos ⟨rfl, rfl⟩]⟩
  have hg : hasM g 0 u := e4 h0
  obtain ⟨k1, k2, k3⟩ := e2.cons (i := 0) (u := u) (fun hi => e2.clo 0 u hg hi)
  rw [Nat.sub_zero] at k1 k3
  exact ⟨k1, k3⟩
theorem dbestp_l1_p {t : Nat → Nat → Int} (hF : F.length ≤ 6) (hL : L.length ≤ 6) {g : MK} (hg : MOK (canT A B s) t F.length L.length g) : ∀ (n d i u : Nat) (out : List Int), d < n → i + d = L.length → u < 64 → out.length ≤ i → (i < L.length → hasM g i u) →
    dbestp_l1 N n u L.length i g out = some (out ++ blR (canT A B s) t F.length d i u)
  | 0, d, i, u, out, h, _, _, _, _ => by omega
  | n + 1, d, i, u, out, h, hid, hu, ho, hh => by
    unfold dbestp_l1
    cases d with
    | zero =>
      rw [br_ndec (by omega)]
      simp [blR]
    | succ d =>
      have e := hg.get (hh (by omega))
      rw [show L.length - i = d + 1 by omega] at e
      have e' : ((g.find? fun (y : (Int × Int) × (Int × (Int × Int))) => Ty.beq (.pair (.int .i64) (.int .i64)) y.1 ((i : Int), (u : Int))).map (·.2)).getD (Ty.dflt (.pair (.int .i64) (.pair (.int .i64) (.int .i64)))) = rsR (canT A B s) t F.length (d + 1) i u := by
        unfold lkM at e
        rw [e]; rfl
      rw [br_dec (by omega), e', lim_eq (by simp; omega)]
      have hj : ∀ (u' : Nat) x, u' < 64 → (i + 1 < L.length → hasM g (i + 1) u') → dbestp_j1 N (dbestp_l1 N n) u' L.length i g (out ++ [x]) = some (out ++ [x] ++ blR (canT A B s) t F.length d (i + 1) u') := fun u' x hu' hh' => by
        have := dbestp_l1_p hF hL hg n d (i + 1) u' (out ++ [x]) (by omega) (by omega) hu' (by simp; omega) hh'
        rw [nat_succ] at this
        unfold dbestp_j1
        rw [chk_eq (by omega), this]
      rw [blR]
      rcases rs_fnd (can := canT A B s) (t := t) (m := F.length) (d := d) (i := i) (u := u) with ⟨h1, _⟩ | ⟨k, h1, h2, h3, _⟩
      · rw [h1, br_nd (by first | trivial | rfl), if_pos rfl, hj u _ hu (fun hi => (hg.clo i u (hh (by omega)) hi).1)]
        simp
      · obtain ⟨k1, k2⟩ := mem_mayL.1 h2
        obtain ⟨q, hq, p1, p2⟩ := pow_small (k := k) (by omega)
        rw [h1, br_nnd (show ¬ ((k : Int) = -1) by omega)]
        rw [grd_eq (by rw [decide_eq_true_eq]; exact (show (0 : Int) ≤ (k : Int) ∧ (k : Int) ≤ 62 by omega)), p1, chk_eq (by omega), grd_eq (by rw [decide_eq_true_eq]; omega), if_neg (show ¬ ((k : Int) = -1) by omega)]
        simp only [Int.toNat_natCast]
        subst hq
        rw [hj _ _ (or_small hu (by omega)) (fun hi => (hg.clo i u (hh (by omega)) hi).2 k h2 h3)]
        simp
theorem dbestp_v {t : Nat → Nat → Int} (hN : 110 ≤ N) (hF : F.length ≤ 6) (hL : L.length ≤ 6) (ht : ∀ i k, 0 ≤ t i k ∧ t i k ≤ 30000) (htv : ∀ i k : Nat, i < L.length → k < F.length → tastep_S N i k (dkT W s L F R A B) = some (t i k)) :
    dbestp_S N (dkT W s L F R A B) (dkT W s L F R A B) = some (blR (canT A B s) t F.length L.length 0 0) := by
  obtain ⟨g, e1, e2, e3⟩ := restsp_v hN hF hL ht htv (u := 0) (by omega)
  unfold dbestp_S
  rw [show ((0 : Nat) : Int) = 0 from rfl] at e1
  rw [e1]
  simp only [Option.bind_some]
  have hdl : (dkT W s L F R A B).2.2.1.length = L.length := rfl
  rw [hdl]
  by_cases h0 : 0 < L.length
  · obtain ⟨hg, hh⟩ := e2 h0
    have := dbestp_l1_p (N := N) hF hL hg N L.length 0 0 [] (by omega) (by omega) (by omega) (by simp) (fun _ => hh)
    rw [show ((0 : Nat) : Int) = 0 from rfl, List.nil_append] at this
    rw [this]; rfl
  · have hz : L.length = 0 := by omega
    obtain ⟨M, rfl⟩ : ∃ M, N = M + 1 := ⟨N - 1, by omega⟩
    rw [dbestp_l1, hz, br_ndec (by omega)]
    simp [blR]

theorem first_v (hN : 110 ≤ N) (hF : F.length ≤ 6) (hL : L.length ≤ 6) (hA : ∀ i k, 0 ≤ A i k ∧ A i k ≤ 50) {u : Nat} (hu : u < 64) : first_S N (dkT W s L F R A B) u = some (rsR (canT A B s) A F.length L.length 0 u) := by
  obtain ⟨g, e1, _, e3⟩ := restsp_v (N := N) (W := W) (s := s) (R := R) (B := B) (A := A) (t := A) hN hF hL (fun i k => by have := hA i k; omega) (fun i k hi hk => tastep_v (by omega) (by omega)) hu
  unfold first_S
  rw [show plain_S N (dkT W s L F R A B) = some (dkT W s L F R A B) from rfl]
  simp only [Option.bind_some]
  rw [e1]
  simp only [Option.bind_some]
  unfold lkM at e3
  rw [e3]; rfl
end
end Go.Proofs.Ythncjilcflilcaa

namespace Go.Proofs.Ythncjilcflilcaa
set_option linter.all false
open Go

/-- All lists of numbers from -1 up to below m. -/
def rowX (m : Nat) (r : List Int) : List (List Int) := (List.range (m + 1)).map fun (k : Nat) => r ++ [(k : Int) - 1]
def listsR (m : Nat) : Nat → List (List Int)
  | 0 => [[]]
  | n + 1 => (listsR m n).flatMap (rowX m)
theorem mem_listsR {m : Nat} : ∀ {n : Nat} {l : List Int}, l ∈ listsR m n ↔ l.length = n ∧ ∀ x ∈ l, -1 ≤ x ∧ x ≤ (m : Int) - 1
  | 0, l => by
    simp only [listsR, List.mem_singleton]
    constructor
    · rintro rfl; exact ⟨rfl, fun x hx => by cases hx⟩
    · rintro ⟨h, _⟩; exact List.eq_nil_of_length_eq_zero h
  | n + 1, l => by
    simp only [listsR, rowX, List.mem_flatMap, List.mem_map, List.mem_range]
    constructor
    · rintro ⟨r, hr, k, hk, rfl⟩
      obtain ⟨h1, h2⟩ := mem_listsR.1 hr
      refine ⟨by simp [h1], fun x hx => ?_⟩
      rcases List.mem_append.1 hx with hx | hx
      · exact h2 x hx
      · simp only [List.mem_singleton] at hx; omega
    · rintro ⟨h1, h2⟩
      have hne : l ≠ [] := fun e => by subst e; simp at h1
      have hlast := h2 _ (List.getLast_mem hne)
      refine ⟨l.dropLast, mem_listsR.2 ⟨by simp [h1], fun x hx => h2 x ((List.dropLast_sublist l).subset hx)⟩, (l.getLast hne + 1).toNat, by omega, ?_⟩
      rw [show (((l.getLast hne + 1).toNat : Nat) : Int) - 1 = l.getLast hne by omega]
      exact List.dropLast_concat_getLast hne
theorem nodup_listsR (m : Nat) : ∀ n : Nat, (listsR m n).Nodup
  | 0 => by simp [listsR]
  | n + 1 => by
    unfold listsR
    have key : ∀ l : List (List Int), l.Nodup → (l.flatMap (rowX m)).Nodup := by
      intro l hl
      induction l with
      | nil => simp
      | cons a l ih =>
        rw [List.nodup_cons] at hl
        rw [List.flatMap_cons, List.nodup_append]
        refine ⟨?_, ih hl.2, ?_⟩
        · unfold rowX List.Nodup
          rw [List.pairwise_map]
          refine List.Pairwise.imp ?_ List.nodup_range
          intro x y hxy e
          have := List.append_cancel_left e
          simp only [List.cons.injEq, and_true] at this
          omega
        · intro x hx y hy e
          subst e
          simp only [rowX, List.mem_map, List.mem_flatMap] at hx hy
          obtain ⟨k, _, rfl⟩ := hx
          obtain ⟨b, hb, j, _, e⟩ := hy
          have := (List.append_inj' e rfl).1
          subst this
          exact hl.1 hb
    exact key _ (nodup_listsR m n)
section
variable {N : Nat}
end
/-! ### Joins without an error -/
theorem getD_01 {l : List Int} {i : Nat} (h : i < l.length) : l.getD i 0 = fnJ l i := by simp [fnJ, List.getD, h]
theorem errJ_mt {n m : Nat} {can : Nat → Nat → Bool} {l : List Int} : errJ 0 n m can l = 0 ↔ l ∈ joinsL can m n 0 0 := by
  rw [mem_joinsL, okJ_mt]
  constructor
  · intro h
    obtain ⟨_, h1, h2, h3, h4⟩ := errJ_fine h
    rw [alI_iff] at h3 h4
    refine ⟨h1, ⟨fun i hi => ?_, fun i j hi hj hij he => ?_⟩, fun k hk => by simp at hk⟩
    · have hx := List.all_eq_true.1 h2 _ (getD_mem (d := 0) hi)
      unfold inm at hx
      rw [decide_eq_true_eq, getD_01 hi] at hx
      have hc := h4 i hi
      unfold cnI at hc
      rw [Bool.or_eq_true, decide_eq_true_eq, getD_01 hi] at hc
      rcases hc with hc | hc
      · exact .inl hc
      · by_cases e : fnJ l i = -1
        · exact .inl e
        · exact .inr ⟨(fnJ l i).toNat, by omega, by omega, hc⟩
    · have key : ∀ i j, i < j → j < l.length → fnJ l i = fnJ l j → fnJ l j = -1 := fun i j hij hj he => by
        have hd := h3 j hj
        unfold dupI at hd
        rw [Bool.or_eq_true, decide_eq_true_eq, getD_01 hj, Bool.not_eq_true', ← Bool.not_eq_true, hasB_iff] at hd
        rcases hd with hd | hd
        · exact hd
        · refine absurd ?_ hd
          rw [← he, ← getD_01 (show i < l.length by omega)]
          exact List.mem_iff_getElem.2 ⟨i, by simp; omega, by simp [List.getD, show i < l.length by omega]⟩
      rcases Nat.lt_or_gt_of_ne hij with h | h
      · rw [he]; exact key i j h hj he
      · exact key j i h hi he.symm
  · rintro ⟨hl, h1, _⟩
    have hb : l.all (inm m) = true := by
      rw [List.all_eq_true]
      intro x hx
      obtain ⟨i, hi, rfl⟩ := List.getElem_of_mem hx
      have e : l[i] = fnJ l i := by simp [fnJ, List.getD, hi]
      unfold inm
      rw [decide_eq_true_eq, e]
      rcases h1.ok i hi with h | ⟨k, h, hk, _⟩ <;> omega
    have hd : alI (dupI l) l.length = true := by
      rw [alI_iff]
      intro j hj
      unfold dupI
      rw [Bool.or_eq_true, decide_eq_true_eq, getD_01 hj, Bool.not_eq_true', ← Bool.not_eq_true, hasB_iff]
      by_cases e : fnJ l j = -1
      · exact .inl e
      · refine .inr fun hm => ?_
        obtain ⟨i, hi, he⟩ := List.getElem_of_mem hm
        simp only [List.length_take] at hi
        have hij : i < j := by omega
        refine e (h1.inj j i hj (by omega) (by omega) ?_)
        rw [← he, ← getD_01 (show i < l.length by omega)]
        simp [List.getD, show i < l.length by omega]
    have hc : alI (cnI can l) l.length = true := by
      rw [alI_iff]
      intro i hi
      unfold cnI
      rw [Bool.or_eq_true, decide_eq_true_eq, getD_01 hi]
      rcases h1.ok i hi with h | ⟨k, h, _, hc⟩
      · exact .inl h
      · right; rw [h, Int.toNat_natCast]; exact hc
    unfold errJ
    rw [if_neg (by simp), if_neg (by omega), hb, hd, hc]
    simp
section
variable {W : List Int} {s : Int} {L F : List (List Int)} {R : List Int} {A B : Nat → Nat → Int} {N : Nat}
/-- All joins. -/
def allR (W : List Int) (s : Int) (L F : List (List Int)) : List (List Int) := (listsR F.length L.length).filter fun l => decide (errJ 0 L.length F.length (canF W s L F) l = 0)
theorem mem_allR {l : List Int} : l ∈ allR W s L F ↔ l ∈ joinsL (canF W s L F) F.length L.length 0 0 := by
  unfold allR
  rw [List.mem_filter, decide_eq_true_eq]
  constructor
  · exact fun h => errJ_mt.1 h.2
  · intro h
    have he := errJ_mt.2 h
    refine ⟨mem_listsR.2 ?_, he⟩
    obtain ⟨_, h1, h2, _⟩ := errJ_fine he
    refine ⟨h1, fun x hx => ?_⟩
    have := List.all_eq_true.1 h2 x hx
    unfold inm at this
    rwa [decide_eq_true_eq] at this
theorem nodup_allR : (allR W s L F).Nodup := List.Pairwise.filter _ (nodup_listsR _ _)
theorem joins_facts {l : List Int} (h : l ∈ joinsL (canF W s L F) F.length L.length 0 0) : l.length = L.length ∧ l.all (inm F.length) = true := by
  obtain ⟨_, h1, h2, _⟩ := errJ_fine (errJ_mt.2 h)
  exact ⟨h1, h2⟩
/-- The greatest worth, and in how many ways. -/
def bestV (W : List Int) (s : Int) (L F : List (List Int)) : Int := (rsR (canF W s L F) (agF W L F) F.length L.length 0 0).2.1
def bestN (W : List Int) (s : Int) (L F : List (List Int)) : Int := (rsR (canF W s L F) (agF W L F) F.length L.length 0 0).2.2
/-- All best joins. -/
def bestR (W : List Int) (s : Int) (L F : List (List Int)) : List (List Int) := (allR W s L F).filter fun l => decide (valJ (agF W L F) 0 l = bestV W s L F)
theorem best_le {l : List Int} (h : l ∈ joinsL (canF W s L F) F.length L.length 0 0) : valJ (agF W L F) 0 l ≤ bestV W s L F := (rs_bst (can := canF W s L F) (t := agF W L F) (m := F.length) L.length 0 0).le l h
theorem bl_mem {t : Nat → Nat → Int} : blR (canF W s L F) t F.length L.length 0 0 ∈ joinsL (canF W s L F) F.length L.length 0 0 := by
  obtain ⟨q1, q2, _⟩ := bl_best (can := canF W s L F) (t := t) (m := F.length) L.length 0 0
  exact mem_joinsL.2 ⟨q2, q1⟩
theorem bl_val : valJ (agF W L F) 0 (blR (canF W s L F) (agF W L F) F.length L.length 0 0) = bestV W s L F := (bl_best (can := canF W s L F) (t := agF W L F) (m := F.length) L.length 0 0).2.2
theorem bestV_bound (h : Fine W s L F R) : 0 ≤ bestV W s L F ∧ bestV W s L F ≤ 300 := by
  have := (rs_bound (can := canF W s L F) (t := agF W L F) h.f6 (agF_bound h) (by omega) L.length 0 0).1
  have := h.l6
  unfold bestV; omega
theorem bestR_len : ((bestR W s L F).length : Int) = bestN W s L F := by
  have h := (rs_bst (can := canF W s L F) (t := agF W L F) (m := F.length) L.length 0 0).ways
  unfold bestN
  rw [← h]
  unfold bestR
  rw [← List.countP_eq_length_filter]
  congr 1
  exact countP_same nodup_allR (nodup_joinsL _ _ _) (fun x => mem_allR) (fun x _ => rfl)
theorem mem_bestR {l : List Int} : l ∈ bestR W s L F ↔ l ∈ joinsL (canF W s L F) F.length L.length 0 0 ∧ valJ (agF W L F) 0 l = bestV W s L F := by
  unfold bestR
  rw [List.mem_filter, mem_allR, decide_eq_true_eq]
end
end Go.Proofs.Ythncjilcflilcaa

namespace Go.Proofs.Ythncjilcflilcaa
set_option linter.all false
open Go

section
variable {W : List Int} {s : Int} {L F : List (List Int)} {R : List Int} {A B : Nat → Nat → Int} {N : Nat}
/-- Best joins. -/
abbrev bestL (W : List Int) (s : Int) (L F : List (List Int)) : List Int := blR (canF W s L F) (agF W L F) F.length L.length 0 0
theorem best_v (hN : 110 ≤ N) (h : Sm W L F R) : best_S N W s L F R = some (if errD W s L F R = 0 then (bestL W s L F, bestV W s L F, 0) else ([], 0, errD W s L F R)) := by
  unfold best_S
  rw [opened_v hN h]
  by_cases c : errD W s L F R = 0
  rotate_left
  · rw [if_neg c, if_neg c]
    simp only [Option.bind_some]
    rw [br_nnd c]
  have hF := errD_iff.1 c
  rw [if_pos c, if_pos c]
  simp only [Option.bind_some]
  rw [br_nd (by first | trivial | rfl)]
  unfold dkO
  rw [show plain_S N (dkT W s L F R (agF W L F) (slF W L F)) = some (dkT W s L F R (agF W L F) (slF W L F)) from rfl]
  simp only [Option.bind_some]
  have hl6 := hF.l6; have hf6 := hF.f6
  rw [dbestp_v hN hf6 hl6 (t := agF W L F) (fun i k => by have := agF_bound hF i k; omega) (fun i k hi hk => tastep_v (by omega) (by omega))]
  simp only [Option.bind_some]
  obtain ⟨j1, j2⟩ := joins_facts (W := W) (s := s) (L := L) (F := F) (bl_mem (t := agF W L F))
  rw [dworth_v hN (agF_bound hF) (by omega) hf6 j2, bl_val]; rfl
theorem count_v (hN : 110 ≤ N) (h : Sm W L F R) : count_S N W s L F R = some (if errD W s L F R = 0 then (bestN W s L F, 0) else (0, errD W s L F R)) := by
  unfold count_S
  rw [opened_v hN h]
  by_cases c : errD W s L F R = 0
  rotate_left
  · rw [if_neg c, if_neg c]
    simp only [Option.bind_some]
    rw [br_nnd c]
  have hF := errD_iff.1 c
  rw [if_pos c, if_pos c]
  simp only [Option.bind_some]
  rw [br_nd (by first | trivial | rfl)]
  unfold dkO
  have := first_v (N := N) (W := W) (s := s) (R := R) (B := slF W L F) hN hF.f6 hF.l6 (agF_bound hF) (u := 0) (by omega)
  rw [show ((0 : Nat) : Int) = 0 from rfl] at this
  rw [this]; rfl
/-! ### Rewards -/
/-! ### Prices -/
theorem map_succ (f : Nat → Int) (k : Nat) : (List.range (k + 1)).map f = (List.range k).map f ++ [f k] := by rw [List.range_succ, List.map_append]; rfl
theorem mapR_sum (f : Nat → Int) : ∀ n : Nat, ((List.range n).map f).sum = sumN f n
  | 0 => rfl
  | n + 1 => by rw [map_succ, List.sum_append, mapR_sum f n, sumN]; simp
end
end Go.Proofs.Ythncjilcflilcaa

namespace Go.Proofs.Ythncjilcflilcaa
set_option linter.all false
open Go

section
variable {N : Nat}
end
section
variable {W : List Int} {s : Int} {L F : List (List Int)} {R : List Int} {A B : Nat → Nat → Int} {N : Nat}
end
end Go.Proofs.Ythncjilcflilcaa

namespace Go.Proofs.Ythncjilcflilcaa
set_option linter.all false
open Go

section
variable {W : List Int} {s : Int} {L F : List (List Int)} {R : List Int} {A B : Nat → Nat → Int} {N : Nat}
theorem joins_all {can : Nat → Nat → Bool} {m n : Nat} {l : List Int} (h : l ∈ joinsL can m n 0 0) : l.length = n ∧ l.all (inm m) = true := by
  obtain ⟨_, h1, h2, _⟩ := errJ_fine (errJ_mt.2 h)
  exact ⟨h1, h2⟩
/-! ### The reference -/
end
end Go.Proofs.Ythncjilcflilcaa

namespace Go.Proofs.Ythncjilcflilcaa
set_option linter.all false
open Go

section
variable {W : List Int} {s : Int} {L F : List (List Int)} {R : List Int} {A B : Nat → Nat → Int} {N : Nat}
/-- The tables without a pair. -/
def cutA (A : Nat → Nat → Int) (a b : Nat) (i k : Nat) : Int := if i = a ∧ k = b then 0 else A i k
theorem cut_tab {a b : Nat} (ha : a < 6) (hb : b < 6) : (tabA (fun x => A (x / 6) (x % 6))).set (a * 6 + b) 0 = tabA (fun x => cutA A a b (x / 6) (x % 6)) := by
  rw [tabA_set]
  refine tabA_congr fun x hx => ?_
  unfold upd cutA
  by_cases e : x = a * 6 + b
  · rw [if_pos e, if_pos (by omega)]
  · rw [if_neg e, if_neg (by omega)]
theorem cut_can {a b i k : Nat} : canT (cutA A a b) B s i k = (canT A B s i k && !decide (i = a ∧ k = b)) := by
  unfold canT cutA
  by_cases e : i = a ∧ k = b
  · rw [if_pos e, decide_eq_true e]; simp
  · rw [if_neg e, decide_eq_false e]; simp
theorem cut_mem {m n a b : Nat} (ha : a < n) {l : List Int} : l ∈ joinsL (canT (cutA A a b) B s) m n 0 0 ↔ l ∈ joinsL (canT A B s) m n 0 0 ∧ fnJ l a ≠ b := by
  rw [mem_joins, mem_joins]
  constructor
  · rintro ⟨h1, h2, h3⟩
    refine ⟨⟨h1, ⟨fun i hi => ?_, h2.inj⟩, h3⟩, fun e => ?_⟩
    · rcases h2.ok i hi with h | ⟨k, x, y, z⟩
      · exact .inl h
      · rw [cut_can, Bool.and_eq_true] at z
        exact .inr ⟨k, x, y, z.1⟩
    · rcases h2.ok a ha with h | ⟨k, x, y, z⟩
      · omega
      · rw [cut_can, Bool.and_eq_true, Bool.not_eq_true', decide_eq_false_iff_not] at z
        exact z.2 ⟨rfl, by omega⟩
  · rintro ⟨⟨h1, h2, h3⟩, hne⟩
    refine ⟨h1, ⟨fun i hi => ?_, h2.inj⟩, h3⟩
    rcases h2.ok i hi with h | ⟨k, x, y, z⟩
    · exact .inl h
    · refine .inr ⟨k, x, y, ?_⟩
      rw [cut_can, z, Bool.true_and, Bool.not_eq_true', decide_eq_false_iff_not]
      rintro ⟨rfl, rfl⟩
      exact hne x
theorem cut_val {n a b : Nat} {l : List Int} (hl : l.length = n) (hne : fnJ l a ≠ b) (hb : ∀ i, i < n → -1 ≤ fnJ l i) : valJ (cutA A a b) 0 l = valJ A 0 l := by
  rw [val_joins hl, val_joins hl]
  refine sumN_congr fun i hi => ?_
  have h1 := hb i hi
  unfold pv
  split
  · rfl
  · unfold cutA
    rw [if_neg]
    rintro ⟨rfl, h⟩
    exact hne (by omega)
theorem cut_bound (hA : ∀ i k, 0 ≤ A i k ∧ A i k ≤ 50) (a b i k : Nat) : 0 ≤ cutA A a b i k ∧ cutA A a b i k ≤ 50 := by
  unfold cutA
  split
  · omega
  · exact hA i k
/-- The fate of two things, by all best joins. -/
def fateR (W : List Int) (s : Int) (L F : List (List Int)) (a b : Nat) : Int :=
  if (bestR W s L F).countP (fun l => decide (fnJ l a = b)) = (bestR W s L F).length then 1 else if (bestR W s L F).countP (fun l => decide (fnJ l a = b)) = 0 then 2 else 0
theorem bestR_pos : 0 < (bestR W s L F).length := List.length_pos_of_mem (mem_bestR.2 ⟨bl_mem, bl_val⟩)
theorem joins_bd {can : Nat → Nat → Bool} {m n : Nat} {l : List Int} (h : l ∈ joinsL can m n 0 0) : ∀ i, i < n → -1 ≤ fnJ l i := fun i hi => by
  obtain ⟨_, h2, _⟩ := mem_joins.1 h
  rcases h2.ok i hi with h | ⟨k, h, _⟩ <;> omega
/-- Joins without a pair: their greatest worth, and how many they are. -/
theorem cut_facts {a b : Nat} (ha : a < L.length) :
    ((rsR (canT (cutA (agF W L F) a b) (slF W L F) s) (cutA (agF W L F) a b) F.length L.length 0 0).2.1 < bestV W s L F ∧ (bestR W s L F).countP (fun l => decide (fnJ l a = b)) = (bestR W s L F).length) ∨
    ((rsR (canT (cutA (agF W L F) a b) (slF W L F) s) (cutA (agF W L F) a b) F.length L.length 0 0).2.1 = bestV W s L F ∧ (rsR (canT (cutA (agF W L F) a b) (slF W L F) s) (cutA (agF W L F) a b) F.length L.length 0 0).2.2 = (bestR W s L F).length - (bestR W s L F).countP (fun l => decide (fnJ l a = b)) ∧ (bestR W s L F).countP (fun l => decide (fnJ l a = b)) < (bestR W s L F).length) := by
  have hb := rs_bst (can := canT (cutA (agF W L F) a b) (slF W L F) s) (t := cutA (agF W L F) a b) (m := F.length) L.length 0 0
  obtain ⟨q1, q2, q3⟩ := bl_best (can := canT (cutA (agF W L F) a b) (slF W L F) s) (t := cutA (agF W L F) a b) (m := F.length) L.length 0 0
  have hm := mem_joinsL.2 ⟨q2, q1⟩
  obtain ⟨m1, m2⟩ := (cut_mem ha).1 hm
  have hv : valJ (agF W L F) 0 (blR (canT (cutA (agF W L F) a b) (slF W L F) s) (cutA (agF W L F) a b) F.length L.length 0 0) = (rsR (canT (cutA (agF W L F) a b) (slF W L F) s) (cutA (agF W L F) a b) F.length L.length 0 0).2.1 := by
    rw [← q3, cut_val q2 m2 (joins_bd m1)]
  have hle := best_le m1
  rw [hv] at hle
  -- best joins without the pair
  have hsplit : (bestR W s L F).length = (bestR W s L F).countP (fun l => decide (fnJ l a = b)) + (bestR W s L F).countP (fun l => !decide (fnJ l a = b)) := by
    have := List.length_eq_countP_add_countP (fun l => decide (fnJ l a = b)) (l := bestR W s L F)
    rw [this]
    congr 1
    refine List.countP_congr fun l _ => ?_
    by_cases e : fnJ l a = b <;> simp [e]
  have hwo : ∀ l ∈ bestR W s L F, fnJ l a ≠ b → bestV W s L F ≤ (rsR (canT (cutA (agF W L F) a b) (slF W L F) s) (cutA (agF W L F) a b) F.length L.length 0 0).2.1 := fun l hl hne => by
    obtain ⟨l1, l2⟩ := mem_bestR.1 hl
    have := hb.le l ((cut_mem ha).2 ⟨l1, hne⟩)
    rw [cut_val (joins_all l1).1 hne (joins_bd l1), l2] at this
    exact this
  by_cases c : (rsR (canT (cutA (agF W L F) a b) (slF W L F) s) (cutA (agF W L F) a b) F.length L.length 0 0).2.1 < bestV W s L F
  · refine .inl ⟨c, ?_⟩
    rw [List.countP_eq_length]
    intro l hl
    rw [decide_eq_true_eq]
    by_cases e : fnJ l a = b
    · exact e
    · have := hwo l hl e; omega
  · have hV : (rsR (canT (cutA (agF W L F) a b) (slF W L F) s) (cutA (agF W L F) a b) F.length L.length 0 0).2.1 = bestV W s L F := by omega
    have hways := hb.ways
    have hc : (joinsL (canT (cutA (agF W L F) a b) (slF W L F) s) F.length L.length 0 0).countP (fun l => decide (valJ (cutA (agF W L F) a b) 0 l = (rsR (canT (cutA (agF W L F) a b) (slF W L F) s) (cutA (agF W L F) a b) F.length L.length 0 0).2.1)) = (bestR W s L F).countP (fun l => !decide (fnJ l a = b)) := by
      rw [hV]
      unfold bestR
      rw [List.countP_filter]
      rw [List.countP_eq_length_filter, List.countP_eq_length_filter]
      refine ((List.perm_ext_iff_of_nodup (List.Pairwise.filter _ (nodup_joinsL _ _ _)) (List.Pairwise.filter _ nodup_allR)).2 fun l => ?_).length_eq
      rw [List.mem_filter, List.mem_filter, mem_allR, cut_mem ha, decide_eq_true_eq, Bool.and_eq_true, Bool.not_eq_true', decide_eq_false_iff_not, decide_eq_true_eq]
      constructor
      · rintro ⟨⟨x1, x2⟩, x3⟩
        rw [cut_val (joins_all x1).1 x2 (joins_bd x1)] at x3
        exact ⟨x1, x2, x3⟩
      · rintro ⟨x1, x2, x3⟩
        exact ⟨⟨x1, x2⟩, by rw [cut_val (joins_all x1).1 x2 (joins_bd x1)]; exact x3⟩
    rw [hc] at hways
    refine .inr ⟨hV, by omega, ?_⟩
    have : 0 < (bestR W s L F).countP (fun l => !decide (fnJ l a = b)) := by
      rw [List.countP_pos_iff]
      exact ⟨_, mem_bestR.2 ⟨m1, by rw [hv, hV]⟩, by rw [Bool.not_eq_true', decide_eq_false_iff_not]; exact m2⟩
    omega
theorem fates_v (hN : 110 ≤ N) (h : Sm W L F R) (a b : Int) : fates_S N W s L F R a b = some (if errD W s L F R = 0 then if ¬ (0 ≤ a ∧ a ≤ (L.length : Int) - 1) then (0, 1) else if ¬ (0 ≤ b ∧ b ≤ (F.length : Int) - 1) then (0, 1) else (fateR W s L F a.toNat b.toNat, 0) else (0, errD W s L F R)) := by
  unfold fates_S
  rw [opened_v hN h]
  by_cases c : errD W s L F R = 0
  rotate_left
  · rw [if_neg c, if_neg c]
    simp only [Option.bind_some]
    rw [br_nnd c]
  have hF := errD_iff.1 c
  have hl6 := hF.l6; have hf6 := hF.f6
  rw [if_pos c, if_pos c]
  simp only [Option.bind_some]
  rw [br_nd (by first | trivial | rfl)]
  unfold dkO
  rw [dlost_v (by omega), dfound_v (by omega)]
  simp only [Option.bind_some]
  by_cases c1 : 0 ≤ a ∧ a ≤ (L.length : Int) - 1
  rotate_left
  · rw [br_nnd c1, if_pos c1]
  rw [br_nd c1, if_neg (not_not_intro c1)]
  by_cases c2 : 0 ≤ b ∧ b ≤ (F.length : Int) - 1
  rotate_left
  · rw [br_nnd c2, if_pos c2]
  rw [br_nd c2, if_neg (not_not_intro c2)]
  obtain ⟨i, rfl⟩ : ∃ i : Nat, a = i := ⟨a.toNat, (Int.toNat_of_nonneg c1.1).symm⟩
  obtain ⟨k, rfl⟩ : ∃ k : Nat, b = k := ⟨b.toNat, (Int.toNat_of_nonneg c2.1).symm⟩
  have e0 := first_v (N := N) (W := W) (s := s) (R := R) (B := slF W L F) hN hf6 hl6 (agF_bound hF) (u := 0) (by omega)
  have e1 := first_v (N := N) (W := W) (s := s) (R := R) (A := cutA (agF W L F) i k) (B := slF W L F) hN hf6 hl6 (cut_bound (agF_bound hF) i k) (u := 0) (by omega)
  rw [show ((0 : Nat) : Int) = 0 from rfl] at e0 e1
  rw [e0]
  simp only [Option.bind_some]
  rw [rng_eq (by omega), rng_eq (by omega)]
  simp only [Int.toNat_natCast]
  rw [get_T (by omega) (by omega)]
  have ed : (((dkT W s L F R (agF W L F) (slF W L F)).1, (dkT W s L F R (agF W L F) (slF W L F)).2.1, (dkT W s L F R (agF W L F) (slF W L F)).2.2.1, (dkT W s L F R (agF W L F) (slF W L F)).2.2.2.1, (dkT W s L F R (agF W L F) (slF W L F)).2.2.2.2.1, (dkT W s L F R (agF W L F) (slF W L F)).2.2.2.2.2.1.set (i * 6 + k) 0, (dkT W s L F R (agF W L F) (slF W L F)).2.2.2.2.2.2.1, ()) : Dk) = dkT W s L F R (cutA (agF W L F) i k) (slF W L F) := by
    unfold dkT
    dsimp only
    rw [cut_tab (by omega) (by omega)]
  rw [ed, e1]
  simp only [Option.bind_some]
  have ev : (rsR (canT (agF W L F) (slF W L F) s) (agF W L F) F.length L.length 0 0).2.1 = bestV W s L F := rfl
  have en : (rsR (canT (agF W L F) (slF W L F) s) (agF W L F) F.length L.length 0 0).2.2 = bestN W s L F := rfl
  rw [ev, en, ← bestR_len]
  have hpos := bestR_pos (W := W) (s := s) (L := L) (F := F)
  unfold fateR
  rcases cut_facts (W := W) (s := s) (L := L) (F := F) (a := i) (b := k) (by omega) with ⟨f1, f2⟩ | ⟨f1, f2, f3⟩
  · rw [br_dec f1, if_pos f2]
  · have hn : ¬ ((rsR (canT (cutA (agF W L F) i k) (slF W L F) s) (cutA (agF W L F) i k) F.length L.length 0 0).2.1 < bestV W s L F) := by omega
    rw [br_ndec hn, f2, if_neg (by omega)]
    by_cases d : (bestR W s L F).countP (fun l => decide (fnJ l i = (k : Int))) = 0
    · rw [if_pos d, d, br_dec (by omega)]
    · rw [if_neg d, br_ndec (by omega)]
/-! ### What is spare -/
/-- The desk without a found thing. -/
def rmF (F : List (List Int)) (k : Nat) : List (List Int) := F.take k ++ F.drop (k + 1)
theorem rmF_len {k : Nat} (hk : k < F.length) : (rmF F k).length = F.length - 1 := by
  unfold rmF
  rw [List.length_append, List.length_take, List.length_drop]; omega
theorem rmF_get {k : Nat} (hk : k < F.length) (y : Nat) : (rmF F k).getD y [] = F.getD (up k y) [] := by
  unfold rmF up
  by_cases h : y < k
  · rw [if_pos h]
    simp [List.getD, List.getElem?_append_left (show y < (F.take k).length by simp; omega), List.getElem?_take_of_lt h]
  · rw [if_neg h]
    simp only [List.getD]
    rw [List.getElem?_append_right (by simp; omega), List.getElem?_drop]
    congr 2
    simp; omega
theorem rmF_sub {k : Nat} : ∀ r ∈ rmF F k, r ∈ F := fun r hr => by
  unfold rmF at hr
  rcases List.mem_append.1 hr with h | h
  · exact List.mem_of_mem_take h
  · exact List.mem_of_mem_drop h
theorem Fine.rmF (h : Fine W s L F R) {k : Nat} (hk : k < F.length) : Fine W s L (Proofs.Ythncjilcflilcaa.rmF F k) R := by
  have := rmF_len hk
  have hf := h.f6
  exact ⟨h.w1, h.w5, h.l6, by omega, h.lw, fun x hx => h.fw x (rmF_sub x hx), h.rl, h.w, h.s, h.r, h.lv, fun r hr => h.fv r (rmF_sub r hr)⟩
theorem up_lt_iff {k y n : Nat} (hk : k < n) : y < n - 1 ↔ up k y < n := by unfold up; split <;> omega
theorem agF_rm {k : Nat} (hk : k < F.length) : agF W L (rmF F k) = fun i y => agF W L F i (up k y) := by
  funext i y
  unfold agF
  rw [rmF_len hk, rmF_get hk]
  by_cases c : i < L.length ∧ y < F.length - 1
  · rw [if_pos c, if_pos ⟨c.1, (up_lt_iff hk).1 c.2⟩]
  · rw [if_neg c, if_neg (fun h => c ⟨h.1, (up_lt_iff hk).2 h.2⟩)]
theorem slF_rm {k : Nat} (hk : k < F.length) : slF W L (rmF F k) = fun i y => slF W L F i (up k y) := by
  funext i y
  unfold slF
  rw [rmF_len hk, rmF_get hk]
  by_cases c : i < L.length ∧ y < F.length - 1
  · rw [if_pos c, if_pos ⟨c.1, (up_lt_iff hk).1 c.2⟩]
  · rw [if_neg c, if_neg (fun h => c ⟨h.1, (up_lt_iff hk).2 h.2⟩)]
theorem canF_rm {k : Nat} (hk : k < F.length) : canF W s L (rmF F k) = fun i y => canF W s L F i (up k y) := by
  funext i y
  unfold canF canT
  rw [agF_rm hk, slF_rm hk]
end
end Go.Proofs.Ythncjilcflilcaa

namespace Go.Proofs.Ythncjilcflilcaa
set_option linter.all false
open Go
/-! ### Bells -/
theorem wrap32 (x : Int) : 0 ≤ IntKind.u32.wrap x ∧ IntKind.u32.wrap x < 4294967296 := by
  have := wrap_inR .u32 x
  have h1 : IntKind.u32.min = 0 := by decide
  have h2 : IntKind.u32.max = 4294967295 := by decide
  unfold inR at this
  rw [h1, h2] at this
  omega
def Bell (b : List Int) (b2 : Int) : Prop := b.length ≤ 9223372036854775807 ∧ 0 ≤ b2 ∧ b2 ≤ b.length
abbrev BellR (b : List Int) (r : List Int × Int × Int) : Prop := r.1 = b ∧ Bell b r.2.1
theorem and_small (n : Nat) : 0 ≤ IntKind.i64.wrap ((n &&& 65535 : Nat) : Int) ∧ IntKind.i64.wrap ((n &&& 65535 : Nat) : Int) ≤ 65535 := by
  have : n &&& 65535 ≤ 65535 := Nat.and_le_right
  rw [wrap64 (by omega)]
  omega
theorem fdiv_nonneg {x : Int} (h : 0 ≤ x) : 0 ≤ Int.fdiv x (2 ^ 7) := by
  rw [Int.fdiv_eq_ediv_of_nonneg _ (by decide)]
  exact Int.ediv_nonneg h (by decide)
theorem ring_j1_ok (N : Nat) {b : List Int} {b2 b3 : Int} (hb : b.length ≤ 9223372036854775807) (h0 : 0 ≤ b2) (h1 : b2 < b.length ∨ b.length = 0 ∧ b2 = 0) : Ok (ring_j1 N b b2 b3) fun r => (0 ≤ r.1 ∧ r.1 ≤ 65535) ∧ BellR b r.2 := by
  unfold ring_j1
  refine Ok.brd (fun h => ?_) (fun h => ?_)
  · refine Ok.idx h0 (by omega) (fun a _ _ => Ok.chk (by omega) (Ok.grd ?_ (Ok.grd ?_ (Ok.some ?_))))
    · simp only [decide_eq_true_eq]; exact ⟨(wrap32 _).1, fdiv_nonneg (wrap32 _).1⟩
    · simp only [decide_eq_true_eq]; exact ⟨Int.natCast_nonneg _, by decide⟩
    · exact ⟨and_small _, rfl, hb, by dsimp only; omega, by dsimp only; omega⟩
  · refine Ok.grd ?_ (Ok.grd ?_ (Ok.some ?_))
    · simp only [decide_eq_true_eq]; exact ⟨(wrap32 _).1, fdiv_nonneg (wrap32 _).1⟩
    · simp only [decide_eq_true_eq]; exact ⟨Int.natCast_nonneg _, by decide⟩
    · exact ⟨and_small _, rfl, hb, by dsimp only; omega, by dsimp only; omega⟩
theorem ring_ok (N : Nat) {b : List Int} {b2 b3 : Int} (hb : Bell b b2) : Ok (ring_S N b b2 b3) fun r => (0 ≤ r.1 ∧ r.1 ≤ 65535) ∧ BellR b r.2 := by
  obtain ⟨h1, h2, h3⟩ := hb
  unfold ring_S
  refine Ok.brd (fun h => ring_j1_ok N h1 (by omega) (by omega)) (fun h => ring_j1_ok N h1 h2 (by omega))
theorem stroke_ok (N : Nat) {n : Int} {b : List Int} {b2 b3 : Int} (hb : Bell b b2) (hn : -1000000 ≤ n ∧ n ≤ 1000000) : Ok (stroke_S N n b b2 b3) fun r => (0 ≤ r.1 ∧ r.1 ≤ max 0 n) ∧ BellR b r.2 := by
  unfold stroke_S
  refine Ok.bind (ring_ok N hb) (fun r hr => ?_)
  obtain ⟨x, c, c2, c3⟩ := r
  refine Ok.chk (by omega) (Ok.grd (by simp only [Bool.not_eq_true', decide_eq_false_iff_not]; omega) (Ok.some ⟨?_, hr.2⟩))
  obtain ⟨⟨h1, h2⟩, _⟩ := hr
  dsimp only at *
  have hm : 0 < max 1 (n + 1) := by omega
  have := Int.tmod_lt_of_pos x hm
  have := Int.tmod_nonneg (max 1 (n + 1)) h1
  omega
theorem strike_ok (N : Nat) {lo hi : Int} {b : List Int} {b2 b3 : Int} (hb : Bell b b2) (hn : (-1000 ≤ lo ∧ lo ≤ 1000) ∧ -1000 ≤ hi ∧ hi ≤ 1000) : Ok (strike_S N lo hi b b2 b3) fun r => (lo ≤ r.1 ∧ r.1 ≤ max lo hi) ∧ BellR b r.2 := by
  unfold strike_S
  refine Ok.chk (by omega) (Ok.bind (stroke_ok N hb (by omega)) (fun r hr => ?_))
  obtain ⟨x, c, c2, c3⟩ := r
  obtain ⟨h, h2⟩ := hr
  dsimp only at *
  refine Ok.chk (by omega) (Ok.some ⟨by dsimp only; omega, h2⟩)
theorem seldom_ok (N : Nat) {n : Int} {b : List Int} {b2 b3 : Int} (hb : Bell b b2) (hn : -1000 ≤ n ∧ n ≤ 1000) : Ok (seldom_S N n b b2 b3) fun r => BellR b r.2 := by
  unfold seldom_S
  refine Ok.chk (by omega) (Ok.bind (stroke_ok N hb (by omega)) (fun r hr => ?_))
  obtain ⟨x, c, c2, c3⟩ := r
  exact Ok.some hr.2

def BelR (b b' : List Int) (b2 : Int) : Prop := b' = b ∧ Bell b b2
/-! ### Desks -/
section
variable {N : Nat} {b : List Int}
theorem made1_ok {often b2 b3 : Int} (ho : -1000 ≤ often ∧ often ≤ 1000) (hb : Bell b b2) : Ok (made1_S N often b b2 b3) fun r => (-1 ≤ r.1 ∧ r.1 ≤ 5) ∧ BelR b r.2.1 r.2.2.1 := by
  unfold made1_S
  refine Ok.bind (seldom_ok N hb ho) ?_
  rintro ⟨x, c1, c2, c3⟩ ⟨hc, hb1⟩
  dsimp only at hc hb1 ⊢
  obtain rfl := hc.symm
  refine Ok.br (fun _ => Ok.some ⟨by dsimp only; omega, rfl, hb1⟩) (fun _ => ?_)
  refine Ok.bind (stroke_ok N hb1 (by omega)) ?_
  rintro ⟨y, d1, d2, d3⟩ ⟨hy, hc, hb2⟩
  dsimp only at hy hc hb2 ⊢
  obtain rfl := hc.symm
  exact Ok.some ⟨by dsimp only; omega, rfl, hb2⟩
theorem made_l1_p {things u g d : Int} (hu : 0 ≤ u ∧ u ≤ 100) : ∀ (n k : Nat) (b2 b3 : Int) (W : List Int), u < n + k → (k : Int) ≤ u → Bell b b2 → W.length = k → (∀ x ∈ W, 1 ≤ x ∧ x ≤ 9) →
    Ok (made_l1 N n things u k b b2 b3 g d W) fun z => z.1 = things ∧ BelR b z.2.1 z.2.2.1 ∧ z.2.2.2.2.1 = g ∧ z.2.2.2.2.2.1 = d ∧ (z.2.2.2.2.2.2.length : Int) = u ∧ ∀ x ∈ z.2.2.2.2.2.2, 1 ≤ x ∧ x ≤ 9
  | 0, k, b2, b3, W, h, _, _, _, _ => by omega
  | n + 1, k, b2, b3, W, h, hk, hb, hW, hw => by
    unfold made_l1
    refine Ok.brd (fun c => ?_) (fun c => Ok.some ⟨rfl, ⟨rfl, hb⟩, rfl, rfl, by dsimp only; omega, hw⟩)
    refine Ok.bind (strike_ok N hb (by omega)) ?_
    rintro ⟨x, c1, c2, c3⟩ ⟨hx, hc, hb1⟩
    dsimp only at hx hc hb1 ⊢
    obtain rfl := hc.symm
    refine Ok.lim (by simp; omega) (Ok.chk (by omega) ?_)
    have := made_l1_p (things := things) (g := g) (d := d) hu n (k + 1) c2 c3 (W ++ [x]) (by omega) (by omega) hb1 (by simp [hW]) (fun w hm => by
      rcases List.mem_append.1 hm with hm | hm
      · exact hw w hm
      · simp at hm; subst hm; omega)
    rw [nat_succ] at this
    exact this
theorem made_l3_p {many often u u2 u3 g d : Int} {d2 : List Int} {d3 : List (List Int)} {d4 : List Int} (ho : 2 ≤ often ∧ often ≤ 5) (hu : 0 ≤ u3 ∧ u3 ≤ 100) : ∀ (n k : Nat) (b2 b3 : Int) (l : List Int), u3 < n + k → (k : Int) ≤ u3 → Bell b b2 → l.length = k → (∀ x ∈ l, -1 ≤ x ∧ x ≤ 5) →
    Ok (made_l3 N n many often u u2 u3 k b b2 b3 g d l d2 d3 d4) fun z => ∃ b2' b3' l', z = (many, often, u, u2, b, b2', b3', g, d, l', d2, d3, d4) ∧ Bell b b2' ∧ (l'.length : Int) = u3 ∧ ∀ x ∈ l', -1 ≤ x ∧ x ≤ 5
  | 0, k, b2, b3, l, h, _, _, _, _ => by omega
  | n + 1, k, b2, b3, l, h, hk, hb, hW, hw => by
    unfold made_l3
    refine Ok.brd (fun c => ?_) (fun c => Ok.some ⟨b2, b3, l, rfl, hb, by omega, hw⟩)
    refine Ok.bind (made1_ok (by omega) hb) ?_
    rintro ⟨x, c1, c2, c3⟩ ⟨hx, hc, hb1⟩
    dsimp only at hx hc hb1 ⊢
    obtain rfl := hc.symm
    refine Ok.lim (by simp; omega) (Ok.chk (by omega) ?_)
    have := made_l3_p (many := many) (often := often) (u := u) (u2 := u2) (g := g) (d := d) (d2 := d2) (d3 := d3) (d4 := d4) ho hu n (k + 1) c2 c3 (l ++ [x]) (by omega) (by omega) hb1 (by simp [hW]) (fun w hm => by
      rcases List.mem_append.1 hm with hm | hm
      · exact hw w hm
      · simp at hm; subst hm; omega)
    rw [nat_succ] at this
    exact this
theorem made_l5_p {often u u2 u3 g d : Int} {d2 : List Int} {d3 d4 : List (List Int)} {d5 : List Int} (ho : 2 ≤ often ∧ often ≤ 5) (hu : 0 ≤ u3 ∧ u3 ≤ 100) : ∀ (n k : Nat) (b2 b3 : Int) (l : List Int), u3 < n + k → (k : Int) ≤ u3 → Bell b b2 → l.length = k → (∀ x ∈ l, -1 ≤ x ∧ x ≤ 5) →
    Ok (made_l5 N n often u u2 u3 k b b2 b3 g d l d2 d3 d4 d5) fun z => ∃ b2' b3' l', z = (often, u, u2, b, b2', b3', g, d, l', d2, d3, d4, d5) ∧ Bell b b2' ∧ (l'.length : Int) = u3 ∧ ∀ x ∈ l', -1 ≤ x ∧ x ≤ 5
  | 0, k, b2, b3, l, h, _, _, _, _ => by omega
  | n + 1, k, b2, b3, l, h, hk, hb, hW, hw => by
    unfold made_l5
    refine Ok.brd (fun c => ?_) (fun c => Ok.some ⟨b2, b3, l, rfl, hb, by omega, hw⟩)
    refine Ok.bind (made1_ok (by omega) hb) ?_
    rintro ⟨x, c1, c2, c3⟩ ⟨hx, hc, hb1⟩
    dsimp only at hx hc hb1 ⊢
    obtain rfl := hc.symm
    refine Ok.lim (by simp; omega) (Ok.chk (by omega) ?_)
    have := made_l5_p (often := often) (u := u) (u2 := u2) (g := g) (d := d) (d2 := d2) (d3 := d3) (d4 := d4) (d5 := d5) ho hu n (k + 1) c2 c3 (l ++ [x]) (by omega) (by omega) hb1 (by simp [hW]) (fun w hm => by
      rcases List.mem_append.1 hm with hm | hm
      · exact hw w hm
      · simp at hm; subst hm; omega)
    rw [nat_succ] at this
    exact this
/-- Descriptions of so many traits. -/
def okRow (m : Nat) (r : List Int) : Prop := r.length = m ∧ ∀ x ∈ r, -1 ≤ x ∧ x ≤ 5
theorem made_l2_p (hN : 110 ≤ N) {many often u g d : Int} {W : List Int} (hW : W.length ≤ 5) (ho : 2 ≤ often ∧ often ≤ 5) (hu : 0 ≤ u ∧ u ≤ 6) : ∀ (n k : Nat) (b2 b3 : Int) (L : List (List Int)) (R : List Int), u < n + k → (k : Int) ≤ u → Bell b b2 → L.length = k → R.length = k → (∀ r ∈ L, okRow W.length r) → (∀ x ∈ R, 0 ≤ x ∧ x ≤ 99) →
    Ok (made_l2 N n many often u k b b2 b3 g d W L R) fun z => ∃ b2' b3' L' R', z = (many, often, b, b2', b3', g, d, W, L', R') ∧ Bell b b2' ∧ ((L'.length : Int) = u ∧ R'.length = L'.length) ∧ (∀ r ∈ L', okRow W.length r) ∧ ∀ x ∈ R', 0 ≤ x ∧ x ≤ 99
  | 0, k, b2, b3, L, R, h, _, _, _, _, _, _ => by omega
  | n + 1, k, b2, b3, L, R, h, hk, hb, hL, hR, hl, hr => by
    unfold made_l2
    refine Ok.brd (fun c => ?_) (fun c => Ok.some ⟨b2, b3, L, R, rfl, hb, ⟨by omega, by omega⟩, hl, hr⟩)
    have e := made_l3_p (N := N) (many := many) (often := often) (u := u) (u2 := (k : Int)) (u3 := W.length) (g := g) (d := d) (d2 := W) (d3 := L) (d4 := R) ho (by omega) N 0 b2 b3 [] (by omega) (by omega) hb rfl (fun x h => by cases h)
    rw [show ((0 : Nat) : Int) = 0 from rfl] at e
    refine Ok.bind e ?_
    rintro _ ⟨b2', b3', l', rfl, hb1, hl1, hl2⟩
    dsimp only
    refine Ok.lim (by simp; omega) (Ok.bind (stroke_ok N hb1 (by omega)) ?_)
    rintro ⟨y, d1, d2, d3⟩ ⟨hy, hc, hb2⟩
    dsimp only at hy hc hb2 ⊢
    obtain rfl := hc.symm
    refine Ok.lim (by simp; omega) (Ok.chk (by omega) ?_)
    have := made_l2_p hN (many := many) (g := g) (d := d) hW ho hu n (k + 1) d2 d3 (L ++ [l']) (R ++ [y]) (by omega) (by omega) hb2 (by simp [hL]) (by simp [hR]) (fun r hm => by
      rcases List.mem_append.1 hm with hm | hm
      · exact hl r hm
      · simp at hm; subst hm; exact ⟨by omega, hl2⟩) (fun x hm => by
      rcases List.mem_append.1 hm with hm | hm
      · exact hr x hm
      · simp at hm; subst hm; omega)
    rw [nat_succ] at this
    exact this
theorem made_l4_p (hN : 110 ≤ N) {often u g d : Int} {W R : List Int} {L : List (List Int)} (hW : W.length ≤ 5) (ho : 2 ≤ often ∧ often ≤ 5) (hu : 0 ≤ u ∧ u ≤ 6) : ∀ (n k : Nat) (b2 b3 : Int) (F : List (List Int)), u < n + k → (k : Int) ≤ u → Bell b b2 → F.length = k → (∀ r ∈ F, okRow W.length r) →
    Ok (made_l4 N n often u k b b2 b3 g d W L F R) fun z => ∃ b2' b3' F', z = (b, b2', b3', g, d, W, L, F', R) ∧ Bell b b2' ∧ (F'.length : Int) = u ∧ ∀ r ∈ F', okRow W.length r
  | 0, k, b2, b3, F, h, _, _, _, _ => by omega
  | n + 1, k, b2, b3, F, h, hk, hb, hL, hl => by
    unfold made_l4
    refine Ok.brd (fun c => ?_) (fun c => Ok.some ⟨b2, b3, F, rfl, hb, by omega, hl⟩)
    have e := made_l5_p (N := N) (often := often) (u := u) (u2 := (k : Int)) (u3 := W.length) (g := g) (d := d) (d2 := W) (d3 := L) (d4 := F) (d5 := R) ho (by omega) N 0 b2 b3 [] (by omega) (by omega) hb rfl (fun x h => by cases h)
    rw [show ((0 : Nat) : Int) = 0 from rfl] at e
    refine Ok.bind e ?_
    rintro _ ⟨b2', b3', l', rfl, hb1, hl1, hl2⟩
    dsimp only
    refine Ok.lim (by simp; omega) (Ok.chk (by omega) ?_)
    have := made_l4_p hN (g := g) (d := d) (L := L) (R := R) hW ho hu n (k + 1) b2' b3' (F ++ [l']) (by omega) (by omega) hb1 (by simp [hL]) (fun r hm => by
      rcases List.mem_append.1 hm with hm | hm
      · exact hl r hm
      · simp at hm; subst hm; exact ⟨by omega, hl2⟩)
    rw [nat_succ] at this
    exact this
theorem made_v (hN : 110 ≤ N) {things b2 b3 : Int} (ht : 0 ≤ things ∧ things ≤ 6) (hb : Bell b b2) :
    Ok (made_S N things b b2 b3) fun z => Fine z.1 z.2.1 z.2.2.1 z.2.2.2.1 z.2.2.2.2.1 ∧ ((z.2.2.1.length : Int) ≤ things ∧ (z.2.2.2.1.length : Int) ≤ things) ∧ z.2.1 ≤ 2 ∧ BelR b z.2.2.2.2.2.1 z.2.2.2.2.2.2.1 := by
  unfold made_S
  refine Ok.bind (stroke_ok N hb (by omega)) ?_
  rintro ⟨x, c1, c2, c3⟩ ⟨hx, hc, hb1⟩
  dsimp only at hx hc hb1 ⊢
  obtain rfl := hc.symm
  refine Ok.bind (strike_ok N hb1 (by omega)) ?_
  rintro ⟨m, d1, d2, d3⟩ ⟨hm, hc, hb2⟩
  dsimp only at hm hc hb2 ⊢
  obtain rfl := hc.symm
  have e1 := made_l1_p (N := N) (things := things) (g := 0) (d := x) (u := m) (by omega) N 0 d2 d3 [] (by omega) (by omega) hb2 rfl (fun w h => by cases h)
  rw [show ((0 : Nat) : Int) = 0 from rfl] at e1
  refine Ok.bind e1 ?_
  rintro ⟨t', f1, f2, f3, g', x', W⟩ ⟨q1, ⟨q2, hb3⟩, q3, q4, hl, hW⟩
  dsimp only at q1 q2 q3 q4 hb3 hl hW ⊢
  obtain rfl := q1.symm
  obtain rfl := q2.symm
  obtain rfl := q3.symm
  obtain rfl := q4.symm
  refine Ok.bind (stroke_ok N hb3 (by omega)) ?_
  rintro ⟨many, h1, h2, h3⟩ ⟨hmany, hc, hb4⟩
  dsimp only at hmany hc hb4 ⊢
  obtain rfl := hc.symm
  refine Ok.bind (strike_ok N hb4 (by omega)) ?_
  rintro ⟨often, i1, i2, i3⟩ ⟨hoften, hc, hb5⟩
  dsimp only at hoften hc hb5 ⊢
  obtain rfl := hc.symm
  refine Ok.bind (stroke_ok N hb5 (by omega)) ?_
  rintro ⟨u, j1, j2, j3⟩ ⟨hu, hc, hb6⟩
  dsimp only at hu hc hb6 ⊢
  obtain rfl := hc.symm
  have e2 := made_l2_p hN (many := many) (often := often) (u := u) (g := 0) (d := x) (W := W) (by omega) (by omega) (by omega) N 0 j2 j3 [] [] (by omega) (by omega) hb6 rfl rfl (fun x h => by cases h) (fun x h => by cases h)
  rw [show ((0 : Nat) : Int) = 0 from rfl] at e2
  refine Ok.bind e2 ?_
  rintro _ ⟨k2, k3, L, R, rfl, hb7, ⟨hL, hR⟩, hl2, hr2⟩
  dsimp only
  have e3 := made_l4_p hN (often := often) (u := many) (g := 0) (d := x) (W := W) (L := L) (R := R) (by omega) (by omega) (by omega) N 0 k2 k3 [] (by omega) (by omega) hb7 rfl (fun x h => by cases h)
  rw [show ((0 : Nat) : Int) = 0 from rfl] at e3
  refine Ok.bind e3 ?_
  rintro _ ⟨l2, l3, F, rfl, hb8, hF, hf2⟩
  dsimp only
  exact Ok.some ⟨⟨by dsimp only; omega, by dsimp only; omega, by dsimp only; omega, by dsimp only; omega, fun r hr => (hl2 r hr).1, fun r hr => (hf2 r hr).1, hR, hW, by dsimp only; omega, hr2, fun r hr => (hl2 r hr).2, fun r hr => (hf2 r hr).2⟩, ⟨by dsimp only; omega, by dsimp only; omega⟩, by dsimp only; omega, rfl, hb8⟩
end
end Go.Proofs.Ythncjilcflilcaa

namespace Go.Proofs.Ythncjilcflilcaa
set_option linter.all false
open Go

section
variable {W : List Int} {s : Int} {L F : List (List Int)} {R : List Int} {A B : Nat → Nat → Int} {N : Nat}
theorem lpair_l1_p (h : Fine W s L F R) {i k : Nat} (hi : i < L.length) (hk : k < F.length) : ∀ (n t : Nat), W.length < n + t → t ≤ W.length →
    lpair_l1 N n k (agP W (L.getD i []) (F.getD k []) t) (slP (L.getD i []) (F.getD k []) t) (L.getD i []) W.length t W s L F R = some (agF W L F i k, slF W L F i k, W, s, L, F, R)
  | 0, t, hn, ht => by omega
  | n + 1, t, hn, ht => by
    unfold lpair_l1
    have hw5 := h.w5
    have ha := h.lw _ (getD_mem (d := []) hi)
    have hb := h.fw _ (getD_mem (d := []) hk)
    by_cases c : t < W.length
    · have ih := lpair_l1_p h hi hk n (t + 1) (by omega) (by omega)
      rw [nat_succ] at ih
      have b1 := agP_bound h.w (L.getD i []) (F.getD k []) (t := t) (by omega)
      have b2 := slP_bound (L.getD i []) (F.getD k []) (t := t) (by omega)
      have b3 := getD_W h.w t
      have s1 : agP W (L.getD i []) (F.getD k []) (t + 1) = agP W (L.getD i []) (F.getD k []) t + agA W (L.getD i []) (F.getD k []) t := rfl
      have s2 : slP (L.getD i []) (F.getD k []) (t + 1) = slP (L.getD i []) (F.getD k []) t + slA (L.getD i []) (F.getD k []) t := rfl
      rw [s1, s2] at ih
      clear s1 s2
      have g1 : (L.getD i [])[((t : Nat) : Int).toNat]? = some ((L.getD i []).getD t 0) := gets (by omega) 0
      have g2 : (F.getD k [])[((t : Nat) : Int).toNat]? = some ((F.getD k []).getD t 0) := gets (by omega) 0
      rw [br_dec (by omega), idx_eq (by omega) g1, idx_eq (by omega) (gets hk []), idx_eq (by omega) g2]
      have hj : ∀ x y, lpair_j1 N (lpair_l1 N n) k x y (L.getD i []) W.length t W s L F R = lpair_l1 N n k x y (L.getD i []) W.length (↑t + 1) W s L F R := fun x y => by
        unfold lpair_j1
        rw [chk_eq (by omega)]
      simp only [hj]
      clear g1 g2
      unfold agA slA at ih
      generalize (L.getD i []).getD t 0 = x at *
      generalize (F.getD k []).getD t 0 = y at *
      generalize agP W (L.getD i []) (F.getD k []) t = p at *
      generalize slP (L.getD i []) (F.getD k []) t = q at *
      by_cases c1 : x = -1
      · rw [if_neg (by omega), if_neg (by omega), Int.add_zero, Int.add_zero] at ih
        rw [br_dec c1, ih]
      by_cases c2 : y = -1
      · rw [if_neg (by omega), if_neg (by omega), Int.add_zero, Int.add_zero] at ih
        rw [br_ndec c1, br_dec c2, ih]
      by_cases c3 : x = y
      · rw [if_pos ⟨c3, by omega⟩, if_neg (by omega), Int.add_zero] at ih
        rw [br_ndec c1, br_ndec c2, br_dec c3, idx_eq (by omega) (gets c 0), chk_eq (by omega), ih]
      · rw [if_neg (by omega), if_pos ⟨by omega, by omega, c3⟩, Int.add_zero] at ih
        rw [br_ndec c1, br_ndec c2, br_ndec c3, chk_eq (by omega), ih]
    · obtain rfl : t = W.length := by omega
      rw [br_ndec (by omega)]
      unfold agF slF
      rw [if_pos ⟨hi, hk⟩, if_pos ⟨hi, hk⟩]
theorem lpair_v (hN : 110 ≤ N) (h : Fine W s L F R) {i k : Nat} (hi : i < L.length) (hk : k < F.length) : lpair_S N W s L F R i k = some (agF W L F i k, canF W s L F i k) := by
  have e := lpair_l1_p (N := N) h hi hk N 0 (by have := h.w5; omega) (by omega)
  unfold lpair_S
  rw [show agP W (L.getD i []) (F.getD k []) 0 = 0 from rfl, show slP (L.getD i []) (F.getD k []) 0 = 0 from rfl, show ((0 : Nat) : Int) = 0 from rfl] at e
  rw [idx_eq (by omega) (gets hi []), h.lw _ (getD_mem hi), e]
  simp only [Option.bind_some]
  unfold canF canT
  by_cases c : 0 < agF W L F i k
  · rw [br_dec c, decide_eq_true c, Bool.true_and]
  · rw [br_ndec c, decide_eq_false c, Bool.false_and]
/-! ### Joins that are tried -/
end
end Go.Proofs.Ythncjilcflilcaa

namespace Go.Proofs.Ythncjilcflilcaa
set_option linter.all false
open Go

/-! ### Orders -/
structure PermL (u : Nat) (p : List Int) (τ : Nat → Nat) : Prop where
  len : p.length = u
  bd : ∀ i, i < u → ∃ q : Nat, p.getD i 0 = q ∧ q < u ∧ τ q = i
  inv : ∀ x, x < u → τ x < u ∧ p.getD (τ x) 0 = x
theorem getD_app {l : List Int} {i : Nat} {x : Int} (h : i < l.length) : (l ++ [x]).getD i 0 = l.getD i 0 := by
  simp [List.getD, List.getElem?_append_left h]
theorem getD_last {l : List Int} {x : Int} : (l ++ [x]).getD l.length 0 = x := by simp [List.getD]
theorem PermL.step {k y : Nat} {p : List Int} {τ : Nat → Nat} (h : PermL k p τ) (hy : y ≤ k) : ∃ τ', PermL (k + 1) (((p ++ [(k : Int)]).set y ((p ++ [(k : Int)]).getD k 0)).set k ((p ++ [(k : Int)]).getD y 0)) τ' := by
  have hl := h.len
  have ek : (p ++ [(k : Int)]).getD k 0 = k := by rw [← hl]; exact getD_last
  obtain ⟨q2, e2, b2, t2⟩ : ∃ q2 : Nat, (p ++ [(k : Int)]).getD y 0 = q2 ∧ (y = k ∧ q2 = k ∨ y < k ∧ q2 < k) ∧ (y < k → τ q2 = y) := by
    by_cases c : y = k
    · subst c; exact ⟨y, ek, .inl ⟨rfl, rfl⟩, fun h => by omega⟩
    · obtain ⟨q, x1, x2, x3⟩ := h.bd y (by omega)
      exact ⟨q, by rw [getD_app (by omega), x1], .inr ⟨by omega, x2⟩, fun _ => x3⟩
  rw [ek, e2]
  have l1 : (p ++ [(k : Int)]).length = k + 1 := by simp [hl]
  have gk : (((p ++ [(k : Int)]).set y (k : Int)).set k (q2 : Int)).getD k 0 = q2 := getD_set_self _ _ _ _ (by rw [List.length_set, l1]; omega)
  have gy : y ≠ k → (((p ++ [(k : Int)]).set y (k : Int)).set k (q2 : Int)).getD y 0 = k := fun hne => by
    rw [getD_set_ne _ _ _ _ _ (Ne.symm hne), getD_set_self _ _ _ _ (by rw [l1]; omega)]
  have go : ∀ i, i ≠ k → i ≠ y → i < k → (((p ++ [(k : Int)]).set y (k : Int)).set k (q2 : Int)).getD i 0 = p.getD i 0 := fun i h1 h2 h3 => by
    rw [getD_set_ne _ _ _ _ _ (Ne.symm h1), getD_set_ne _ _ _ _ _ (Ne.symm h2), getD_app (by omega)]
  refine ⟨upd (upd τ k y) q2 k, ⟨by rw [List.length_set, List.length_set, l1], fun i hi => ?_, fun x hx => ?_⟩⟩
  · by_cases c1 : i = k
    · subst c1
      exact ⟨q2, gk, by omega, upd_self _ _ _⟩
    · by_cases c2 : i = y
      · subst c2
        exact ⟨k, gy c1, by omega, by rw [upd_ne (by omega), upd_self]⟩
      · obtain ⟨q, x1, x2, x3⟩ := h.bd i (by omega)
        refine ⟨q, by rw [go i c1 c2 (by omega), x1], by omega, ?_⟩
        rw [upd_ne, upd_ne (by omega), x3]
        rintro rfl
        rcases b2 with ⟨_, b2⟩ | ⟨b2, _⟩
        · omega
        · have := t2 b2; omega
  · by_cases c1 : x = q2
    · subst c1
      rw [upd_self]
      exact ⟨by omega, gk⟩
    · rw [upd_ne c1]
      by_cases c2 : x = k
      · subst c2
        rw [upd_self]
        exact ⟨by omega, gy (by omega)⟩
      · rw [upd_ne c2]
        obtain ⟨x1, x2⟩ := h.inv x (by omega)
        refine ⟨by omega, ?_⟩
        have hne : τ x ≠ y := fun e => by
          rw [e] at x1 x2
          rw [getD_app (by omega), x2] at e2
          omega
        rw [go _ (by omega) hne x1, x2]
section
variable {N : Nat}
end
/-! ### Joins in another order -/
/-- Two ways to and fro. -/
structure TwoW (n : Nat) (a b : Nat → Nat) : Prop where
  la : ∀ x, x < n → a x < n ∧ b (a x) = x
  lb : ∀ x, x < n → b x < n ∧ a (b x) = x
theorem TwoW.symm {n : Nat} {a b : Nat → Nat} (h : TwoW n a b) : TwoW n b a := ⟨h.lb, h.la⟩
theorem perm_sum {l l' : List Int} (h : l.Perm l') : l.sum = l'.sum := by
  induction h with
  | nil => rfl
  | cons x _ ih => simp [ih]
  | swap x y l => simp only [List.sum_cons]; omega
  | trans _ _ h1 h2 => exact h1.trans h2
theorem TwoW.perm {n : Nat} {a b : Nat → Nat} (h : TwoW n a b) : ((List.range n).map a).Perm (List.range n) := by
  refine (List.perm_ext_iff_of_nodup ?_ List.nodup_range).2 fun x => ?_
  · unfold List.Nodup
    rw [List.pairwise_map]
    refine List.Pairwise.imp_of_mem ?_ List.nodup_range
    intro x y hx hy hxy e
    rw [List.mem_range] at hx hy
    exact hxy (by rw [← (h.la x hx).2, e, (h.la y hy).2])
  · rw [List.mem_map]
    constructor
    · rintro ⟨y, hy, rfl⟩
      exact List.mem_range.2 (h.la y (List.mem_range.1 hy)).1
    · intro hx
      have hx' := List.mem_range.1 hx
      exact ⟨b x, List.mem_range.2 (h.lb x hx').1, (h.lb x hx').2⟩
theorem TwoW.sum {n : Nat} {a b : Nat → Nat} (h : TwoW n a b) (f : Nat → Int) : sumN (fun x => f (a x)) n = sumN f n := by
  rw [← mapR_sum, ← mapR_sum]
  have := perm_sum (h.perm.map f)
  rw [List.map_map] at this
  exact this
def mvI (b2 : Nat → Nat) (v : Int) : Int := if v = -1 then -1 else (b2 v.toNat : Nat)
def rnJ (n : Nat) (a1 b2 : Nat → Nat) (l : List Int) : List Int := (List.range n).map fun x => mvI b2 (fnJ l (a1 x))
section
variable {n m : Nat} {a1 b1 a2 b2 : Nat → Nat} {can can' : Nat → Nat → Bool} {t t' : Nat → Nat → Int}
theorem rn_mem (h1 : TwoW n a1 b1) (h2 : TwoW m a2 b2) (hc : ∀ i k, i < n → k < m → can' i k = can (a1 i) (a2 k)) {l : List Int} (hl : l ∈ joinsL can m n 0 0) : rnJ n a1 b2 l ∈ joinsL can' m n 0 0 := by
  obtain ⟨l1, l2, _⟩ := mem_joins.1 hl
  refine mem_joins.2 ⟨by simp [rnJ], ?_, fun k hk => by simp at hk⟩
  have e : ∀ i, i < n → fnJ (rnJ n a1 b2 l) i = mvI b2 (fnJ l (a1 i)) := fun i hi => fn_map hi
  have key : ∀ i, i < n → (fnJ l i = -1 ∧ mvI b2 (fnJ l i) = -1) ∨ ∃ k : Nat, fnJ l i = k ∧ k < m ∧ can i k = true ∧ mvI b2 (fnJ l i) = (b2 k : Nat) := fun i hi => by
    rcases l2.ok i hi with h | ⟨k, x, y, z⟩
    · exact .inl ⟨h, by unfold mvI; rw [if_pos h]⟩
    · refine .inr ⟨k, x, y, z, ?_⟩
      unfold mvI
      rw [if_neg (by omega), x, Int.toNat_natCast]
  refine Mt.congr (J := fun i => mvI b2 (fnJ l (a1 i))) ⟨fun i hi => ?_, fun i j hi hj hij he => ?_⟩ (fun i hi => (e i hi).symm)
  · rcases key (a1 i) (h1.la i hi).1 with ⟨_, h⟩ | ⟨k, x, y, z, w⟩
    · exact .inl h
    · refine .inr ⟨b2 k, w, (h2.lb k y).1, ?_⟩
      rw [hc i _ hi (h2.lb k y).1, (h2.lb k y).2]; exact z
  · have hne : a1 i ≠ a1 j := fun e => hij (by rw [← (h1.la i hi).2, e, (h1.la j hj).2])
    have he : mvI b2 (fnJ l (a1 i)) = mvI b2 (fnJ l (a1 j)) := he
    show mvI b2 (fnJ l (a1 i)) = -1
    rcases key (a1 i) (h1.la i hi).1 with ⟨_, h⟩ | ⟨k, x, y, z, w⟩
    · exact h
    · rcases key (a1 j) (h1.la j hj).1 with ⟨_, h⟩ | ⟨k', x', y', z', w'⟩
      · rw [he]; exact h
      · rw [w, w'] at he
        have hk : k = k' := by
          have hb : b2 k = b2 k' := by omega
          rw [← (h2.lb k y).2, hb, (h2.lb k' y').2]
        have := l2.inj (a1 i) (a1 j) (h1.la i hi).1 (h1.la j hj).1 hne (by rw [x, x', hk])
        omega
theorem rn_val (h1 : TwoW n a1 b1) (h2 : TwoW m a2 b2) (ht : ∀ i k, i < n → k < m → t' i k = t (a1 i) (a2 k)) {l : List Int} (hl : l ∈ joinsL can m n 0 0) : valJ t' 0 (rnJ n a1 b2 l) = valJ t 0 l := by
  obtain ⟨l1, l2, _⟩ := mem_joins.1 hl
  rw [val_joins (n := n) (by simp [rnJ]), val_joins l1]
  unfold wt
  rw [← h1.sum (fun i => pv t i (fnJ l i))]
  refine sumN_congr fun i hi => ?_
  rw [show fnJ (rnJ n a1 b2 l) i = mvI b2 (fnJ l (a1 i)) from fn_map hi]
  rcases l2.ok (a1 i) (h1.la i hi).1 with h | ⟨k, x, y, _⟩
  · rw [h]; simp [mvI, pv]
  · unfold mvI
    rw [if_neg (by omega), x, Int.toNat_natCast, pv_some, pv_some, ht i _ hi (h2.lb k y).1, (h2.lb k y).2]
end
end Go.Proofs.Ythncjilcflilcaa

namespace Go.Proofs.Ythncjilcflilcaa
set_option linter.all false
open Go

section
variable {n m : Nat} {a1 b1 a2 b2 : Nat → Nat} {can can' : Nat → Nat → Bool} {t t' : Nat → Nat → Int}
theorem bl_in {can : Nat → Nat → Bool} {t : Nat → Nat → Int} : blR can t m n 0 0 ∈ joinsL can m n 0 0 := by
  obtain ⟨q1, q2, _⟩ := bl_best (can := can) (t := t) (m := m) n 0 0
  exact mem_joinsL.2 ⟨q2, q1⟩
end
/-- The same desk, but for the order of its things. -/
structure OrdD (L F : List (List Int)) (R : List Int) (Lo Fo : List (List Int)) (Ro : List Int) (a1 b1 a2 b2 : Nat → Nat) : Prop where
  ll : Lo.length = L.length
  fl : Fo.length = F.length
  w1 : TwoW L.length a1 b1
  w2 : TwoW F.length a2 b2
  gl : ∀ x, x < L.length → Lo.getD x [] = L.getD (a1 x) []
  gr : ∀ x, x < L.length → Ro.getD x 0 = R.getD (a1 x) 0
  gf : ∀ x, x < F.length → Fo.getD x [] = F.getD (a2 x) []
section
variable {W : List Int} {s : Int} {L F Lo Fo : List (List Int)} {R Ro : List Int} {a1 b1 a2 b2 : Nat → Nat} {N : Nat}
theorem OrdD.symm (h : OrdD L F R Lo Fo Ro a1 b1 a2 b2) : OrdD Lo Fo Ro L F R b1 a1 b2 a2 :=
  ⟨h.ll.symm, h.fl.symm, by rw [h.ll]; exact h.w1.symm, by rw [h.fl]; exact h.w2.symm,
   fun x hx => by rw [h.ll] at hx; rw [h.gl _ (h.w1.lb x hx).1, (h.w1.lb x hx).2], fun x hx => by rw [h.ll] at hx; rw [h.gr _ (h.w1.lb x hx).1, (h.w1.lb x hx).2],
   fun x hx => by rw [h.fl] at hx; rw [h.gf _ (h.w2.lb x hx).1, (h.w2.lb x hx).2]⟩
theorem OrdD.ag (h : OrdD L F R Lo Fo Ro a1 b1 a2 b2) {i k : Nat} (hi : i < L.length) (hk : k < F.length) : agF W Lo Fo i k = agF W L F (a1 i) (a2 k) := by
  unfold agF
  rw [if_pos ⟨by rw [h.ll]; exact hi, by rw [h.fl]; exact hk⟩, if_pos ⟨(h.w1.la i hi).1, (h.w2.la k hk).1⟩, h.gl i hi, h.gf k hk]
theorem OrdD.sl (h : OrdD L F R Lo Fo Ro a1 b1 a2 b2) {i k : Nat} (hi : i < L.length) (hk : k < F.length) : slF W Lo Fo i k = slF W L F (a1 i) (a2 k) := by
  unfold slF
  rw [if_pos ⟨by rw [h.ll]; exact hi, by rw [h.fl]; exact hk⟩, if_pos ⟨(h.w1.la i hi).1, (h.w2.la k hk).1⟩, h.gl i hi, h.gf k hk]
theorem OrdD.can (h : OrdD L F R Lo Fo Ro a1 b1 a2 b2) {i k : Nat} (hi : i < L.length) (hk : k < F.length) : canF W s Lo Fo i k = canF W s L F (a1 i) (a2 k) := by
  unfold canF canT
  rw [h.ag hi hk, h.sl hi hk]
theorem OrdD.mem (h : OrdD L F R Lo Fo Ro a1 b1 a2 b2) {l : List Int} (hl : l ∈ joinsL (canF W s L F) F.length L.length 0 0) : rnJ L.length a1 b2 l ∈ joinsL (canF W s Lo Fo) Fo.length Lo.length 0 0 := by
  rw [h.ll, h.fl]
  exact rn_mem h.w1 h.w2 (fun i k hi hk => h.can hi hk) hl
theorem OrdD.val (h : OrdD L F R Lo Fo Ro a1 b1 a2 b2) {l : List Int} (hl : l ∈ joinsL (canF W s L F) F.length L.length 0 0) : valJ (agF W Lo Fo) 0 (rnJ L.length a1 b2 l) = valJ (agF W L F) 0 l := rn_val h.w1 h.w2 (fun i k hi hk => h.ag hi hk) hl
/-! ### The desk that is made -/
theorem PermL.two {u : Nat} {p : List Int} {τ : Nat → Nat} (h : PermL u p τ) : TwoW u τ (fun i => (p.getD i 0).toNat) := by
  refine ⟨fun x hx => ⟨(h.inv x hx).1, by rw [(h.inv x hx).2, Int.toNat_natCast]⟩, fun x hx => ?_⟩
  obtain ⟨q, e, h1, h2⟩ := h.bd x hx
  rw [e, Int.toNat_natCast]
  exact ⟨h1, h2⟩
theorem copyro_l1_p {l : List (List Int)} (hl : l.length ≤ 1000000) (hr : ∀ x ∈ l, x.length ≤ 1000000) : ∀ n k : Nat, l.length < n + k → k ≤ l.length → copyro_l1 N n l l.length k (l.take k ++ List.replicate (l.length - k) []) = some l
  | 0, k, h, _ => by omega
  | n + 1, k, h, hk => by
    unfold copyro_l1
    by_cases c : k < l.length
    · have ih := copyro_l1_p hl hr n (k + 1) (by omega) (by omega)
      rw [nat_succ, take_succ' c []] at ih
      rw [br_dec (by omega), idx_eq (by omega) (gets c []), copyi_v (hr _ (getD_mem c))]
      simp only [Option.bind_some, Int.toNat_natCast]
      have hlen : (l.take k ++ List.replicate (l.length - k) ([] : List Int)).length = l.length := by simp; omega
      rw [rng_eq (by rw [hlen]; omega), get_get [] (by rw [hlen]; exact c), chk_eq (by omega), ← ih]
      congr 1
      rw [List.set_append_right _ _ (by simp; omega), show k - (l.take k).length = 0 by simp; omega, show l.length - k = (l.length - (k + 1)) + 1 by omega, List.replicate_succ]
      simp
    · rw [br_ndec (by omega), List.take_of_length_le (by omega), show l.length - k = 0 by omega]; simp
theorem copyro_v {l : List (List Int)} (hl : l.length ≤ 1000000) (hN : l.length < N) (hr : ∀ x ∈ l, x.length ≤ 1000000) : copyro_S N l = some l := by
  unfold copyro_S
  have e := copyro_l1_p (N := N) hl hr N 0 (by omega) (by omega)
  simp only [List.take_zero, List.nil_append, Nat.sub_zero, Int.natCast_zero] at e
  rw [grd_eq (lmI_iff.2 (by omega)), Int.toNat_natCast, e]; rfl
theorem copyol_v {l : List Int} (h : l.length ≤ 1000000) : copyo_S N l = some l := by
  unfold copyo_S
  rw [grd_eq (lmI_iff.2 (by omega))]
  simp
theorem copydo_v (hN : 110 ≤ N) (h : Sm W L F R) : copydo_S N W s L F R = some (W, s, L, F, R) := by
  obtain ⟨hw, hl, hf, hr, hlr, hfr⟩ := h
  unfold copydo_S
  rw [copyol_v (by omega), copyro_v (by omega) (by omega) (fun x hx => by have := hlr x hx; omega), copyro_v (by omega) (by omega) (fun x hx => by have := hfr x hx; omega), copyol_v (by omega)]; rfl
end
end Go.Proofs.Ythncjilcflilcaa

namespace Go.Proofs.Ythncjilcflilcaa
set_option linter.all false
open Go

theorem sliceAt3_run {P : Program} {t e : TypeId} {sz n c l h m : Nat} {a : Option Addr} {k1 k2 k3 : IntKind} (he : P.underlying t = some (.slice e)) (hsz : szOf P e = some sz) (hle : l ≤ h) (hhm : h ≤ m) (hmc : m ≤ c) (w : World) :
    (Instr.sliceAt t (.slice a n c) (some (.int k1 (l : Int))) (some (.int k2 (h : Int))) (some (.int k3 (m : Int)))).run P w = .ok (.slice (if m = l then a else a.map (·.add (l * sz))) (h - l) (m - l)) w := by
  simp [Instr.sliceAt, Instr.slice, Instr.sliceBounds, sliceBound_run hmc, sliceBound_run hhm, sliceBound_run hle, underlying_run he, szOf_run hsz]
theorem sliceAtC_run {P : Program} {t e : TypeId} {sz n c l h : Nat} {a : Option Addr} {k1 k2 : IntKind} (he : P.underlying t = some (.slice e)) (hsz : szOf P e = some sz) (hle : l ≤ h) (hhc : h ≤ c) (w : World) :
    (Instr.sliceAt t (.slice a n c) (some (.int k1 (l : Int))) (some (.int k2 (h : Int))) none).run P w = .ok (.slice (if c = l then a else a.map (·.add (l * sz))) (h - l) (c - l)) w := by
  simp [Instr.sliceAt, Instr.slice, Instr.sliceBounds, sliceBound_run hhc, sliceBound_run hle, underlying_run he, szOf_run hsz]
/-- What is appended fits behind what is there. -/
theorem append_fit {P : Program} {t e u : TypeId} {sz by_ : Nat} {z : Value} (hT : ElemT P t e sz by_ z) (hu : (match Sem.pv P (underlying u) with | some (.slice _) => true | _ => false) = true) {ty bty : TypeId} {lo2 : Nat} {w : World} {x : Value} {b c n m : Nat} {cs xs rest : List Value}
    (hB : Blk w b (cs ++ rest) bty) (h1 : cs.length = n * sz) (hr : rest.length = (c - n) * sz) (hx : Sl lo2 w x m sz xs) (hf : ∀ c ∈ xs, flat c = true) (hcap : n + m ≤ c) :
    (Builtin.append_ #[t, u] ty #[.slice (some ⟨b, 0, none⟩) n c, x]).run P w = .ok (.slice (some ⟨b, 0, none⟩) (n + m) c) { w with heap := w.heap.setIfInBounds b (.cells ((cs ++ xs) ++ rest.drop (m * sz)).toArray bty (0, 0)) } := by
  have hund := Sem.pv_run P _ _ hT.und
  have hsz := Sem.pv_run P _ _ hT.size
  have hu' : ∃ e', ∀ w, (underlying u).run P w = .ok (.slice e') w := by
    split at hu
    · rename_i e' he; exact ⟨e', fun w => Sem.pv_run P _ _ he w⟩
    · cases hu
  obtain ⟨e', hu'⟩ := hu'
  have hxl : xs.length = m * sz := by obtain ⟨_, _, _, _, h, _⟩ := hx; exact h
  have hlen : ∀ w, (Builtin.lenOf x).run P w = .ok m w := by obtain ⟨a, c, rfl, _⟩ := hx; intro w; rfl
  have h2 : (Builtin.firstCells sz m x).run P w = .ok xs.toArray w := by
    have := firstCells_run (P := P) hx m (Nat.le_refl _)
    rwa [List.take_of_length_le (by omega)] at this
  have hmr : m * sz ≤ rest.length := by rw [hr]; exact Nat.mul_le_mul_right _ (by omega)
  have hst := storeCells_run (P := P) xs (n * sz) 0 (cs ++ rest) w hf (by simp; omega) hB
  have e2 : (cs ++ rest).take (n * sz + 0) ++ xs ++ (cs ++ rest).drop (n * sz + 0 + xs.length) = (cs ++ xs) ++ rest.drop (m * sz) := by
    rw [Nat.add_zero, hxl, ← h1, List.take_left, List.drop_append]
    simp
    first | done | (rw [List.drop_of_length_le (by omega)]; simp)
  rw [e2] at hst
  have ha : (⟨b, 0, none⟩ : Addr).add (n * sz) = ⟨b, n * sz, none⟩ := by rw [addr_add]; simp
  simp [Builtin.append_, hund, hsz, hu', hlen, hcap, h2, ha, hst]
/-- Elements of a stretch are set to zero. -/
theorem clear_fit {P : Program} {t e : TypeId} {sz by_ : Nat} {z : Value} (hT : ElemT P t e sz by_ z) (hzf : ∀ x ∈ z.cells.toList, flat x = true) {ty bty : TypeId} {w : World} {b k c n : Nat} {l : List Value} (hB : Blk w b l bty) (hn : 0 < n) (hl : k * sz + n * sz ≤ l.length) :
    (Builtin.clear_ #[t] ty #[.slice (some ⟨b, k * sz, none⟩) n c]).run P w = .ok (.tuple #[]) { w with heap := w.heap.setIfInBounds b (.cells (l.take (k * sz) ++ (List.replicate n z.cells.toList).flatten ++ l.drop (k * sz + n * sz)).toArray bty (0, 0)) } := by
  have hz2 : (Builtin.zeroCells z.cells n).toList = (List.replicate n z.cells.toList).flatten := by
    have := range_map_rep z.cells n (by rw [hT.zsz]; exact hT.pos)
    simp only [Builtin.zeroCells]
    rw [this]
  have hln : (List.replicate n z.cells.toList).flatten.length = n * sz := by
    have : z.cells.toList.length = sz := by rw [Array.length_toList, hT.zsz]
    simp [this]
  have hfl : ∀ x ∈ (List.replicate n z.cells.toList).flatten, flat x = true := by
    intro x hx
    simp only [List.mem_flatten, List.mem_replicate] at hx
    obtain ⟨y, ⟨_, rfl⟩, hx⟩ := hx
    exact hzf x hx
  have hst := storeCells_run (P := P) _ (k * sz) 0 l w hfl (by rw [hln]; omega) hB
  rw [Nat.add_zero, hln] at hst
  obtain ⟨n, rfl⟩ : ∃ q, n = q + 1 := ⟨n - 1, by omega⟩
  have hund := Sem.pv_run P _ _ hT.und
  have hzr := Sem.pv_run P _ _ hT.zero w
  simp only [Builtin.clear_, List.getElem?_toArray, List.getElem?_cons_zero, Sem.run_bind, hund, Result.andThen_ok, hzr, hz2, hst, Sem.run_pure]
theorem flat_rep_len {α : Type} (n : Nat) (l : List α) : (List.replicate n l).flatten.length = n * l.length := by simp
theorem RepC.flat1 {M : Nat → Option Obj} {t : Ty} {x : t.den} {us : List Value} (h : RepC M t x us) : ∀ u ∈ us, flat u = true := (RepL.len [x] us ⟨us, [], by simp, h, rfl⟩).2
/-- What the call leaves. -/
def delY_S {α : Type} (i j : Int) (l : List α) : Option (List α) := if 0 ≤ i ∧ i ≤ j ∧ j ≤ l.length ∧ 0 < l.length then some (l.take i.toNat ++ l.drop j.toNat) else none
/-- What is to be shown of the function's code. -/
def DelFn (P : Program) (f : FuncId) (sz : Nat) : Prop :=
  ∀ (b c n i j : Nat) (vs rest : List Value) (ty : TypeId) (w : World), Blk w b (vs ++ rest) ty → vs.length = n * sz → rest.length = (c - n) * sz → n ≤ c → c ≤ 9223372036854775807 → (∀ x ∈ vs, flat x = true) → n ≤ 1000000 → i ≤ j → j ≤ n → 0 < n →
    Fn P f #[.slice (some ⟨b, 0, none⟩) n c, .int .i64 i, .int .i64 j] w fun v w' => v = .slice (some ⟨b, 0, none⟩) (i + (n - j)) c ∧ Upd [b] w w' ∧
      ∃ rest' : List Value, rest'.length = (c - (i + (n - j))) * sz ∧ Blk w' b (vs.take (i * sz) ++ vs.drop (j * sz) ++ rest') ty
/-- An own list is written in place. -/
theorem Sim.inPlaceY {y : Ty} {g : Gh} {w w' : World} {l l' : List y.den} {b c n : Nat} {cs' rest' : List Value} {ty : TypeId} {h0 : Nat → Option Blk'} (hs : Sim g h0 w) (h00 : h0 0 = some (.lst y l)) (he : g.ρ 0 = some (some (b, c, n))) (h1 : g.ρ 1 = none) (hM : g.M b = none)
    (hU : Upd [b] w w') (hb' : w'.heap[b]? = some (.cells (cs' ++ rest').toArray ty (0, 0))) (hr : RepL g.M y l' cs') (hl : l'.length ≤ 1000000) (hc : l'.length ≤ c ∧ c ≤ 9223372036854775807) (hrl : rest'.length = (c - l'.length) * y.cells) :
    ∃ g', Stp (Sw g h0 (List.range 1)) (fun i => 1 ≤ i ∧ i < 2) g w g' w' ∧ Sim g' (fun i => ([.dead, .lst y l'] : List Blk')[i]?) w' ∧ RepV g' (.ols 1) (.slice (some ⟨b, 0, none⟩) l'.length c) := by
  have hSw : Sw g h0 (List.range 1) b := ⟨0, by simp, _, c, n, h00, rfl, he⟩
  have hsame : ∀ i, i < w.heap.size → i ≠ b → w'.heap[i]? = w.heap[i]? := fun i hi hn => hU.same i hi (by simpa using hn)
  refine ⟨newG g 1 (some (b, c, l'.length)), ⟨hU.os, hU.tape, hU.output, hU.size, fun i hi hn => ?_, newG_ge h1, fun i h2 h3 => ?_, fun i b' c' n' h2 h3 => ?_, fun b' o h2 => .inl h2⟩, ⟨fun b' o h2 => ?_, fun i k hk => ?_, fun i j ki kj b' ci ni cj nj hi hj mi mj ei ej => ?_⟩, .inr ⟨b, c, l'.length, newG_self _ _ _, rfl⟩⟩
  · exact hsame i hi (fun e => hn (e ▸ hSw))
  · by_cases e : i = 1
    · omega
    · simp only [newG, if_neg e] at h3
      exact absurd h2 h3
  · by_cases e : i = 1
    · subst e
      rw [newG_self] at h3
      simp only [Option.some.injEq, Prod.mk.injEq] at h3
      exact .inr (h3.1 ▸ hSw)
    · simp only [newG, if_neg e] at h3
      rw [h2] at h3; cases h3
  · have h2' : g.M b' = some o := h2
    have hbb := hs.mem b' o h2'
    rw [hsame b' (lt_of_blk hbb) (fun e => by rw [e, hM] at h2'; cases h2')]
    exact hbb
  · match i, hk with
    | 0, hk => simp at hk; subst hk; trivial
    | 1, hk =>
      simp at hk; subst hk
      exact ⟨hl, .inr ⟨b, c, cs', rest', ty, newG_self _ _ _, hb', hr, hc, hrl, hM⟩⟩
    | i + 2, hk => simp at hk
  · match i, j, hi, hj with
    | 0, _, hi, _ => simp at hi; subst hi; cases mi
    | _, 0, _, hj => simp at hj; subst hj; cases mj
    | 1, 1, _, _ => rfl
    | i + 2, _, hi, _ => simp at hi
    | _, j + 2, _, hj => simp at hj
abbrev sp_delY (f : FuncId) (y : Ty) : Spec := { f := f, ins := ⟨[.ols 0, .i .i64, .i .i64], [.lst y]⟩, outs := [⟨[.ols 1], [.dead, .lst y]⟩], run := fun p k => (delY_S p.1.2.1 p.1.2.2.1 p.2.1).bind fun r => k (((), ()), ((), r, ())) }
theorem delY_ok {P : Program} {f : FuncId} {y : Ty} (hcall : ∀ args w, (callFunc f args).run P w = .ok (.enter f args) w) (hF : DelFn P f y.cells) : SpecOK P (sp_delY f y) := by
  refine ⟨fun Z p κ => ?_, hcall, fun p r hpr g w vs hv hs hρ => ?_⟩
  · show ((delY_S _ _ _).bind _) = ((delY_S _ _ _).bind _).bind κ
    cases delY_S p.1.2.1 p.1.2.2.1 p.2.1 <;> rfl
  · obtain ⟨⟨⟨⟩, (i : Int), (j : Int), ⟨⟩⟩, (l : List y.den), ⟨⟩⟩ := p
    have hpr' : ((delY_S i j l).bind fun r => some (((), ()), ((), r, ()))) = some r := hpr
    unfold delY_S at hpr'
    split at hpr'
    rotate_left
    · cases hpr'
    rename_i hc
    simp only [Option.bind_some] at hpr'
    cases hpr'
    obtain ⟨hi0, hij, hjl, hl0⟩ := hc
    simp only [encs, enc, RepVs] at hv
    obtain ⟨v0, us, rfl, h0, v1, us1, rfl, h1, v2, us2, rfl, h2, rfl⟩ := hv
    simp only [RepV] at h0 h1 h2
    obtain ⟨rfl, hi1⟩ := h1
    obtain ⟨rfl, hj1⟩ := h2
    have hB := hs.blk 0 (.lst y l) rfl
    obtain ⟨hlen, hB⟩ := hB
    rcases hB with ⟨_, e⟩ | ⟨b, c, cs, rest, ty, e0, hb, hL, hcap, hrest, hM⟩
    · rw [e] at hl0; simp at hl0
    rcases h0 with ⟨e, _⟩ | ⟨b2, c2, n2, e, rfl⟩
    · simp only [id] at e; rw [e0] at e; cases e
    simp only [id] at e
    rw [e0] at e
    simp only [Option.some.injEq, Prod.mk.injEq] at e
    obtain ⟨rfl, rfl, rfl⟩ := e
    obtain ⟨i, rfl⟩ : ∃ k : Nat, i = k := ⟨i.toNat, by omega⟩
    obtain ⟨j, rfl⟩ : ∃ k : Nat, j = k := ⟨j.toNat, by omega⟩
    simp only [Int.toNat_natCast] at *
    obtain ⟨hcl, hfl⟩ := RepL.len _ _ hL
    refine (hF b c l.length i j cs rest ty w hb hcl hrest hcap.1 hcap.2 hfl hlen (by omega) (by omega) hl0).mono ?_
    rintro v w' ⟨rfl, hU, rest', hr', hb'⟩
    have h1 := (RepL.split l cs i hL (by omega)).1
    have h2 := (RepL.split l cs j hL (by omega)).2
    have hsz : (l.take i ++ l.drop j).length = i + (l.length - j) := by simp; omega
    obtain ⟨g', st, hs', hv'⟩ := Sim.inPlaceY (l' := l.take i ++ l.drop j) hs rfl e0 (hρ 1 (Nat.le_refl 1)) hM hU hb' (RepL.append _ _ _ _ h1 h2) (by omega) (by omega) (by rw [hsz]; exact hr')
    rw [hsz] at hv'
    exact ⟨g', st, hs', hv'⟩
end Go.Proofs.Ythncjilcflilcaa

namespace Go.Proofs.Ythncjilcflilcaa
set_option linter.all false
open Go
noncomputable def c89 : Code := (Try.f89.body).getD .skip
noncomputable def K89_0 : List Item := [.code (sub c89 [0]), .code (sub c89 [1])]
noncomputable def K89_1 : List Item := [.code (sub c89 [1, 0]), .code (sub c89 [1, 1])]
noncomputable def K89_2 : List Item := [.code (sub c89 [1, 1, 0, 0]), .code (sub c89 [1, 1, 0, 1]), .code (sub c89 [1, 1, 1])]
noncomputable def K89_c : List Item := [.code (sub c89 [1, 1, 0, 1]), .code (sub c89 [1, 1, 1])]
noncomputable def K89_s : List Item := [.code (sub c89 [1, 1, 0, 1, 0, 0]), .code (sub c89 [1, 1, 0, 1, 0, 1]), .code (sub c89 [1, 1, 1])]
noncomputable def K89_sr : List Item := [.code (sub c89 [1, 1, 0, 1, 0, 1]), .code (sub c89 [1, 1, 1])]
noncomputable def K89_g : List Item := [.code (sub c89 [1, 1, 1, 0]), .code (sub c89 [1, 1, 1, 1])]
noncomputable def K89_5 : List Item := [.code (sub c89 [1, 1, 1, 1, 0]), .code (sub c89 [1, 1, 1, 1, 1])]
noncomputable def K89_6 : List Item := [.code (sub c89 [1, 1, 1, 1, 1, 0]), .code (sub c89 [1, 1, 1, 1, 1, 1])]
noncomputable def K89_7 : List Item := [.code (sub c89 [1, 1, 1, 1, 1, 1, 0]), .code (sub c89 [1, 1, 1, 1, 1, 1, 1])]
noncomputable def K89_r : List Item := [.code (sub c89 [1, 1, 1, 1, 1, 1, 1])]
theorem delll_fn : DelFn Try.prog 89 1 := by
  intro b c n i j vs rest ty w hB hvs hrest hnc hc hfl hn hij hjn h0
  obtain ⟨hue, hel, by_, zv, hT, hZ⟩ := elemT_of (P := Try.prog) (t := 24) (e := 23) (y := (.sl (.int .i64))) (by kernel_rfl)
  have hT : ElemT Try.prog 24 23 1 by_ zv := hT
  have hsz : szOf Try.prog 23 = some 1 := by kernel_rfl
  refine Fn.ofSt (c := c89) 33 K89_0 [(0, (.slice (some ⟨b, 0, none⟩) n c)), (1, (.int .i64 (↑i : Int))), (2, (.int .i64 (↑j : Int)))] Try.func89 (by kernel_rfl) ⟨⟨rfl, by kernel_rfl⟩, by kernel_rfl⟩ (by kernel_rfl) ?_
  intro cs
  refine St.reg K89_1 [(0, true)] (by kernel_rfl) (by kernel_rfl) ?_
  refine RX.q 1 [] [(0, (.slice (some ⟨b, 0, none⟩) n c)), (1, (.int .i64 (↑i : Int))), (2, (.int .i64 (↑j : Int)))] [] (by kernel_rfl) trivial ?_
  refine RX.done [(0, (.slice (some ⟨b, 0, none⟩) n c)), (1, (.int .i64 (↑i : Int))), (2, (.int .i64 (↑j : Int)))] (by kernel_rfl) (by kernel_rfl) ?_
  refine St.reg K89_2 [(0, true), (1, true), (2, true), (3, true), (4, true), (5, true)] (by kernel_rfl) (by kernel_rfl) ?_
  refine RX.q 6 [(5, true, (.slice (if n = i then (some ⟨b, 0, none⟩) else (some (⟨b, 0, none⟩ : Addr)).map (·.add (i * 1))) (j - i) (n - i)))] [(0, (.slice (some ⟨b, 0, none⟩) n c)), (1, (.int .i64 (↑i : Int))), (2, (.int .i64 (↑j : Int)))] [.raw (Instr.sliceAt 24 (.slice (some ⟨b, 0, none⟩) n c) (some (.int .i64 (↑i : Int))) (some (.int .i64 (↑j : Int))) (some (.int .i64 (↑n : Int)))) (.slice (if n = i then (some ⟨b, 0, none⟩) else (some (⟨b, 0, none⟩ : Addr)).map (·.add (i * 1))) (j - i) (n - i))] (by kernel_rfl) (sliceAt3_run hue hsz hij hjn hnc _) ?_
  refine RX.done [(0, (.slice (some ⟨b, 0, none⟩) n c)), (1, (.int .i64 (↑i : Int))), (2, (.int .i64 (↑j : Int)))] (by kernel_rfl) (by kernel_rfl) ?_
  refine St.reg K89_c [(0, true), (1, true), (2, true)] (by kernel_rfl) (by kernel_rfl) ?_
  refine RX.q 3 [] [(0, (.slice (some ⟨b, 0, none⟩) n c)), (1, (.int .i64 (↑i : Int))), (2, (.int .i64 (↑j : Int))), (16, (.bool ((↑i : Int) == (↑j : Int))))] [] (by kernel_rfl) trivial ?_
  refine RX.done [(0, (.slice (some ⟨b, 0, none⟩) n c)), (1, (.int .i64 (↑i : Int))), (2, (.int .i64 (↑j : Int))), (16, (.bool ((↑i : Int) == (↑j : Int))))] (by kernel_rfl) (by kernel_rfl) ?_
  refine St.cond (k1 := K89_s) (k2 := K89_g) ((↑i : Int) == (↑j : Int)) (by kernel_rfl) (fun hq => ?_) (fun hq => ?_)
  · obtain rfl : i = j := by
      have : (i : Int) = j := by simpa using hq
      omega
    refine St.weak (L' := [(0, (.slice (some ⟨b, 0, none⟩) n c))]) (by kernel_rfl) ?_
    refine St.reg K89_sr [(0, true), (1, true)] (by kernel_rfl) (by kernel_rfl) ?_
    refine RX.q 2 [] [(6, (.slice (some ⟨b, 0, none⟩) n c))] [] (by kernel_rfl) trivial ?_
    refine RX.done [(6, (.slice (some ⟨b, 0, none⟩) n c))] (by kernel_rfl) (by kernel_rfl) ?_
    refine St.ret [.tmp 6] [(.slice (some ⟨b, 0, none⟩) n c)] (by kernel_rfl) Try.func89 (by kernel_rfl) (.cons (.tmp (by kernel_rfl)) .nil) ?_
    refine ⟨by rw [show i + (n - i) = n by omega]; rfl, Upd.refl _ w, rest, by rw [hrest, show i + (n - i) = n by omega], by rw [List.take_append_drop]; exact hB⟩
  · have hlt : i < j := by
      have : ¬ i = j := fun h => by subst h; simp at hq
      omega
    refine St.weak (L' := [(0, (.slice (some ⟨b, 0, none⟩) n c)), (1, (.int .i64 (↑i : Int))), (2, (.int .i64 (↑j : Int)))]) (by kernel_rfl) ?_
    refine St.reg K89_5 [(0, true), (1, true), (2, true)] (by kernel_rfl) (by kernel_rfl) ?_
    refine RX.q 3 [] [(0, (.slice (some ⟨b, 0, none⟩) n c)), (1, (.int .i64 (↑i : Int))), (2, (.int .i64 (↑j : Int))), (7, (.int .i64 (↑n : Int)))] [] (by kernel_rfl) trivial ?_
    refine RX.done [(0, (.slice (some ⟨b, 0, none⟩) n c)), (1, (.int .i64 (↑i : Int))), (2, (.int .i64 (↑j : Int))), (7, (.int .i64 (↑n : Int)))] (by kernel_rfl) (by kernel_rfl) ?_
    have e1 : ∀ w', (Instr.sliceAt 24 (.slice (some ⟨b, 0, none⟩) n c) none (some (.int .i64 (↑i : Int))) none).run Try.prog w' = .ok (.slice (some ⟨b, 0, none⟩) i c) w' := fun w' => by
      have := sliceAt_run (P := Try.prog) (a := some ⟨b, 0, none⟩) (n := n) (c := c) (l := 0) (h := i) hue hsz none (some (.i64, (i : Int))) rfl rfl (Nat.zero_le _) (by omega) hnc w'
      have hc0 : ¬ c = 0 := by omega
      simp only [hc0, if_false, Option.map_some, Nat.sub_zero, Nat.zero_mul, Option.map_none] at this
      rw [this, addr_add]
    have e2 : ∀ w', (Instr.sliceAt 24 (.slice (some ⟨b, 0, none⟩) n c) (some (.int .i64 (↑j : Int))) none none).run Try.prog w' = .ok (.slice (if c = j then (some ⟨b, 0, none⟩) else (some (⟨b, 0, none⟩ : Addr)).map (·.add (j * 1))) (n - j) (c - j)) w' := fun w' =>
      sliceAt_run (P := Try.prog) (a := some ⟨b, 0, none⟩) (n := n) (c := c) (l := j) (h := n) hue hsz (some (.i64, (j : Int))) none rfl rfl hjn (Nat.le_refl _) hnc w'
    have hvi : (vs.take (i * 1)).length = i * 1 := by rw [List.length_take, hvs]; exact Nat.min_eq_left (Nat.mul_le_mul_right _ (by omega))
    have hvj : (vs.drop (j * 1)).length = (n - j) * 1 := by rw [List.length_drop, hvs, ← Nat.sub_mul]
    have hvr : (vs.drop (i * 1) ++ rest).length = (c - i) * 1 := by rw [List.length_append, List.length_drop, hvs, hrest, ← Nat.sub_mul, ← Nat.add_mul]; exact congrArg (· * 1) (by omega)
    have spl : vs ++ rest = vs.take (i * 1) ++ (vs.drop (i * 1) ++ rest) := by rw [← List.append_assoc, List.take_append_drop]
    refine St.drw K89_6 [b] [(0, true), (1, true), (2, true), (3, true), (4, true), (5, true), (6, false), (7, true)] mixed (by kernel_rfl) (by kernel_rfl) ?_
    intro w1 hd hds
    refine RX.qd 6 [(2, true, (.slice (some ⟨b, 0, none⟩) i c)), (5, true, (.slice (if c = j then (some ⟨b, 0, none⟩) else (some (⟨b, 0, none⟩ : Addr)).map (·.add (j * 1))) (n - j) (c - j)))] [(0, (.slice (some ⟨b, 0, none⟩) n c)), (1, (.int .i64 (↑i : Int))), (2, (.int .i64 (↑j : Int))), (7, (.int .i64 (↑n : Int))), (22, (.slice (some ⟨b, 0, none⟩) i c)), (25, (.slice (if c = j then (some ⟨b, 0, none⟩) else (some (⟨b, 0, none⟩ : Addr)).map (·.add (j * 1))) (n - j) (c - j)))] [.raw (Instr.sliceAt 24 (.slice (some ⟨b, 0, none⟩) n c) none (some (.int .i64 (↑i : Int))) none) (.slice (some ⟨b, 0, none⟩) i c), .raw (Instr.sliceAt 24 (.slice (some ⟨b, 0, none⟩) n c) (some (.int .i64 (↑j : Int))) none none) (.slice (if c = j then (some ⟨b, 0, none⟩) else (some (⟨b, 0, none⟩ : Addr)).map (·.add (j * 1))) (n - j) (c - j))] (by kernel_rfl) ⟨e1 _, e2 _⟩ ⟨fun w' _ => e1 w', fun w' _ => e2 w'⟩ ?_
    have hB1 : Blk w1 b (vs ++ rest) ty := Ext.blk hd hB
    have hA : Acc 23 1 0 w1 (.slice (some ⟨b, 0, none⟩) i c) i (vs.take (i * 1)) [b] := ⟨hvi, .inr ⟨b, c, vs.drop (i * 1) ++ rest, rfl, rfl, Nat.zero_le _, ⟨by omega, hc⟩, hvr, ty, by rw [← spl]; exact hB1⟩⟩
    have hSl : Sl 0 w1 (.slice (if c = j then (some ⟨b, 0, none⟩) else (some (⟨b, 0, none⟩ : Addr)).map (·.add (j * 1))) (n - j) (c - j)) (n - j) 1 (vs.drop (j * 1)) := by
      refine ⟨_, _, rfl, by omega, hvj, ?_⟩
      by_cases hcj : c = j
      · exact .inl (by apply List.eq_nil_of_length_eq_zero; rw [hvj, show n - j = 0 by omega, Nat.zero_mul])
      · refine .inr ⟨b, j * 1, (by rw [if_neg hcj, Option.map_some, addr_add, Nat.zero_add]), Nat.zero_le _, lt_of_blk hB1, fun x u hx => ?_⟩
        rw [addr_add]
        refine Blk.cell hB1 ?_
        rw [List.getElem?_drop] at hx
        rw [List.getElem?_append_left (List.getElem?_eq_some_iff.1 hx).1]; exact hx
    have hr2 := append_fit (u := 24) (ty := 24) hT (by kernel_rfl) (by rw [← spl]; exact hB1) hvi hvr hSl (fun x hx => hfl x (List.mem_of_mem_drop hx)) (show i + (n - j) ≤ c by omega)
    have hP2 := Put.mk' (.cells ((vs.take (i * 1) ++ vs.drop (j * 1)) ++ (vs.drop (i * 1) ++ rest).drop ((n - j) * 1)).toArray ty (0, 0)) hB1
    refine RX.runD 26 (Builtin.append_ #[24, 24] 24 #[(.slice (some ⟨b, 0, none⟩) i c), (.slice (if c = j then (some ⟨b, 0, none⟩) else (some (⟨b, 0, none⟩ : Addr)).map (·.add (j * 1))) (n - j) (c - j))]) [(0, (.slice (some ⟨b, 0, none⟩) n c)), (1, (.int .i64 (↑i : Int))), (2, (.int .i64 (↑j : Int))), (7, (.int .i64 (↑n : Int))), (22, (.slice (some ⟨b, 0, none⟩) i c)), (25, (.slice (if c = j then (some ⟨b, 0, none⟩) else (some (⟨b, 0, none⟩ : Addr)).map (·.add (j * 1))) (n - j) (c - j)))] (by kernel_rfl) hr2 hP2.upd ?_
    refine RX.qd 1 [] [(0, (.slice (some ⟨b, 0, none⟩) (i + (n - j)) c)), (7, (.int .i64 (↑n : Int)))] [] (by kernel_rfl) trivial trivial ?_
    refine RX.done [(0, (.slice (some ⟨b, 0, none⟩) (i + (n - j)) c)), (7, (.int .i64 (↑n : Int)))] (by kernel_rfl) (by kernel_rfl) ?_
    have hB2 := hP2.blk
    have hU2 := hP2.upd
    clear hP2 hr2
    generalize ({ w1 with heap := w1.heap.setIfInBounds b (.cells ((vs.take (i * 1) ++ vs.drop (j * 1)) ++ (vs.drop (i * 1) ++ rest).drop ((n - j) * 1)).toArray ty (0, 0)) } : World) = w2 at hB2 hU2 ⊢
    have e3 : ∀ w', (Instr.sliceAt 24 (.slice (some ⟨b, 0, none⟩) (i + (n - j)) c) (some (.int .i64 ((i + (n - j) : Nat) : Int))) (some (.int .i64 (↑n : Int))) none).run Try.prog w' = .ok (.slice (some ⟨b, (i + (n - j)) * 1, none⟩) (n - (i + (n - j))) (c - (i + (n - j)))) w' := fun w' => by
      have := sliceAtC_run (P := Try.prog) (a := some ⟨b, 0, none⟩) (n := i + (n - j)) (c := c) (l := i + (n - j)) (h := n) (k1 := .i64) (k2 := .i64) hue hsz (by omega) hnc w'
      have hcl : ¬ c = i + (n - j) := by omega
      rw [if_neg hcl] at this
      rw [this, Option.map_some, addr_add, Nat.zero_add]
    have hvl : (vs.take (i * 1) ++ vs.drop (j * 1)).length = (i + (n - j)) * 1 := by rw [List.length_append, hvi, hvj, ← Nat.add_mul]
    have htl : ((vs.drop (i * 1) ++ rest).drop ((n - j) * 1)).length = (c - (i + (n - j))) * 1 := by rw [List.length_drop, hvr, ← Nat.sub_mul]; exact congrArg (· * 1) (by omega)
    have hr3 := clear_fit (P := Try.prog) (ty := 0) (c := c - (i + (n - j))) hT (RepC.flat1 (hZ (fun _ => none))) hB2 (k := i + (n - j)) (n := n - (i + (n - j))) (by omega) (by rw [List.length_append, hvl, htl, ← Nat.add_mul, ← Nat.add_mul]; exact Nat.mul_le_mul_right _ (by omega))
    have hP3 := Put.mk' (.cells ((vs.take (i * 1) ++ vs.drop (j * 1) ++ (vs.drop (i * 1) ++ rest).drop ((n - j) * 1)).take ((i + (n - j)) * 1) ++ (List.replicate (n - (i + (n - j))) zv.cells.toList).flatten ++ (vs.take (i * 1) ++ vs.drop (j * 1) ++ (vs.drop (i * 1) ++ rest).drop ((n - j) * 1)).drop ((i + (n - j)) * 1 + (n - (i + (n - j))) * 1)).toArray ty (0, 0)) hB2
    refine St.reg K89_7 [(0, true), (1, true), (2, true), (3, true), (4, true), (5, false)] (by kernel_rfl) (by kernel_rfl) ?_
    refine RX.q 5 [(4, true, (.slice (some ⟨b, (i + (n - j)) * 1, none⟩) (n - (i + (n - j))) (c - (i + (n - j)))))] [(0, (.slice (some ⟨b, 0, none⟩) (i + (n - j)) c)), (31, (.slice (some ⟨b, (i + (n - j)) * 1, none⟩) (n - (i + (n - j))) (c - (i + (n - j)))))] [.raw (Instr.sliceAt 24 (.slice (some ⟨b, 0, none⟩) (i + (n - j)) c) (some (.int .i64 ((i + (n - j) : Nat) : Int))) (some (.int .i64 (↑n : Int))) none) (.slice (some ⟨b, (i + (n - j)) * 1, none⟩) (n - (i + (n - j))) (c - (i + (n - j))))] (by kernel_rfl) (e3 _) ?_
    refine RX.run0 (Builtin.clear_ #[24] 0 #[(.slice (some ⟨b, (i + (n - j)) * 1, none⟩) (n - (i + (n - j))) (c - (i + (n - j))))]) (by kernel_rfl) hr3 ?_
    refine RX.done [(0, (.slice (some ⟨b, 0, none⟩) (i + (n - j)) c))] (by kernel_rfl) (by kernel_rfl) ?_
    have hB3 := hP3.blk
    have hU3 := hP3.upd
    clear hP3 hr3
    generalize ({ w2 with heap := w2.heap.setIfInBounds b _ } : World) = w3 at hB3 hU3 ⊢
    refine St.reg K89_r [(0, true), (1, true)] (by kernel_rfl) (by kernel_rfl) ?_
    refine RX.q 2 [] [(6, (.slice (some ⟨b, 0, none⟩) (i + (n - j)) c))] [] (by kernel_rfl) trivial ?_
    refine RX.done [(6, (.slice (some ⟨b, 0, none⟩) (i + (n - j)) c))] (by kernel_rfl) (by kernel_rfl) ?_
    refine St.ret [.tmp 6] [(.slice (some ⟨b, 0, none⟩) (i + (n - j)) c)] (by kernel_rfl) Try.func89 (by kernel_rfl) (.cons (.tmp (by kernel_rfl)) .nil) ?_
    rw [List.take_left' hvl, List.append_assoc] at hB3
    refine ⟨rfl, ((Ext.up hd).trans hU2).trans hU3, _, ?_, hB3⟩
    have hzl : zv.cells.toList.length = 1 := by rw [Array.length_toList, hT.zsz]
    simp only [List.length_append, flat_rep_len, hzl, List.length_drop, List.length_take, hvs, hrest]
    omega
def delll_S (_N : Nat) (i j : Int) (l : List (List Int)) : Option (List (List Int)) := delY_S i j l
noncomputable def sp_delll (N : Nat) : Spec := { f := 89, ins := ⟨[.ols 0, .i .i64, .i .i64], [.lst (.sl (.int .i64))]⟩, outs := [⟨[.ols 1], [.dead, .lst (.sl (.int .i64))]⟩], run := fun p k => (delll_S N p.1.2.1 p.1.2.2.1 p.2.1).bind fun r => k (((), ()), ((), r, ())) }
theorem sp_delll_ok (N : Nat) : SpecOK Try.prog (sp_delll N) := delY_ok (f := 89) (y := (.sl (.int .i64))) (fun args w => Sem.pv_run _ _ _ (by kernel_rfl) w) delll_fn
end Go.Proofs.Ythncjilcflilcaa

namespace Go.Proofs.Ythncjilcflilcaa
set_option linter.all false
open Go
noncomputable def c90 : Code := (Try.f90.body).getD .skip
noncomputable def K90_0 : List Item := [.code (sub c90 [0]), .code (sub c90 [1])]
noncomputable def K90_1 : List Item := [.code (sub c90 [1, 0]), .code (sub c90 [1, 1])]
noncomputable def K90_2 : List Item := [.code (sub c90 [1, 1, 0, 0]), .code (sub c90 [1, 1, 0, 1]), .code (sub c90 [1, 1, 1])]
noncomputable def K90_c : List Item := [.code (sub c90 [1, 1, 0, 1]), .code (sub c90 [1, 1, 1])]
noncomputable def K90_s : List Item := [.code (sub c90 [1, 1, 0, 1, 0, 0]), .code (sub c90 [1, 1, 0, 1, 0, 1]), .code (sub c90 [1, 1, 1])]
noncomputable def K90_sr : List Item := [.code (sub c90 [1, 1, 0, 1, 0, 1]), .code (sub c90 [1, 1, 1])]
noncomputable def K90_g : List Item := [.code (sub c90 [1, 1, 1, 0]), .code (sub c90 [1, 1, 1, 1])]
noncomputable def K90_5 : List Item := [.code (sub c90 [1, 1, 1, 1, 0]), .code (sub c90 [1, 1, 1, 1, 1])]
noncomputable def K90_6 : List Item := [.code (sub c90 [1, 1, 1, 1, 1, 0]), .code (sub c90 [1, 1, 1, 1, 1, 1])]
noncomputable def K90_7 : List Item := [.code (sub c90 [1, 1, 1, 1, 1, 1, 0]), .code (sub c90 [1, 1, 1, 1, 1, 1, 1])]
noncomputable def K90_r : List Item := [.code (sub c90 [1, 1, 1, 1, 1, 1, 1])]
theorem delli_fn : DelFn Try.prog 90 1 := by
  intro b c n i j vs rest ty w hB hvs hrest hnc hc hfl hn hij hjn h0
  obtain ⟨hue, hel, by_, zv, hT, hZ⟩ := elemT_of (P := Try.prog) (t := 23) (e := 3) (y := (.int .i64)) (by kernel_rfl)
  have hT : ElemT Try.prog 23 3 1 by_ zv := hT
  have hsz : szOf Try.prog 3 = some 1 := by kernel_rfl
  refine Fn.ofSt (c := c90) 33 K90_0 [(0, (.slice (some ⟨b, 0, none⟩) n c)), (1, (.int .i64 (↑i : Int))), (2, (.int .i64 (↑j : Int)))] Try.func90 (by kernel_rfl) ⟨⟨rfl, by kernel_rfl⟩, by kernel_rfl⟩ (by kernel_rfl) ?_
  intro cs
  refine St.reg K90_1 [(0, true)] (by kernel_rfl) (by kernel_rfl) ?_
  refine RX.q 1 [] [(0, (.slice (some ⟨b, 0, none⟩) n c)), (1, (.int .i64 (↑i : Int))), (2, (.int .i64 (↑j : Int)))] [] (by kernel_rfl) trivial ?_
  refine RX.done [(0, (.slice (some ⟨b, 0, none⟩) n c)), (1, (.int .i64 (↑i : Int))), (2, (.int .i64 (↑j : Int)))] (by kernel_rfl) (by kernel_rfl) ?_
  refine St.reg K90_2 [(0, true), (1, true), (2, true), (3, true), (4, true), (5, true)] (by kernel_rfl) (by kernel_rfl) ?_
  refine RX.q 6 [(5, true, (.slice (if n = i then (some ⟨b, 0, none⟩) else (some (⟨b, 0, none⟩ : Addr)).map (·.add (i * 1))) (j - i) (n - i)))] [(0, (.slice (some ⟨b, 0, none⟩) n c)), (1, (.int .i64 (↑i : Int))), (2, (.int .i64 (↑j : Int)))] [.raw (Instr.sliceAt 23 (.slice (some ⟨b, 0, none⟩) n c) (some (.int .i64 (↑i : Int))) (some (.int .i64 (↑j : Int))) (some (.int .i64 (↑n : Int)))) (.slice (if n = i then (some ⟨b, 0, none⟩) else (some (⟨b, 0, none⟩ : Addr)).map (·.add (i * 1))) (j - i) (n - i))] (by kernel_rfl) (sliceAt3_run hue hsz hij hjn hnc _) ?_
  refine RX.done [(0, (.slice (some ⟨b, 0, none⟩) n c)), (1, (.int .i64 (↑i : Int))), (2, (.int .i64 (↑j : Int)))] (by kernel_rfl) (by kernel_rfl) ?_
  refine St.reg K90_c [(0, true), (1, true), (2, true)] (by kernel_rfl) (by kernel_rfl) ?_
  refine RX.q 3 [] [(0, (.slice (some ⟨b, 0, none⟩) n c)), (1, (.int .i64 (↑i : Int))), (2, (.int .i64 (↑j : Int))), (16, (.bool ((↑i : Int) == (↑j : Int))))] [] (by kernel_rfl) trivial ?_
  refine RX.done [(0, (.slice (some ⟨b, 0, none⟩) n c)), (1, (.int .i64 (↑i : Int))), (2, (.int .i64 (↑j : Int))), (16, (.bool ((↑i : Int) == (↑j : Int))))] (by kernel_rfl) (by kernel_rfl) ?_
  refine St.cond (k1 := K90_s) (k2 := K90_g) ((↑i : Int) == (↑j : Int)) (by kernel_rfl) (fun hq => ?_) (fun hq => ?_)
  · obtain rfl : i = j := by
      have : (i : Int) = j := by simpa using hq
      omega
    refine St.weak (L' := [(0, (.slice (some ⟨b, 0, none⟩) n c))]) (by kernel_rfl) ?_
    refine St.reg K90_sr [(0, true), (1, true)] (by kernel_rfl) (by kernel_rfl) ?_
    refine RX.q 2 [] [(6, (.slice (some ⟨b, 0, none⟩) n c))] [] (by kernel_rfl) trivial ?_
    refine RX.done [(6, (.slice (some ⟨b, 0, none⟩) n c))] (by kernel_rfl) (by kernel_rfl) ?_
    refine St.ret [.tmp 6] [(.slice (some ⟨b, 0, none⟩) n c)] (by kernel_rfl) Try.func90 (by kernel_rfl) (.cons (.tmp (by kernel_rfl)) .nil) ?_
    refine ⟨by rw [show i + (n - i) = n by omega]; rfl, Upd.refl _ w, rest, by rw [hrest, show i + (n - i) = n by omega], by rw [List.take_append_drop]; exact hB⟩
  · have hlt : i < j := by
      have : ¬ i = j := fun h => by subst h; simp at hq
      omega
    refine St.weak (L' := [(0, (.slice (some ⟨b, 0, none⟩) n c)), (1, (.int .i64 (↑i : Int))), (2, (.int .i64 (↑j : Int)))]) (by kernel_rfl) ?_
    refine St.reg K90_5 [(0, true), (1, true), (2, true)] (by kernel_rfl) (by kernel_rfl) ?_
    refine RX.q 3 [] [(0, (.slice (some ⟨b, 0, none⟩) n c)), (1, (.int .i64 (↑i : Int))), (2, (.int .i64 (↑j : Int))), (7, (.int .i64 (↑n : Int)))] [] (by kernel_rfl) trivial ?_
    refine RX.done [(0, (.slice (some ⟨b, 0, none⟩) n c)), (1, (.int .i64 (↑i : Int))), (2, (.int .i64 (↑j : Int))), (7, (.int .i64 (↑n : Int)))] (by kernel_rfl) (by kernel_rfl) ?_
    have e1 : ∀ w', (Instr.sliceAt 23 (.slice (some ⟨b, 0, none⟩) n c) none (some (.int .i64 (↑i : Int))) none).run Try.prog w' = .ok (.slice (some ⟨b, 0, none⟩) i c) w' := fun w' => by
      have := sliceAt_run (P := Try.prog) (a := some ⟨b, 0, none⟩) (n := n) (c := c) (l := 0) (h := i) hue hsz none (some (.i64, (i : Int))) rfl rfl (Nat.zero_le _) (by omega) hnc w'
      have hc0 : ¬ c = 0 := by omega
      simp only [hc0, if_false, Option.map_some, Nat.sub_zero, Nat.zero_mul, Option.map_none] at this
      rw [this, addr_add]
    have e2 : ∀ w', (Instr.sliceAt 23 (.slice (some ⟨b, 0, none⟩) n c) (some (.int .i64 (↑j : Int))) none none).run Try.prog w' = .ok (.slice (if c = j then (some ⟨b, 0, none⟩) else (some (⟨b, 0, none⟩ : Addr)).map (·.add (j * 1))) (n - j) (c - j)) w' := fun w' =>
      sliceAt_run (P := Try.prog) (a := some ⟨b, 0, none⟩) (n := n) (c := c) (l := j) (h := n) hue hsz (some (.i64, (j : Int))) none rfl rfl hjn (Nat.le_refl _) hnc w'
    have hvi : (vs.take (i * 1)).length = i * 1 := by rw [List.length_take, hvs]; exact Nat.min_eq_left (Nat.mul_le_mul_right _ (by omega))
    have hvj : (vs.drop (j * 1)).length = (n - j) * 1 := by rw [List.length_drop, hvs, ← Nat.sub_mul]
    have hvr : (vs.drop (i * 1) ++ rest).length = (c - i) * 1 := by rw [List.length_append, List.length_drop, hvs, hrest, ← Nat.sub_mul, ← Nat.add_mul]; exact congrArg (· * 1) (by omega)
    have spl : vs ++ rest = vs.take (i * 1) ++ (vs.drop (i * 1) ++ rest) := by rw [← List.append_assoc, List.take_append_drop]
    refine St.drw K90_6 [b] [(0, true), (1, true), (2, true), (3, true), (4, true), (5, true), (6, false), (7, true)] mixed (by kernel_rfl) (by kernel_rfl) ?_
    intro w1 hd hds
    refine RX.qd 6 [(2, true, (.slice (some ⟨b, 0, none⟩) i c)), (5, true, (.slice (if c = j then (some ⟨b, 0, none⟩) else (some (⟨b, 0, none⟩ : Addr)).map (·.add (j * 1))) (n - j) (c - j)))] [(0, (.slice (some ⟨b, 0, none⟩) n c)), (1, (.int .i64 (↑i : Int))), (2, (.int .i64 (↑j : Int))), (7, (.int .i64 (↑n : Int))), (22, (.slice (some ⟨b, 0, none⟩) i c)), (25, (.slice (if c = j then (some ⟨b, 0, none⟩) else (some (⟨b, 0, none⟩ : Addr)).map (·.add (j * 1))) (n - j) (c - j)))] [.raw (Instr.sliceAt 23 (.slice (some ⟨b, 0, none⟩) n c) none (some (.int .i64 (↑i : Int))) none) (.slice (some ⟨b, 0, none⟩) i c), .raw (Instr.sliceAt 23 (.slice (some ⟨b, 0, none⟩) n c) (some (.int .i64 (↑j : Int))) none none) (.slice (if c = j then (some ⟨b, 0, none⟩) else (some (⟨b, 0, none⟩ : Addr)).map (·.add (j * 1))) (n - j) (c - j))] (by kernel_rfl) ⟨e1 _, e2 _⟩ ⟨fun w' _ => e1 w', fun w' _ => e2 w'⟩ ?_
    have hB1 : Blk w1 b (vs ++ rest) ty := Ext.blk hd hB
    have hA : Acc 3 1 0 w1 (.slice (some ⟨b, 0, none⟩) i c) i (vs.take (i * 1)) [b] := ⟨hvi, .inr ⟨b, c, vs.drop (i * 1) ++ rest, rfl, rfl, Nat.zero_le _, ⟨by omega, hc⟩, hvr, ty, by rw [← spl]; exact hB1⟩⟩
    have hSl : Sl 0 w1 (.slice (if c = j then (some ⟨b, 0, none⟩) else (some (⟨b, 0, none⟩ : Addr)).map (·.add (j * 1))) (n - j) (c - j)) (n - j) 1 (vs.drop (j * 1)) := by
      refine ⟨_, _, rfl, by omega, hvj, ?_⟩
      by_cases hcj : c = j
      · exact .inl (by apply List.eq_nil_of_length_eq_zero; rw [hvj, show n - j = 0 by omega, Nat.zero_mul])
      · refine .inr ⟨b, j * 1, (by rw [if_neg hcj, Option.map_some, addr_add, Nat.zero_add]), Nat.zero_le _, lt_of_blk hB1, fun x u hx => ?_⟩
        rw [addr_add]
        refine Blk.cell hB1 ?_
        rw [List.getElem?_drop] at hx
        rw [List.getElem?_append_left (List.getElem?_eq_some_iff.1 hx).1]; exact hx
    have hr2 := append_fit (u := 23) (ty := 23) hT (by kernel_rfl) (by rw [← spl]; exact hB1) hvi hvr hSl (fun x hx => hfl x (List.mem_of_mem_drop hx)) (show i + (n - j) ≤ c by omega)
    have hP2 := Put.mk' (.cells ((vs.take (i * 1) ++ vs.drop (j * 1)) ++ (vs.drop (i * 1) ++ rest).drop ((n - j) * 1)).toArray ty (0, 0)) hB1
    refine RX.runD 26 (Builtin.append_ #[23, 23] 23 #[(.slice (some ⟨b, 0, none⟩) i c), (.slice (if c = j then (some ⟨b, 0, none⟩) else (some (⟨b, 0, none⟩ : Addr)).map (·.add (j * 1))) (n - j) (c - j))]) [(0, (.slice (some ⟨b, 0, none⟩) n c)), (1, (.int .i64 (↑i : Int))), (2, (.int .i64 (↑j : Int))), (7, (.int .i64 (↑n : Int))), (22, (.slice (some ⟨b, 0, none⟩) i c)), (25, (.slice (if c = j then (some ⟨b, 0, none⟩) else (some (⟨b, 0, none⟩ : Addr)).map (·.add (j * 1))) (n - j) (c - j)))] (by kernel_rfl) hr2 hP2.upd ?_
    refine RX.qd 1 [] [(0, (.slice (some ⟨b, 0, none⟩) (i + (n - j)) c)), (7, (.int .i64 (↑n : Int)))] [] (by kernel_rfl) trivial trivial ?_
    refine RX.done [(0, (.slice (some ⟨b, 0, none⟩) (i + (n - j)) c)), (7, (.int .i64 (↑n : Int)))] (by kernel_rfl) (by kernel_rfl) ?_
    have hB2 := hP2.blk
    have hU2 := hP2.upd
    clear hP2 hr2
    generalize ({ w1 with heap := w1.heap.setIfInBounds b (.cells ((vs.take (i * 1) ++ vs.drop (j * 1)) ++ (vs.drop (i * 1) ++ rest).drop ((n - j) * 1)).toArray ty (0, 0)) } : World) = w2 at hB2 hU2 ⊢
    have e3 : ∀ w', (Instr.sliceAt 23 (.slice (some ⟨b, 0, none⟩) (i + (n - j)) c) (some (.int .i64 ((i + (n - j) : Nat) : Int))) (some (.int .i64 (↑n : Int))) none).run Try.prog w' = .ok (.slice (some ⟨b, (i + (n - j)) * 1, none⟩) (n - (i + (n - j))) (c - (i + (n - j)))) w' := fun w' => by
      have := sliceAtC_run (P := Try.prog) (a := some ⟨b, 0, none⟩) (n := i + (n - j)) (c := c) (l := i + (n - j)) (h := n) (k1 := .i64) (k2 := .i64) hue hsz (by omega) hnc w'
      have hcl : ¬ c = i + (n - j) := by omega
      rw [if_neg hcl] at this
      rw [this, Option.map_some, addr_add, Nat.zero_add]
    have hvl : (vs.take (i * 1) ++ vs.drop (j * 1)).length = (i + (n - j)) * 1 := by rw [List.length_append, hvi, hvj, ← Nat.add_mul]
    have htl : ((vs.drop (i * 1) ++ rest).drop ((n - j) * 1)).length = (c - (i + (n - j))) * 1 := by rw [List.length_drop, hvr, ← Nat.sub_mul]; exact congrArg (· * 1) (by omega)
    have hr3 := clear_fit (P := Try.prog) (ty := 0) (c := c - (i + (n - j))) hT (RepC.flat1 (hZ (fun _ => none))) hB2 (k := i + (n - j)) (n := n - (i + (n - j))) (by omega) (by rw [List.length_append, hvl, htl, ← Nat.add_mul, ← Nat.add_mul]; exact Nat.mul_le_mul_right _ (by omega))
    have hP3 := Put.mk' (.cells ((vs.take (i * 1) ++ vs.drop (j * 1) ++ (vs.drop (i * 1) ++ rest).drop ((n - j) * 1)).take ((i + (n - j)) * 1) ++ (List.replicate (n - (i + (n - j))) zv.cells.toList).flatten ++ (vs.take (i * 1) ++ vs.drop (j * 1) ++ (vs.drop (i * 1) ++ rest).drop ((n - j) * 1)).drop ((i + (n - j)) * 1 + (n - (i + (n - j))) * 1)).toArray ty (0, 0)) hB2
    refine St.reg K90_7 [(0, true), (1, true), (2, true), (3, true), (4, true), (5, false)] (by kernel_rfl) (by kernel_rfl) ?_
    refine RX.q 5 [(4, true, (.slice (some ⟨b, (i + (n - j)) * 1, none⟩) (n - (i + (n - j))) (c - (i + (n - j)))))] [(0, (.slice (some ⟨b, 0, none⟩) (i + (n - j)) c)), (31, (.slice (some ⟨b, (i + (n - j)) * 1, none⟩) (n - (i + (n - j))) (c - (i + (n - j)))))] [.raw (Instr.sliceAt 23 (.slice (some ⟨b, 0, none⟩) (i + (n - j)) c) (some (.int .i64 ((i + (n - j) : Nat) : Int))) (some (.int .i64 (↑n : Int))) none) (.slice (some ⟨b, (i + (n - j)) * 1, none⟩) (n - (i + (n - j))) (c - (i + (n - j))))] (by kernel_rfl) (e3 _) ?_
    refine RX.run0 (Builtin.clear_ #[23] 0 #[(.slice (some ⟨b, (i + (n - j)) * 1, none⟩) (n - (i + (n - j))) (c - (i + (n - j))))]) (by kernel_rfl) hr3 ?_
    refine RX.done [(0, (.slice (some ⟨b, 0, none⟩) (i + (n - j)) c))] (by kernel_rfl) (by kernel_rfl) ?_
    have hB3 := hP3.blk
    have hU3 := hP3.upd
    clear hP3 hr3
    generalize ({ w2 with heap := w2.heap.setIfInBounds b _ } : World) = w3 at hB3 hU3 ⊢
    refine St.reg K90_r [(0, true), (1, true)] (by kernel_rfl) (by kernel_rfl) ?_
    refine RX.q 2 [] [(6, (.slice (some ⟨b, 0, none⟩) (i + (n - j)) c))] [] (by kernel_rfl) trivial ?_
    refine RX.done [(6, (.slice (some ⟨b, 0, none⟩) (i + (n - j)) c))] (by kernel_rfl) (by kernel_rfl) ?_
    refine St.ret [.tmp 6] [(.slice (some ⟨b, 0, none⟩) (i + (n - j)) c)] (by kernel_rfl) Try.func90 (by kernel_rfl) (.cons (.tmp (by kernel_rfl)) .nil) ?_
    rw [List.take_left' hvl, List.append_assoc] at hB3
    refine ⟨rfl, ((Ext.up hd).trans hU2).trans hU3, _, ?_, hB3⟩
    have hzl : zv.cells.toList.length = 1 := by rw [Array.length_toList, hT.zsz]
    simp only [List.length_append, flat_rep_len, hzl, List.length_drop, List.length_take, hvs, hrest]
    omega
def delli_S (_N : Nat) (i j : Int) (l : List Int) : Option (List Int) := delY_S i j l
noncomputable def sp_delli (N : Nat) : Spec := { f := 90, ins := ⟨[.ols 0, .i .i64, .i .i64], [.lst (.int .i64)]⟩, outs := [⟨[.ols 1], [.dead, .lst (.int .i64)]⟩], run := fun p k => (delli_S N p.1.2.1 p.1.2.2.1 p.2.1).bind fun r => k (((), ()), ((), r, ())) }
theorem sp_delli_ok (N : Nat) : SpecOK Try.prog (sp_delli N) := delY_ok (f := 90) (y := (.int .i64)) (fun args w => Sem.pv_run _ _ _ (by kernel_rfl) w) delli_fn
end Go.Proofs.Ythncjilcflilcaa

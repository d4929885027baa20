/-
  Parts of a proof, put together: Pl23, Pl24, Pl25, Pl26.
  Conditions: none.
-/
import Derived.Test.YtfcnhnbnjdccfaaZf
namespace Go.Proofs.Ytfcnhnbnjdccfaa
set_option linter.all false
open Go

section
variable {N : Nat} {T : List (List Int)} {H A B : List Int} {f a b : Int}
theorem rdx_side : ∀ (n : Nat) (x : At3), ∀ r ∈ rdx H A B n x, ∀ q ∈ r, q.1 = 1 ∨ q.1 = 2 ∨ q.1 = 3
  | 0, x, r, hr, q, hq => by simp [rdx] at hr; subst hr; cases hq
  | n + 1, x, r, hr, q, hq => by
    obtain ⟨m, hm, h⟩ := List.mem_flatMap.1 hr
    obtain ⟨r', hr', rfl⟩ := List.mem_map.1 h
    rcases List.mem_cons.1 hq with rfl | hq
    · simp only [movesL, List.mem_cons, List.mem_append, List.mem_map] at hm
      rcases hm with rfl | ⟨j, _, rfl⟩ | ⟨j, _, rfl⟩ <;> simp
    · exact rdx_side n m.2 r' hr' q hq
theorem rsure_one {i : Nat} (hi : i < H.length) {r0 : List (Int × Int)} (h0 : r0 ∈ bestR H A B) : (if ((bestR H A B).all fun r => decide ((r.getD i (0, 0)).1 = (r0.getD i (0, 0)).1)) = true then (r0.getD i (0, 0)).1 else 0) = sureV H A B i := by
  have hl := bestR_len h0
  have hm : r0.getD i (0, 0) ∈ r0 := getD_mem (by omega)
  have hs := rdx_side (H := H) (A := A) (B := B) H.length (0, 0, 0) r0 (List.mem_filter.1 h0).1 _ hm
  have e : ((bestR H A B).all fun r => decide ((r.getD i (0, 0)).1 = (r0.getD i (0, 0)).1)) = allS H A B i (r0.getD i (0, 0)).1 := rfl
  have one : ∀ s, allS H A B i s = true → s = (r0.getD i (0, 0)).1 := fun s h => by
    have := List.all_eq_true.1 h r0 h0
    simp only [decide_eq_true_eq] at this
    omega
  rw [e]
  generalize (r0.getD i (0, 0)).1 = s0 at *
  unfold sureV
  by_cases c1 : allS H A B i 1 = true
  · have := one 1 c1
    subst this
    rw [if_pos c1, if_pos c1]
  · rw [if_neg c1]
    by_cases c2 : allS H A B i 2 = true
    · have := one 2 c2
      subst this
      rw [if_pos c2, if_pos c2]
    · rw [if_neg c2]
      by_cases c3 : allS H A B i 3 = true
      · have := one 3 c3
        subst this
        rw [if_pos c3]
      · rw [if_neg c3]
        rcases hs with rfl | rfl | rfl
        · rw [if_neg c1]
        · rw [if_neg c2]
        · rw [if_neg c3]
theorem count_v2 (hN : 20 ≤ N) (h : openE T H f a b = 0) : count_S N T H f a b = some (((bestR H (T.getD a.toNat []) (T.getD b.toNat [])).length : Int), 0) := by
  unfold count_S
  obtain ⟨hF, ha, hb, e⟩ := opened_good hN h
  have hH := hF.h
  have lA := hF.l (T.getD a.toNat []) (getD_mem (by omega))
  have lB := hF.l (T.getD b.toNat []) (getD_mem (by omega))
  rw [e]
  simp only [Option.bind_some, decide_true, Bool.not_true, br_false, all_S]
  rw [firsta_v (by omega) hH lA.2 lB.2]
  simp only [Option.bind_some]
  rw [rdAll_count, List.countP_eq_length_filter]
  rfl
end
end Go.Proofs.Ytfcnhnbnjdccfaa

namespace Go.Proofs.Ytfcnhnbnjdccfaa
set_option linter.all false
open Go

section
variable {N : Nat} {T : List (List Int)} {H A B : List Int} {f : Int}
theorem indexi_r {s : List Int} {v : Int} (hs : s.length ≤ 1000) (hN : s.length < N) : Ok (indexi_S N s v) fun j => -1 ≤ j ∧ j < s.length := by
  unfold indexi_S
  rw [indexi_gen]
  refine Ok.bind (ixL_ok (f := fun x => some (decide (v = x))) (p := fun x => decide (v = x)) (s := s) (fun _ _ => rfl) (by omega) N 0 (by omega) (by omega)) (fun r hr => ?_)
  cases r with
  | inl i => exact Ok.some (by have := hr.1; omega)
  | inr u => exact Ok.some (by omega)
theorem tried_l1_p (hN : 20 ≤ N) (hA : A.length ≤ 6) (hB : B.length ≤ 6) (hH : H.length ≤ 10) {p p2 : Int} (hp : 0 ≤ p) (hp2 : 0 ≤ p2) (hTa : T[p.toNat]? = some A) (hTb : T[p2.toNat]? = some B) {b : List Int} : ∀ (n h : Nat) (i k b2 b3 : Int) (out : List (Int × Int)), H.length < n + h → h ≤ H.length → out.length = h → (0 ≤ i ∧ i ≤ A.length) → (0 ≤ k ∧ k ≤ B.length) → Bell b b2 →
    Ok (tried_l1 N n i k H (H.length : Int) h b b2 b3 T H f p p2 out) fun r => BellR b (r.1, r.2.1, r.2.2.1) ∧ r.2.2.2.length = H.length
  | 0, h, i, k, b2, b3, out, hn, hh, ho, hi, hk, hb => by omega
  | n + 1, h, i, k, b2, b3, out, hn, hh, ho, hi, hk, hb => by
    rw [tried_l1]
    refine Ok.brd (fun c => ?_) (fun c => Ok.some ⟨⟨rfl, hb⟩, by dsimp only; omega⟩)
    refine Ok.idx (by omega) (by omega) (fun w _ _ => ?_)
    rw [idx_eq hp hTa]
    refine Ok.grd (by simp only [decide_eq_true_eq]; exact hi) (Ok.bind (indexi_r (by rw [List.length_drop]; omega) (by rw [List.length_drop]; omega)) (fun x3 h3 => ?_))
    rw [idx_eq hp2 hTb]
    refine Ok.grd (by simp only [decide_eq_true_eq]; exact hk) (Ok.bind (indexi_r (by rw [List.length_drop]; omega) (by rw [List.length_drop]; omega)) (fun x5 h5 => ?_))
    rw [List.length_drop] at h3 h5
    have J : ∀ (i' k' y2 y3 q q2 : Int), (0 ≤ i' ∧ i' ≤ A.length) → (0 ≤ k' ∧ k' ≤ B.length) → Bell b y2 → Ok (tried_j1 N (tried_l1 N n) i' k' H (H.length : Int) h b y2 y3 T H f p p2 out q q2) fun r => BellR b (r.1, r.2.1, r.2.2.1) ∧ r.2.2.2.length = H.length := by
      intro i' k' y2 y3 q q2 hi' hk' hb'
      unfold tried_j1
      refine Ok.lim (by simp; omega) (Ok.chk (by omega) ?_)
      have := tried_l1_p hN hA hB hH hp hp2 hTa hTb (b := b) n (h + 1) i' k' y2 y3 (out ++ [(q, q2)]) (by omega) (by omega) (by simp; omega) hi' hk' hb'
      rw [show ((h + 1 : Nat) : Int) = (h : Int) + 1 by omega] at this
      exact this
    refine Ok.brd (fun c3 => ?_) (fun c3 => ?_)
    · refine Ok.brd (fun c4 => ?_) (fun c4 => ?_)
      · refine Ok.bind (seldom_ok N hb (by omega)) (fun r hr => ?_)
        obtain ⟨s1, b1, z1, v1⟩ := r
        obtain ⟨hr1, hb1⟩ := hr
        dsimp only at hr1 hb1 ⊢
        subst hr1
        refine Ok.br (fun _ => ?_) (fun _ => ?_)
        · exact Ok.chk (by omega) (Ok.chk (by omega) (J _ _ _ _ _ _ (by omega) hk hb1))
        · refine Ok.brd (fun c5 => ?_) (fun _ => J _ _ _ _ _ _ hi hk hb1)
          refine Ok.bind (seldom_ok N hb1 (by omega)) (fun r hr => ?_)
          obtain ⟨s2, b2, z2, v2⟩ := r
          obtain ⟨hr1, hb2⟩ := hr
          dsimp only at hr1 hb2 ⊢
          subst hr1
          refine Ok.br (fun _ => ?_) (fun _ => J _ _ _ _ _ _ hi hk hb2)
          exact Ok.chk (by omega) (Ok.chk (by omega) (J _ _ _ _ _ _ hi (by omega) hb2))
      · refine Ok.bind (seldom_ok N hb (by omega)) (fun r hr => ?_)
        obtain ⟨s1, b1, z1, v1⟩ := r
        obtain ⟨hr1, hb1⟩ := hr
        dsimp only at hr1 hb1 ⊢
        subst hr1
        refine Ok.br (fun _ => ?_) (fun _ => ?_)
        · refine Ok.bind (seldom_ok N hb1 (by omega)) (fun r hr => ?_)
          obtain ⟨s2, b2, z2, v2⟩ := r
          obtain ⟨hr1, hb2⟩ := hr
          dsimp only at hr1 hb2 ⊢
          subst hr1
          refine Ok.br (fun _ => ?_) (fun _ => ?_)
          · exact Ok.chk (by omega) (Ok.chk (by omega) (J _ _ _ _ _ _ (by omega) hk hb2))
          · refine Ok.brd (fun c5 => ?_) (fun _ => J _ _ _ _ _ _ hi hk hb2)
            refine Ok.bind (seldom_ok N hb2 (by omega)) (fun r hr => ?_)
            obtain ⟨s3, b3, z3, v3⟩ := r
            obtain ⟨hr1, hb3⟩ := hr
            dsimp only at hr1 hb3 ⊢
            subst hr1
            refine Ok.br (fun _ => ?_) (fun _ => J _ _ _ _ _ _ hi hk hb3)
            exact Ok.chk (by omega) (Ok.chk (by omega) (J _ _ _ _ _ _ hi (by omega) hb3))
        · refine Ok.brd (fun c5 => ?_) (fun _ => J _ _ _ _ _ _ hi hk hb1)
          refine Ok.bind (seldom_ok N hb1 (by omega)) (fun r hr => ?_)
          obtain ⟨s2, b2, z2, v2⟩ := r
          obtain ⟨hr1, hb2⟩ := hr
          dsimp only at hr1 hb2 ⊢
          subst hr1
          refine Ok.br (fun _ => ?_) (fun _ => J _ _ _ _ _ _ hi hk hb2)
          exact Ok.chk (by omega) (Ok.chk (by omega) (J _ _ _ _ _ _ hi (by omega) hb2))
    · refine Ok.brd (fun c5 => ?_) (fun _ => J _ _ _ _ _ _ hi hk hb)
      refine Ok.bind (seldom_ok N hb (by omega)) (fun r hr => ?_)
      obtain ⟨s1, b1, z1, v1⟩ := r
      obtain ⟨hr1, hb1⟩ := hr
      dsimp only at hr1 hb1 ⊢
      subst hr1
      refine Ok.br (fun _ => ?_) (fun _ => J _ _ _ _ _ _ hi hk hb1)
      exact Ok.chk (by omega) (Ok.chk (by omega) (J _ _ _ _ _ _ hi (by omega) hb1))
theorem tried_ok (hN : 20 ≤ N) (hF : Fine T H f) {p p2 : Int} (hp : 0 ≤ p ∧ p < T.length) (hp2 : 0 ≤ p2 ∧ p2 < T.length) {b : List Int} {b2 b3 : Int} (hb : Bell b b2) : Ok (tried_S N T H f p p2 b b2 b3) fun r => r.1.length = H.length ∧ BellR b r.2 := by
  have hH := hF.h
  have lA := hF.l (T.getD p.toNat []) (getD_mem (by omega))
  have lB := hF.l (T.getD p2.toNat []) (getD_mem (by omega))
  have hTa : T[p.toNat]? = some (T.getD p.toNat []) := by
    have : p.toNat < T.length := by omega
    simp [List.getD, this]
  have hTb : T[p2.toNat]? = some (T.getD p2.toNat []) := by
    have : p2.toNat < T.length := by omega
    simp [List.getD, this]
  unfold tried_S
  refine Ok.bind (tried_l1_p (f := f) hN lA.2 lB.2 hH hp.1 hp2.1 hTa hTb N 0 0 0 b2 b3 [] (by omega) (by omega) rfl (by omega) (by omega) hb) (fun r hr => ?_)
  obtain ⟨g, g2, g3, out⟩ := r
  exact Ok.some ⟨hr.2, hr.1⟩
end
end Go.Proofs.Ytfcnhnbnjdccfaa

namespace Go.Proofs.Ytfcnhnbnjdccfaa
set_option linter.all false
open Go

section
variable {N : Nat} {T : List (List Int)} {H A B : List Int} {f a b : Int}
theorem lfaults_l1_p {l u : List (Int × Int)} (hl : l.length = H.length) (hA : A.length ≤ 6) (hB : B.length ≤ 6) (hH : H.length ≤ 10) : ∀ (n : Nat) (x : At3) (m : Int), l.length < n + x.1 → x.1 ≤ l.length → x.2.1 ≤ A.length → x.2.2 ≤ B.length → -100 ≤ m - l.length + x.1 ∧ m + l.length - x.1 ≤ 100 →
    Ok (lfaults_l1 N n l A B m x.2.1 x.2.2 l (l.length : Int) x.1 T H f) fun r => ∀ l' n' T' H' f', r = .inr (.inr (l', n', T', H', f')) → l' = l ∧ H' = H ∧ fitL H A B (l.drop x.1) x = true ∧ n' = m + (l.length - x.1) - 2 * toldN (l.drop x.1)
  | 0, x, m, h, _, _, _, _ => by omega
  | n + 1, x, m, h, hx, hi, hk, hm => by
    rw [lfaults_l1]
    obtain ⟨h0, i, k⟩ := x
    dsimp only at *
    by_cases c : h0 < l.length
    · have hd : l.drop h0 = l.getD h0 (0, 0) :: l.drop (h0 + 1) := by
        rw [List.drop_eq_getElem_cons c]; simp [List.getD, c]
      have hk' : l[((h0 : Nat) : Int).toNat]? = some (l.getD h0 (0, 0)) := by simp [List.getD, c]
      have hw : H[((h0 : Nat) : Int).toNat]? = some (H.getD h0 0) := by
        have : h0 < H.length := by omega
        simp [List.getD, this]
      generalize l.getD h0 (0, 0) = q at *
      obtain ⟨s, p⟩ := q
      rw [br_dec (by omega), idx_eq (by omega) hk', br_ndec (by omega), hd]
      unfold fitL toldN
      dsimp only
      have J : ∀ (y : At3) (m' : Int), y.1 = h0 + 1 → y.2.1 ≤ A.length → y.2.2 ≤ B.length → stepF A B (H.getD h0 0) (h0, i, k) (s, p) = some y → m' = m + 1 - 2 * (if s = 3 then 0 else 1) →
          Ok (lfaults_j1 N (lfaults_l1 N n) l A B m' y.2.1 y.2.2 l (l.length : Int) h0 T H f) fun r => ∀ l' n' T' H' f', r = .inr (.inr (l', n', T', H', f')) → l' = l ∧ H' = H ∧ (match stepF A B (H.getD h0 0) (h0, i, k) (s, p) with | none => false | some y => fitL H A B (l.drop (h0 + 1)) y) = true ∧ n' = m + (l.length - h0) - 2 * ((if s = 3 then 0 else 1) + toldN (l.drop (h0 + 1))) := by
        intro y m' hy hy1 hy2 hs hm'
        unfold lfaults_j1
        rw [chk_eq (by omega)]
        have := lfaults_l1_p (u := u) hl hA hB hH n y m' (by omega) (by omega) hy1 hy2 (by split at hm' <;> omega)
        rw [hy, show ((h0 + 1 : Nat) : Int) = (h0 : Int) + 1 by omega] at this
        refine Ok.mono this (fun r hr l' n' T' H' f' e => ?_)
        obtain ⟨e1, e2, e3, e4⟩ := hr l' n' T' H' f' e
        refine ⟨e1, e2, ?_, ?_⟩
        · rw [hs]; exact e3
        · rw [e4, hm']; omega
      have bad : ∀ {Q : (List (Int × Int)) → Int → (List (List Int)) → List Int → Int → Prop}, Ok (some (Sum.inr (Sum.inl ())) : Option (Unit ⊕ (Unit ⊕ ((List (Int × Int)) × Int × List (List Int) × List Int × Int)))) fun r => ∀ l' n' T' H' f', r = .inr (.inr (l', n', T', H', f')) → Q l' n' T' H' f' := Ok.some (fun _ _ _ _ _ e => by cases e)
      have st1 : s = 1 → (i : Int) ≤ p → p < A.length → A.getD p.toNat 0 = H.getD h0 0 → stepF A B (H.getD h0 0) (h0, i, k) (s, p) = some (h0 + 1, p.toNat + 1, k) := fun h1 h2 h3 h4 => by
        unfold stepF; rw [if_pos h1]; exact if_pos ⟨h2, h3, h4⟩
      have st2 : s = 2 → (k : Int) ≤ p → p < B.length → B.getD p.toNat 0 = H.getD h0 0 → stepF A B (H.getD h0 0) (h0, i, k) (s, p) = some (h0 + 1, i, p.toNat + 1) := fun h1 h2 h3 h4 => by
        unfold stepF; rw [if_neg (show ¬ (s, p).1 = 1 by dsimp only; omega), if_pos h1]; exact if_pos ⟨h2, h3, h4⟩
      by_cases c3 : s = 3 ∧ p = 0
      · obtain ⟨rfl, rfl⟩ := c3
        simp only [decide_true, Bool.and_self, br_true]
        rw [chk_eq (by omega)]
        exact J (h0 + 1, i, k) (m + 1) rfl hi hk rfl (by simp)
      · have e3 : (decide (s = 3) && decide (p = 0)) = false := by
          rw [Bool.eq_false_iff]; intro hh; simp only [Bool.and_eq_true, decide_eq_true_eq] at hh; exact c3 hh
        rw [e3, br_false]
        have two : Ok (br (decide (s = 2)) (br (decide ((k : Int) ≤ p)) (br (decide (p < (B.length : Int))) (idx B p fun x_6 => idx H h0 fun x_7 => br (decide (x_6 = x_7)) (chk (m - 1) <| chk (p + 1) <| lfaults_j1 N (lfaults_l1 N n) l A B (m - 1) i (p + 1) l (l.length : Int) h0 T H f) (some (.inr (.inl ())))) (some (.inr (.inl ())))) (some (.inr (.inl ())))) (some (.inr (.inl ())))) fun r => ∀ l' n' T' H' f', r = .inr (.inr (l', n', T', H', f')) → l' = l ∧ H' = H ∧ (match stepF A B (H.getD h0 0) (h0, i, k) (s, p) with | none => false | some y => fitL H A B (l.drop (h0 + 1)) y) = true ∧ n' = m + (l.length - h0) - 2 * ((if s = 3 then 0 else 1) + toldN (l.drop (h0 + 1))) := by
          refine Ok.brd (fun h1 => Ok.brd (fun h2 => Ok.brd (fun h3 => ?_) (fun _ => bad)) (fun _ => bad)) (fun _ => bad)
          rw [idx_get 0 (by omega) (by omega), idx_eq (by omega) hw]
          refine Ok.brd (fun h4 => ?_) (fun _ => bad)
          rw [chk_eq (by omega), chk_eq (by omega)]
          have := J (h0 + 1, i, p.toNat + 1) (m - 1) rfl hi (by dsimp only; omega) (st2 h1 h2 h3 h4) (by rw [if_neg (by omega)]; omega)
          rw [show (((h0 + 1, i, p.toNat + 1) : At3).2.2 : Int) = p + 1 by dsimp only; omega] at this
          exact this
        refine Ok.brd (fun h1 => ?_) (fun _ => two)
        refine Ok.brd (fun h2 => ?_) (fun _ => two)
        refine Ok.brd (fun h3 => ?_) (fun _ => two)
        rw [idx_get 0 (by omega) (by omega), idx_eq (by omega) hw]
        refine Ok.brd (fun h4 => ?_) (fun _ => two)
        rw [chk_eq (by omega), chk_eq (by omega)]
        have := J (h0 + 1, p.toNat + 1, k) (m - 1) rfl (by dsimp only; omega) hk (st1 h1 h2 h3 h4) (by rw [if_neg (by omega)]; omega)
        rw [show (((h0 + 1, p.toNat + 1, k) : At3).2.1 : Int) = p + 1 by dsimp only; omega] at this
        exact this
    · rw [br_ndec (by omega), List.drop_of_length_le (by omega)]
      refine Ok.some (fun l' n' T' H' f' e => ?_)
      simp only [Sum.inr.injEq, Prod.mk.injEq] at e
      obtain ⟨rfl, rfl, _, rfl, _⟩ := e
      exact ⟨rfl, rfl, rfl, by simp only [toldN]; omega⟩
theorem lfaults_ok (hN : 20 ≤ N) (hF : Fine T H f) {p p2 : Int} (hp : 0 ≤ p ∧ p < T.length) (hp2 : 0 ≤ p2 ∧ p2 < T.length) {l : List (Int × Int)} (hl : l.length = H.length) : Ok (lfaults_S N T H f p p2 l) fun r => r.2 = true → fitL H (T.getD p.toNat []) (T.getD p2.toNat []) l (0, 0, 0) = true ∧ r.1 = ((T.getD p.toNat []).length : Int) + (T.getD p2.toNat []).length + H.length - 2 * toldN l := by
  have hH := hF.h
  have lA := hF.l (T.getD p.toNat []) (getD_mem (by omega))
  have lB := hF.l (T.getD p2.toNat []) (getD_mem (by omega))
  unfold lfaults_S
  rw [idx_get [] hp.1 (by omega), idx_get [] hp2.1 (by omega), chk_eq (by omega)]
  refine Ok.bind (lfaults_l1_p (T := T) (f := f) (u := l) hl lA.2 lB.2 hH N (0, 0, 0) (((T.getD p.toNat []).length : Int) + (T.getD p2.toNat []).length) (by dsimp only; omega) (by dsimp only; omega) (by dsimp only; omega) (by dsimp only; omega) (by dsimp only; omega)) (fun r hr => ?_)
  rcases r with r | r | ⟨l', n', T', H', f'⟩
  · exact Ok.some (fun h => by cases h)
  · exact Ok.some (fun h => by cases h)
  · obtain ⟨_, _, e1, e2⟩ := hr _ _ _ _ _ rfl
    rw [List.drop_zero] at e1 e2
    exact Ok.some (fun _ => ⟨e1, by dsimp only; rw [e2]; dsimp only; omega⟩)
theorem fit_mem : ∀ (r : List (Int × Int)) (x : At3), fitL H A B r x = true → r ∈ rdx H A B r.length x
  | [], _, _ => by simp [rdx]
  | q :: r, x, h => by
    unfold fitL at h
    cases hs : stepF A B (H.getD x.1 0) x q with
    | none => rw [hs] at h; cases h
    | some y =>
      rw [hs] at h
      exact List.mem_flatMap.2 ⟨(q, y), mem_movesL.2 hs, List.mem_map.2 ⟨r, fit_mem r y h, rfl⟩⟩
end
end Go.Proofs.Ytfcnhnbnjdccfaa

namespace Go.Proofs.Ytfcnhnbnjdccfaa
set_option linter.all false
open Go

section
variable {N : Nat} {T : List (List Int)} {H A B : List Int} {f a b : Int}
theorem sureV_side {i : Nat} {r : List (Int × Int)} (hr : r ∈ bestR H A B) (h : sureV H A B i ≠ 0) : (r.getD i (0, 0)).1 = sureV H A B i := by
  have al : ∀ s, allS H A B i s = true → (r.getD i (0, 0)).1 = s := fun s h => by
    have := List.all_eq_true.1 h r hr
    simpa using this
  unfold sureV at h ⊢
  by_cases c1 : allS H A B i 1 = true
  · rw [if_pos c1]; exact al 1 c1
  · rw [if_neg c1] at h ⊢
    by_cases c2 : allS H A B i 2 = true
    · rw [if_pos c2]; exact al 2 c2
    · rw [if_neg c2] at h ⊢
      by_cases c3 : allS H A B i 3 = true
      · rw [if_pos c3]; exact al 3 c3
      · rw [if_neg c3] at h; exact absurd rfl h
theorem sureV_one {i : Nat} (hi : i < H.length) (h : (bestR H A B).length = 1) : sureV H A B i ≠ 0 := by
  obtain ⟨r, hr⟩ := List.length_eq_one_iff.1 h
  have hm : r ∈ bestR H A B := by rw [hr]; simp
  have := rsure_one hi hm
  rw [hr] at this
  simp only [List.all_cons, List.all_nil, decide_true, Bool.and_self, if_true] at this
  rw [← this]
  have hl := bestR_len hm
  have hq : r.getD i (0, 0) ∈ r := getD_mem (by omega)
  have := rdx_side (H := H) (A := A) (B := B) H.length (0, 0, 0) r (List.mem_filter.1 hm).1 _ hq
  omega
/-- Whose the words surely are. -/
abbrev sureW (H A B : List Int) : List Int := (List.range H.length).map (sureV H A B)
theorem sureW_at {k : Nat} (h : k < H.length) : (sureW H A B)[((k : Nat) : Int).toNat]? = some (sureV H A B k) := by
  simp [h]
theorem two_best {o l : List (Int × Int)} (ho : o ∈ bestR H A B) (hl : l ∈ bestR H A B) (h : o ≠ l) : 2 ≤ (bestR H A B).length := by
  generalize bestR H A B = R at *
  match R, ho, hl with
  | [], ho, _ => cases ho
  | [x], ho, hl => simp at ho hl; exact absurd (ho.trans hl.symm) h
  | _ :: _ :: _, _, _ => simp
theorem equalq_l1_r {s1 s2 : List (Int × Int)} (hs : s1.length = s2.length) (hl : s1.length ≤ 1000) : ∀ (n k : Nat), s1.length < n + k → k ≤ s1.length → Ok (equalq_l1 N n s1 s2 (s1.length : Int) k) fun r => (∃ u, r = .inl u) → s1 ≠ s2
  | 0, k, h, _ => by omega
  | n + 1, k, h, hk => by
    rw [equalq_l1]
    refine Ok.brd (fun c => ?_) (fun _ => Ok.some (fun ⟨u, e⟩ => by cases e))
    have k1 : s1[((k : Nat) : Int).toNat]? = some (s1.getD k (0, 0)) := by
      have : k < s1.length := by omega
      simp [List.getD, this]
    have k2 : s2[((k : Nat) : Int).toNat]? = some (s2.getD k (0, 0)) := by
      have : k < s2.length := by omega
      simp [List.getD, this]
    rw [idx_eq (by omega) k1, idx_eq (by omega) k2]
    refine Ok.br (fun e => Ok.some (fun _ h => ?_)) (fun _ => ?_)
    · subst h; simp at e
    · rw [chk_eq (by omega)]
      have := equalq_l1_r hs hl n (k + 1) (by omega) (by omega)
      rw [show ((k + 1 : Nat) : Int) = (k : Int) + 1 by omega] at this
      exact this
theorem equalq_r {s1 s2 : List (Int × Int)} (hl : s1.length ≤ 1000) (hN : s1.length < N) : Ok (equalq_S N s1 s2) fun r => r = false → s1 ≠ s2 := by
  unfold equalq_S
  refine Ok.brn (fun c => Ok.some (fun _ h => c (by rw [h]))) (fun c => ?_)
  refine Ok.bind (equalq_l1_r (by omega) hl N 0 (by omega) (by omega)) (fun r hr => ?_)
  rcases r with r | r
  · exact Ok.some (fun _ => hr ⟨r, rfl⟩)
  · exact Ok.some (fun h => by cases h)
theorem esure_l3_p {o l u : List (Int × Int)} {m u2 u3 u4 many q2 q3 p p2 : Int} {other : Bool} {q : List Int} (hH : H.length ≤ 10) (ho : o ∈ bestR H A B) : ∀ (n k : Nat), H.length < n + k → k ≤ H.length →
    esure_l3 N n m l (sureW H A B) many other o u u2 u3 u4 (sureW H A B) (H.length : Int) k T H f q q2 q3 p p2 = some (.inr (m, l, sureW H A B, many, other, u, u2, u3, u4, T, H, f, q, q2, q3, p, p2))
  | 0, k, h, _ => by omega
  | n + 1, k, h, hk => by
    rw [esure_l3]
    by_cases c : k < H.length
    · have hl := bestR_len ho
      have next := esure_l3_p (l := l) (u := u) (m := m) (u2 := u2) (u3 := u3) (u4 := u4) (many := many) (q2 := q2) (q3 := q3) (p := p) (p2 := p2) (other := other) (q := q) hH ho n (k + 1) (by omega) (by omega)
      rw [show ((k + 1 : Nat) : Int) = (k : Int) + 1 by omega] at next
      rw [br_dec (by omega), idx_eq (by omega) (sureW_at c)]
      by_cases d : sureV H A B k = 0
      · rw [br_nd d, chk_eq (by omega)]
        exact next
      · have e := sureV_side ho d
        rw [br_nnd d, idx_get (0, 0) (by omega) (by omega), Int.toNat_natCast, br_nd e, chk_eq (by omega)]
        exact next
    · rw [br_ndec (by omega)]
theorem esure_l4_p {l u : List (Int × Int)} {u2 u3 many q2 q3 : Int} {other : Bool} {q : List Int} (hH : H.length ≤ 10) (ho : l ∈ bestR H A B) (hm : many = (bestR H A B).length) : ∀ (n k : Nat), H.length < n + k → k ≤ H.length →
    esure_l4 N n l many other u u2 u3 (sureW H A B) (H.length : Int) k T H f q q2 q3 = some (.inr (many, other, u, u2, u3, T, H, f, q, q2, q3))
  | 0, k, h, _ => by omega
  | n + 1, k, h, hk => by
    rw [esure_l4]
    by_cases c : k < H.length
    · have hl := bestR_len ho
      have next := esure_l4_p (u := u) (u2 := u2) (u3 := u3) (q2 := q2) (q3 := q3) (other := other) (q := q) hH ho hm n (k + 1) (by omega) (by omega)
      rw [show ((k + 1 : Nat) : Int) = (k : Int) + 1 by omega] at next
      rw [br_dec (by omega), idx_eq (by omega) (sureW_at c)]
      by_cases d : sureV H A B k = 0
      · have d1 : ¬ many = 1 := fun h => sureV_one c (by omega) d
        rw [br_nd d, br_dec d, br_ndec d1, chk_eq (by omega)]
        exact next
      · have e := sureV_side ho d
        rw [br_nnd d, idx_get (0, 0) (by omega) (by omega), Int.toNat_natCast, br_nd e, br_ndec d, chk_eq (by omega)]
        exact next
    · rw [br_ndec (by omega)]
theorem esure_l2_p {p p2 : Int} (hN : 30 ≤ N) (hF : Fine T H f) (hp : 0 ≤ p ∧ p < T.length) (hp2 : 0 ≤ p2 ∧ p2 < T.length) (hAB : A = T.getD p.toNat [] ∧ B = T.getD p2.toNat []) {l u : List (Int × Int)} {u2 u3 many : Int} {q : List Int} (hl : l ∈ bestR H A B) : ∀ (n : Nat) (u4 q2 q3 : Int) (other : Bool), (6 - u4).toNat < n → 0 ≤ u4 → u4 ≤ 6 → Bell q q2 → (other = true → 2 ≤ (bestR H A B).length) →
    Ok (esure_l2 N n (leastV H A B) l (sureW H A B) many other u u2 u3 u4 T H f q q2 q3 p p2) fun r => ∃ other' q2' q3', r = .inr (l, sureW H A B, many, other', u, u2, u3, T, H, f, q, q2', q3') ∧ Bell q q2' ∧ (other' = true → 2 ≤ (bestR H A B).length)
  | 0, u4, _, _, _, h, _, _, _, _ => by omega
  | n + 1, u4, q2, q3, other, h, h0, h6, hq, ho => by
    rw [esure_l2]
    refine Ok.brd (fun c => ?_) (fun c => Ok.some ⟨other, q2, q3, rfl, hq, ho⟩)
    refine Ok.bind (tried_ok (by omega) hF hp hp2 hq) (fun r hr => ?_)
    obtain ⟨o, q', z2, z3⟩ := r
    obtain ⟨hol, hq', hz⟩ := hr
    dsimp only at hol hq' hz ⊢
    subst hq'
    refine Ok.bind (lfaults_ok (by omega) hF hp hp2 hol) (fun r hr => ?_)
    obtain ⟨k, is⟩ := r
    dsimp only at hr ⊢
    have J : ∀ (other' : Bool), (other' = true → 2 ≤ (bestR H A B).length) → Ok (esure_j1 N (esure_l2 N n) (leastV H A B) l (sureW H A B) many other' u u2 u3 u4 T H f q' z2 z3 p p2) fun r => ∃ other' q2' q3', r = .inr (l, sureW H A B, many, other', u, u2, u3, T, H, f, q', q2', q3') ∧ Bell q' q2' ∧ (other' = true → 2 ≤ (bestR H A B).length) := fun other' ho' => by
      unfold esure_j1
      rw [chk_eq (by omega)]
      exact esure_l2_p hN hF hp hp2 hAB hl n (u4 + 1) z2 z3 other' (by omega) (by omega) (by omega) hz ho'
    cases is with
    | false => exact J other ho
    | true =>
      obtain ⟨hfit, hk⟩ := hr rfl
      rw [← hAB.1, ← hAB.2] at hfit hk
      rw [Bool.not_true, br_false]
      refine Ok.brd (fun _ => J other ho) (fun c2 => ?_)
      have hmem : o ∈ rdAll H A B := by
        have := fit_mem o (0, 0, 0) hfit
        rw [hol] at this; exact this
      have hb : o ∈ bestR H A B := by
        refine List.mem_filter.2 ⟨hmem, ?_⟩
        have h1 := rdAll_le o hmem
        have lv : leastV H A B = (A.length : Int) + B.length + H.length - 2 * (tv mayA H A B (0, 0, 0)).1 := rfl
        simp only [decide_eq_true_eq]
        omega
      have hH := hF.h
      have e3 := fun (other : Bool) => esure_l3_p (N := N) (T := T) (f := f) (l := l) (u := u) (m := leastV H A B) (u2 := u2) (u3 := u3) (u4 := u4) (many := many) (q2 := z2) (q3 := z3) (p := p) (p2 := p2) (other := other) (q := q') hH hb N 0 (by omega) (by omega)
      have hsl : ((sureW H A B).length : Int) = (H.length : Int) := by simp
      rw [hsl]
      rw [show ((0 : Nat) : Int) = 0 from rfl] at e3
      cases other with
      | true =>
        rw [br_true, e3]
        exact J true ho
      | false =>
        rw [br_false]
        refine Ok.bind (equalq_r (s2 := l) (by omega) (by omega)) (fun e he => ?_)
        rw [e3]
        refine J _ (fun h => ?_)
        rw [Bool.not_eq_true'] at h
        exact two_best hb hl (he h)
theorem esure_l1_p (hN : 30 ≤ N) (hF : Fine T H f) {q : List Int} {P : List (Int × Int)} (hP : ∀ x ∈ P, (0 ≤ x.1 ∧ x.1 < T.length) ∧ 0 ≤ x.2 ∧ x.2 < T.length) (hPl : P.length ≤ 1000) : ∀ (n k : Nat) (q2 q3 : Int), P.length < n + k → k ≤ P.length → Bell q q2 →
    esure_l1 N n P (P.length : Int) k T H f q q2 q3 = some (.inr (.inr (.inr (.inr ()))))
  | 0, k, _, _, h, _, _ => by omega
  | n + 1, k, q2, q3, h, hk, hq => by
    rw [esure_l1]
    by_cases c : k < P.length
    · have hk' : P[((k : Nat) : Int).toNat]? = some (P.getD k (0, 0)) := by simp [List.getD, c]
      obtain ⟨hp, hp2⟩ := hP (P.getD k (0, 0)) (getD_mem c)
      generalize P.getD k (0, 0) = p at *
      obtain ⟨p, p2⟩ := p
      dsimp only at hp hp2
      have hop := hF.open hp hp2
      obtain ⟨l, hl, el, e1⟩ := reading_v (N := N) (by omega) hop
      have hlb : l ∈ bestR H (T.getD p.toNat []) (T.getD p2.toNat []) := List.mem_filter.2 ⟨hl, by simpa using el⟩
      have hll := bestR_len hlb
      have hH := hF.h
      have hpos := List.length_pos_of_mem hlb
      have hsl : ((sureW H (T.getD p.toNat []) (T.getD p2.toNat [])).length : Int) = (H.length : Int) := by simp
      rw [br_dec (by omega), idx_eq (by omega) hk', least_v (by omega) hF hp hp2, e1, sure_v (by omega) hop, count_v2 (by omega) hop]
      simp only [Option.bind_some, decide_true, Bool.not_true, br_false]
      rw [br_nd hsl, br_nd (by omega), br_ndec (by omega)]
      obtain ⟨r, e2, other', q2', q3', rfl, hb', ho'⟩ := esure_l2_p (N := N) (T := T) (f := f) hN hF hp hp2 ⟨rfl, rfl⟩ (u := P) (u2 := (P.length : Int)) (u3 := (k : Int)) (many := ((bestR H (T.getD p.toNat []) (T.getD p2.toNat [])).length : Int)) (q := q) hlb N 0 q2 q3 false (by omega) (by omega) (by omega) hq (fun h => by cases h)
      rw [e2]
      simp only [Option.bind_some]
      have e4 := esure_l4_p (N := N) (T := T) (f := f) (u := P) (u2 := (P.length : Int)) (u3 := (k : Int)) (q2 := q2') (q3 := q3') (other := other') (q := q) hH hlb rfl N 0 (by omega) (by omega)
      rw [hsl]
      rw [show ((0 : Nat) : Int) = 0 from rfl] at e4
      rw [e4]
      simp only [Option.bind_some]
      have next := esure_l1_p hN hF (q := q) hP hPl n (k + 1) q2' q3' (by omega) (by omega) hb'
      rw [show ((k + 1 : Nat) : Int) = (k : Int) + 1 by omega] at next
      cases other' with
      | true =>
        have := ho' rfl
        rw [br_true, br_ndec (by omega), chk_eq (by omega)]
        exact next
      | false =>
        rw [br_false, chk_eq (by omega)]
        exact next
    · rw [br_ndec (by omega)]
theorem esure_true {ns ts : List Int} (h1 : ns.length ≤ 9223372036854775807) (h2 : ts.length ≤ 9223372036854775807) : esure_S 1100 ns ts = some true := by
  unfold esure_S hang_S
  simp only [Option.bind_some]
  obtain ⟨T, H, f, b2, b3, e, hb, hT, hn, hH, hl, hf⟩ := made_p (N := 1100) (by omega) (tx := 3) (wo := 5) (he := 8) (by omega) (by omega) (by omega) (b := ns) (b2 := 0) (b3 := 0) ⟨h1, by omega, by omega⟩
  rw [e]
  simp only [Option.bind_some]
  have hF : Fine T H f := Fine.of_txt hT (by omega) (by omega) hH (by omega) (by omega)
  have pl := prs_len T.length
  have : T.length * T.length ≤ 5 * 5 := Nat.mul_le_mul (by omega) (by omega)
  rw [lpairs_v (by omega) (by omega)]
  simp only [Option.bind_some]
  have e1 := esure_l1_p (N := 1100) (by omega) hF (q := ts) (P := prs T.length) (fun x hx => by have := mem_prs.1 hx; omega) (by omega) 1100 0 0 0 (by omega) (by omega) ⟨h2, by omega, by omega⟩
  rw [show ((0 : Nat) : Int) = 0 from rfl] at e1
  rw [e1]
  simp only [Option.bind_some, awake_v]
end
end Go.Proofs.Ytfcnhnbnjdccfaa

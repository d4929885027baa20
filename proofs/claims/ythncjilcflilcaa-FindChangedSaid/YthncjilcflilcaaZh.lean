/-
  Parts of a proof, put together: FD9, FDa, FDb, FDe, FDf, FAw, FL5.
  Conditions: none.
-/
import Derived.Test.YthncjilcflilcaaZd
import Derived.Test.YthncjilcflilcaaZf
import Derived.Test.YthncjilcflilcaaZg
namespace Go.Proofs.Ythncjilcflilcaa
set_option linter.all false
open Go

/-- In how many places two lists differ. -/
def apL : List Int → List Int → Int
  | x :: a, y :: b => (if x = y then 0 else 1) + apL a b
  | _, _ => 0
theorem apL_bound : ∀ a b : List Int, 0 ≤ apL a b ∧ apL a b ≤ a.length
  | [], _ => by simp [apL]
  | _ :: _, [] => by simp [apL]; omega
  | x :: a, y :: b => by
    have := apL_bound a b
    rw [apL, List.length_cons]
    split <;> omega
theorem apL_zero : ∀ {a b : List Int}, a.length = b.length → apL a b = 0 → a = b
  | [], [], _, _ => rfl
  | [], _ :: _, h, _ => by simp at h
  | _ :: _, [], h, _ => by simp at h
  | x :: a, y :: b, hl, h => by
    have := apL_bound a b
    rw [apL] at h
    split at h
    · rename_i e
      rw [e, apL_zero (a := a) (b := b) (by simpa using hl) (by omega)]
    · omega
section
variable {N : Nat}
end
section
variable {W : List Int} {s : Int} {L F : List (List Int)} {R : List Int} {A B : Nat → Nat → Int} {N : Nat}
/-- Better joins that go on from some, with no more changes than may be. -/
structure ExtJ (can : Nat → Nat → Bool) (A : Nat → Nat → Int) (m : Nat) (J : List Int) (w0 : Int) (l l' : List Int) (left : Int) : Prop where
  mem : l' ∈ joinsL can m J.length 0 0
  pre : l'.take l.length = l
  more : w0 < valJ A 0 l'
  ap : apL (J.drop l.length) (l'.drop l.length) ≤ left
/-- What the search returns. -/
def PutR (can : Nat → Nat → Bool) (A : Nat → Nat → Int) (m : Nat) (J : List Int) (w0 : Int) (l : List Int) (left : Int) (dk : Dk) : ((List Int × Dk × Int) ⊕ (List Int × List Int × Dk × Int)) → Prop
  | .inl g => g = (J, dk, w0) ∧ ∀ l', ¬ ExtJ can A m J w0 l l' left
  | .inr r => r.2 = (J, dk, w0) ∧ ExtJ can A m J w0 l r.1 left
/-- A step that may be. -/
def stpB (can : Nat → Nat → Bool) (J l : List Int) (left : Int) (k : Int) : Bool := (decide (k = -1) || (!hasB l k && can l.length k.toNat)) && !(!decide (k = J.getD l.length 0) && decide (left = 0))
def nowJ (J l : List Int) (left : Int) (k : Int) : Int := if k = J.getD l.length 0 then left else left - 1
theorem take_snoc {l l' : List Int} {k : Int} (hl : l.length < l'.length) : l'.take (l.length + 1) = l ++ [k] ↔ l'.take l.length = l ∧ l'.getD l.length 0 = k := by
  rw [take_succ' hl 0]
  constructor
  · intro h
    have := List.append_inj' h rfl
    simpa using this
  · rintro ⟨h1, h2⟩
    rw [h1, h2]
theorem ext_step {can : Nat → Nat → Bool} {m : Nat} {J l l' : List Int} {w0 left : Int} (hl : l.length < J.length) : ExtJ can A m J w0 l l' left ↔ ∃ k : Int, (-1 ≤ k ∧ k ≤ (m : Int) - 1) ∧ (0 ≤ left → stpB can J l left k = true) ∧ ExtJ can A m J w0 (l ++ [k]) l' (nowJ J l left k) := by
  constructor
  · rintro ⟨h1, h2, h3, h4⟩
    obtain ⟨m1, m2⟩ := mem_joinsL.1 h1
    obtain ⟨m3, _⟩ := okJ_mt.1 m2
    have hl' : l.length < l'.length := by omega
    have e0 : l'.getD l.length 0 = fnJ l' l.length := getD_01 hl'
    have hdrop : apL (J.drop l.length) (l'.drop l.length) = (if J.getD l.length 0 = l'.getD l.length 0 then 0 else 1) + apL (J.drop (l.length + 1)) (l'.drop (l.length + 1)) := by
      rw [drop_cons hl 0, drop_cons hl' 0, apL]
    have hb := apL_bound (J.drop (l.length + 1)) (l'.drop (l.length + 1))
    refine ⟨l'.getD l.length 0, ?_, fun hleft => ?_, ⟨h1, ?_, h3, ?_⟩⟩
    · rw [e0]
      rcases m3.ok l.length hl' with h | ⟨k, h, hk, _⟩ <;> omega
    · unfold stpB
      rw [Bool.and_eq_true]
      constructor
      · rw [Bool.or_eq_true, decide_eq_true_eq, e0]
        rcases m3.ok l.length hl' with h | ⟨k, h, hk, hc⟩
        · exact .inl h
        · right
          rw [h, Int.toNat_natCast, hc, Bool.and_true, Bool.not_eq_true', ← Bool.not_eq_true, hasB_iff]
          intro hm
          obtain ⟨j, hj, e⟩ := List.getElem_of_mem hm
          have e1 : fnJ l' j = k := by
            rw [← e]
            have : l[j]? = l'[j]? := by rw [← h2, List.getElem?_take_of_lt hj]
            simp only [fnJ, List.getD, ← this, List.getElem?_eq_getElem hj, Option.getD_some]
          have := m3.inj j l.length (by omega) hl' (by omega) (by rw [e1, h])
          omega
      · rw [Bool.not_eq_true', Bool.and_eq_false_iff]
        by_cases e : l'.getD l.length 0 = J.getD l.length 0
        · left; rw [decide_eq_true e]; rfl
        · right
          rw [decide_eq_false_iff_not]
          intro h0
          rw [if_neg (Ne.symm e)] at hdrop
          omega
    · rw [List.length_append, List.length_singleton]
      exact (take_snoc hl').2 ⟨h2, rfl⟩
    · rw [List.length_append, List.length_singleton]
      unfold nowJ
      by_cases e : l'.getD l.length 0 = J.getD l.length 0
      · rw [if_pos e]; rw [if_pos e.symm] at hdrop; omega
      · rw [if_neg e]; rw [if_neg (Ne.symm e)] at hdrop; omega
  · rintro ⟨k, _, _, h1, h2, h3, h4⟩
    obtain ⟨m1, _⟩ := mem_joinsL.1 h1
    have hl' : l.length < l'.length := by omega
    rw [List.length_append, List.length_singleton] at h2 h4
    obtain ⟨h5, h6⟩ := (take_snoc hl').1 h2
    refine ⟨h1, h5, h3, ?_⟩
    rw [drop_cons hl 0, drop_cons hl' 0, apL, h6]
    unfold nowJ at h4
    split at h4
    · rename_i e; rw [if_pos e.symm]; omega
    · rename_i e; rw [if_neg (Ne.symm e)]; omega
theorem mt_snoc {can : Nat → Nat → Bool} {m : Nat} {l : List Int} {k : Int} (h : l ∈ joinsL can m l.length 0 0) (hk : -1 ≤ k ∧ k ≤ (m : Int) - 1) (hc : (decide (k = -1) || (!hasB l k && can l.length k.toNat)) = true) : l ++ [k] ∈ joinsL can m (l ++ [k]).length 0 0 := by
  obtain ⟨_, h2⟩ := mem_joinsL.1 h
  obtain ⟨h3, _⟩ := okJ_mt.1 h2
  refine mem_joinsL.2 ⟨rfl, okJ_mt.2 ⟨?_, fun k hk => by simp at hk⟩⟩
  have e1 : ∀ j, j < l.length → fnJ (l ++ [k]) j = fnJ l j := fun j hj => by simp [fnJ, List.getD, List.getElem?_append_left hj]
  have e2 : fnJ (l ++ [k]) l.length = k := by simp [fnJ, List.getD]
  rw [Bool.or_eq_true, decide_eq_true_eq, Bool.and_eq_true, Bool.not_eq_true', ← Bool.not_eq_true, hasB_iff] at hc
  have hnew : ∀ j, j < l.length → fnJ l j = k → k = -1 := fun j hj e => by
    rcases hc with hc | ⟨hc, _⟩
    · exact hc
    · exact absurd (by rw [← e, ← getD_01 hj]; exact getD_mem hj) hc
  rw [List.length_append, List.length_singleton]
  refine ⟨fun i hi => ?_, fun i j hi hj hij he => ?_⟩
  · rcases Nat.lt_or_ge i l.length with h | h
    · rw [e1 i h]; exact h3.ok i h
    · obtain rfl : i = l.length := by omega
      rw [e2]
      rcases hc with hc | ⟨_, hc⟩
      · exact .inl hc
      · by_cases e : k = -1
        · exact .inl e
        · exact .inr ⟨k.toNat, by omega, by omega, hc⟩
  · rcases Nat.lt_or_ge i l.length with h | h
    · rw [e1 i h] at he ⊢
      rcases Nat.lt_or_ge j l.length with h' | h'
      · rw [e1 j h'] at he
        exact h3.inj i j h h' hij he
      · obtain rfl : j = l.length := by omega
        rw [e2] at he
        rw [he]; exact hnew i h he
    · obtain rfl : i = l.length := by omega
      rw [e2] at he ⊢
      have hj' : j < l.length := by omega
      rw [e1 j hj'] at he
      exact hnew j hj' he.symm

/-- The result of the search through the next things. -/
def putLR (can : Nat → Nat → Bool) (A : Nat → Nat → Int) (m : Nat) (J : List Int) (w0 : Int) (l : List Int) (left : Int) (dk : Dk) (j : Nat) : ((List Int × List Int × Dk × Int) ⊕ (List Int × Dk × Int)) → Prop
  | .inl r => r.2 = (J, dk, w0) ∧ ExtJ can A m J w0 l r.1 left
  | .inr g => g = (J, dk, w0) ∧ ∀ l' (k : Int), (j : Int) - 1 ≤ k → k ≤ (m : Int) - 1 → stpB can J l left k = true → ¬ ExtJ can A m J w0 (l ++ [k]) l' (nowJ J l left k)
theorem put_l1_p {J : List Int} {w0 left : Int} {self : List Int → Int → List Int → Dk → Int → List Int → Dk → Int → Option ((List Int × Dk × Int) ⊕ (List Int × List Int × Dk × Int))} {l : List Int} (hl0 : l ≠ []) (hN : 110 ≤ N) (hF : F.length ≤ 6) (hJ : J.length ≤ 6) (hlJ : (l : List Int).length < J.length) (hleft : 0 ≤ left ∧ left ≤ 100) (hl : (l : List Int) ∈ joinsL (canT A B s) F.length (l : List Int).length 0 0)
    (hself : ∀ k : Int, stpB (canT A B s) J l left k = true → -1 ≤ k ∧ k ≤ (F.length : Int) - 1 → ∃ r, self ((l ++ [k])) (nowJ J l left k) J (dkT W s L F R A B) w0 J (dkT W s L F R A B) w0 = some r ∧ PutR (canT A B s) A F.length J w0 ((l ++ [k])) (nowJ J l left k) (dkT W s L F R A B) r) :
    ∀ (n j : Nat), F.length + 1 < n + j → j ≤ F.length + 1 → ∃ r, put_l1 N self n l left J (dkT W s L F R A B) (l.length : Int) ((j : Int) - 1) J (dkT W s L F R A B) w0 = some r ∧ putLR (canT A B s) A F.length J w0 l left (dkT W s L F R A B) j r
  | 0, j, h, _ => by omega
  | n + 1, j, h, hj => by
    unfold put_l1
    have hdf : (dkT W s L F R A B).2.2.2.1.length = F.length := rfl
    rw [hdf]
    by_cases c : j < F.length + 1
    rotate_left
    · rw [br_ndec (by omega)]
      exact ⟨_, rfl, rfl, fun l' k h1 h2 => by omega⟩
    obtain ⟨rn, n1, n2⟩ := put_l1_p hl0 hN hF hJ hlJ hleft hl hself n (j + 1) (by omega) (by omega)
    rw [show ((j + 1 : Nat) : Int) - 1 = (j : Int) - 1 + 1 by omega] at n1
    rw [br_dec (by omega)]
    -- what follows where the step may not be
    have hskip : stpB (canT A B s) J l left ((j : Int) - 1) = false → ∃ r, put_j1 N self (put_l1 N self n) l left J (dkT W s L F R A B) (l.length : Int) ((j : Int) - 1) J (dkT W s L F R A B) w0 = some r ∧ putLR (canT A B s) A F.length J w0 l left (dkT W s L F R A B) j r := fun hs => by
      unfold put_j1
      rw [chk_eq (by omega), n1]
      refine ⟨rn, rfl, ?_⟩
      cases rn with
      | inl r => exact n2
      | inr g =>
        refine ⟨n2.1, fun l' k h1 h2 h3 => ?_⟩
        by_cases e : k = (j : Int) - 1
        · rw [e, hs] at h3; cases h3
        · exact n2.2 l' k (by omega) h2 h3
    have hstep : stpB (canT A B s) J l left ((j : Int) - 1) = true → ∃ r, put_j2 N self (put_l1 N self n) l left J (dkT W s L F R A B) (l.length : Int) ((j : Int) - 1) (nowJ J l left ((j : Int) - 1)) J (dkT W s L F R A B) w0 = some r ∧ putLR (canT A B s) A F.length J w0 l left (dkT W s L F R A B) j r := fun hs => by
      obtain ⟨r, r1, r2⟩ := hself ((j : Int) - 1) hs (by omega)
      unfold put_j2
      have ecl : cloneo_S N l = some l := by
        unfold cloneo_S
        rw [grd_eq (by simp [hl0]), lim_eq (by simp only [List.length_nil]; omega)]; rfl
      rw [ecl]
      simp only [Option.bind_some]
      rw [lim_eq (by simp only [List.length_singleton]; omega)]
      rw [r1]
      simp only [Option.bind_some]
      cases r with
      | inl g =>
        obtain ⟨rfl, g2⟩ := r2
        dsimp only
        unfold put_j1
        rw [chk_eq (by omega), n1]
        refine ⟨rn, rfl, ?_⟩
        cases rn with
        | inl r => exact n2
        | inr g =>
          refine ⟨n2.1, fun l' k h1 h2 h3 => ?_⟩
          by_cases e : k = (j : Int) - 1
          · subst e; exact g2 l'
          · exact n2.2 l' k (by omega) h2 h3
      | inr r =>
        obtain ⟨l', g1, g2, g3⟩ := r
        obtain ⟨e, hx⟩ := r2
        simp only [Prod.mk.injEq] at e
        obtain ⟨rfl, rfl, rfl⟩ := e
        dsimp only at hx ⊢
        have hne : l' ≠ [] := fun e => by
          subst e
          have := (mem_joinsL.1 hx.mem).1
          simp at this; omega
        rw [grd_eq (by simp [hne])]
        refine ⟨_, rfl, rfl, ?_⟩
        exact (ext_step hlJ).2 ⟨(j : Int) - 1, by omega, fun _ => hs, hx⟩
    have hgj : J[((l.length : Int) : Int).toNat]? = some (J.getD (l : List Int).length 0) := gets hlJ 0
    generalize hji : J.getD (l : List Int).length 0 = ji at *
    have es : stpB (canT A B s) J l left ((j : Int) - 1) = ((decide ((j : Int) - 1 = -1) || (!hasB l ((j : Int) - 1) && canT A B s (l : List Int).length ((j : Int) - 1).toNat)) && !(!decide ((j : Int) - 1 = ji) && decide (left = 0))) := by unfold stpB; rw [hji]
    have en : nowJ J l left ((j : Int) - 1) = if (j : Int) - 1 = ji then left else left - 1 := by unfold nowJ; rw [hji]
    by_cases c0 : (j : Int) - 1 = -1
    · rw [br_nd c0, idx_eq (by omega) hgj]
      rw [decide_eq_true c0, Bool.true_or, Bool.true_and] at es
      by_cases c1 : (j : Int) - 1 = ji
      · rw [br_nd c1, idx_eq (by omega) hgj, br_nd c1]
        rw [if_pos c1] at en
        rw [en] at hstep
        exact hstep (by rw [es, decide_eq_true c1]; rfl)
      · rw [br_nnd c1]
        rw [if_neg c1] at en
        rw [en] at hstep
        by_cases c2 : left = 0
        · rw [br_dec c2]
          exact hskip (by rw [es, decide_eq_false c1, decide_eq_true c2]; rfl)
        · rw [br_ndec c2, idx_eq (by omega) hgj, br_nnd c1, chk_eq (by omega)]
          exact hstep (by rw [es, decide_eq_false c2, Bool.and_false]; rfl)
    · rw [br_nnd c0, containsi_v (by omega) (by omega)]
      rw [decide_eq_false c0, Bool.false_or] at es
      simp only [Option.bind_some]
      obtain ⟨q, hq⟩ : ∃ q : Nat, (j : Int) - 1 = q := ⟨((j : Int) - 1).toNat, by omega⟩
      cases hb : hasB l ((j : Int) - 1)
      rotate_left
      · rw [hb] at es
        rw [br_true]
        exact hskip (by rw [es]; rfl)
      rw [hb, Bool.not_false, Bool.true_and] at es
      rw [br_false]
      have hcan : can_S N (dkT W s L F R A B) (l.length : Int) ((j : Int) - 1) = some (canT A B s (l : List Int).length ((j : Int) - 1).toNat) := by
        rw [hq, Int.toNat_natCast]
        exact can_T (i := (l : List Int).length) (by omega) (by omega)
      rw [hcan]
      simp only [Option.bind_some]
      cases hcn : canT A B s (l : List Int).length ((j : Int) - 1).toNat
      · rw [hcn] at es
        rw [Bool.not_false, br_true]
        exact hskip (by rw [es]; rfl)
      rw [hcn, Bool.true_and] at es
      rw [Bool.not_true, br_false, idx_eq (by omega) hgj]
      by_cases c1 : (j : Int) - 1 = ji
      · rw [br_nd c1, idx_eq (by omega) hgj, br_nd c1]
        rw [if_pos c1] at en
        rw [en] at hstep
        exact hstep (by rw [es, decide_eq_true c1]; rfl)
      · rw [br_nnd c1]
        rw [if_neg c1] at en
        rw [en] at hstep
        by_cases c2 : left = 0
        · rw [br_dec c2]
          exact hskip (by rw [es, decide_eq_false c1, decide_eq_true c2]; rfl)
        · rw [br_ndec c2, idx_eq (by omega) hgj, br_nnd c1, chk_eq (by omega)]
          exact hstep (by rw [es, decide_eq_false c2, Bool.and_false]; rfl)

/-- The result of the search through the next things. -/
def put0LR (can : Nat → Nat → Bool) (A : Nat → Nat → Int) (m : Nat) (J : List Int) (w0 : Int) (l : List Int) (left : Int) (dk : Dk) (j : Nat) : ((List Int × List Int × Dk × Int) ⊕ (List Int × Dk × Int)) → Prop
  | .inl r => r.2 = (J, dk, w0) ∧ ExtJ can A m J w0 l r.1 left
  | .inr g => g = (J, dk, w0) ∧ ∀ l' (k : Int), (j : Int) - 1 ≤ k → k ≤ (m : Int) - 1 → stpB can J l left k = true → ¬ ExtJ can A m J w0 (l ++ [k]) l' (nowJ J l left k)
theorem put0_l1_p {J : List Int} {w0 left : Int} (hN : 110 ≤ N) (hF : F.length ≤ 6) (hJ : J.length ≤ 6) (hlJ : ([] : List Int).length < J.length) (hleft : 0 ≤ left ∧ left ≤ 100) (hl : ([] : List Int) ∈ joinsL (canT A B s) F.length ([] : List Int).length 0 0)
    (hself : ∀ k : Int, stpB (canT A B s) J [] left k = true → -1 ≤ k ∧ k ≤ (F.length : Int) - 1 → ∃ r, put_R N N ([k]) (nowJ J [] left k) J (dkT W s L F R A B) w0 J (dkT W s L F R A B) w0 = some r ∧ PutR (canT A B s) A F.length J w0 ([k]) (nowJ J [] left k) (dkT W s L F R A B) r) :
    ∀ (n j : Nat), F.length + 1 < n + j → j ≤ F.length + 1 → ∃ r, put0_l1 N n left J (dkT W s L F R A B) 0 ((j : Int) - 1) J (dkT W s L F R A B) w0 = some r ∧ put0LR (canT A B s) A F.length J w0 [] left (dkT W s L F R A B) j r
  | 0, j, h, _ => by omega
  | n + 1, j, h, hj => by
    unfold put0_l1
    have hdf : (dkT W s L F R A B).2.2.2.1.length = F.length := rfl
    rw [hdf]
    by_cases c : j < F.length + 1
    rotate_left
    · rw [br_ndec (by omega)]
      exact ⟨_, rfl, rfl, fun l' k h1 h2 => by omega⟩
    obtain ⟨rn, n1, n2⟩ := put0_l1_p hN hF hJ hlJ hleft hl hself n (j + 1) (by omega) (by omega)
    rw [show ((j + 1 : Nat) : Int) - 1 = (j : Int) - 1 + 1 by omega] at n1
    rw [br_dec (by omega)]
    -- what follows where the step may not be
    have hskip : stpB (canT A B s) J [] left ((j : Int) - 1) = false → ∃ r, put0_j1 N (put0_l1 N n) left J (dkT W s L F R A B) 0 ((j : Int) - 1) J (dkT W s L F R A B) w0 = some r ∧ put0LR (canT A B s) A F.length J w0 [] left (dkT W s L F R A B) j r := fun hs => by
      unfold put0_j1
      rw [chk_eq (by omega), n1]
      refine ⟨rn, rfl, ?_⟩
      cases rn with
      | inl r => exact n2
      | inr g =>
        refine ⟨n2.1, fun l' k h1 h2 h3 => ?_⟩
        by_cases e : k = (j : Int) - 1
        · rw [e, hs] at h3; cases h3
        · exact n2.2 l' k (by omega) h2 h3
    have hstep : stpB (canT A B s) J [] left ((j : Int) - 1) = true → ∃ r, put0_j2 N (put0_l1 N n) left J (dkT W s L F R A B) 0 ((j : Int) - 1) (nowJ J [] left ((j : Int) - 1)) J (dkT W s L F R A B) w0 = some r ∧ put0LR (canT A B s) A F.length J w0 [] left (dkT W s L F R A B) j r := fun hs => by
      obtain ⟨r, r1, r2⟩ := hself ((j : Int) - 1) hs (by omega)
      unfold put0_j2
      rw [show clonen_S N = some () from rfl]
      simp only [Option.bind_some]
      rw [r1]
      simp only [Option.bind_some]
      cases r with
      | inl g =>
        obtain ⟨rfl, g2⟩ := r2
        dsimp only
        unfold put0_j1
        rw [chk_eq (by omega), n1]
        refine ⟨rn, rfl, ?_⟩
        cases rn with
        | inl r => exact n2
        | inr g =>
          refine ⟨n2.1, fun l' k h1 h2 h3 => ?_⟩
          by_cases e : k = (j : Int) - 1
          · subst e; exact g2 l'
          · exact n2.2 l' k (by omega) h2 h3
      | inr r =>
        obtain ⟨l', g1, g2, g3⟩ := r
        obtain ⟨e, hx⟩ := r2
        simp only [Prod.mk.injEq] at e
        obtain ⟨rfl, rfl, rfl⟩ := e
        dsimp only at hx ⊢
        have hne : l' ≠ [] := fun e => by
          subst e
          have := (mem_joinsL.1 hx.mem).1
          simp at this; omega
        rw [grd_eq (by simp [hne])]
        refine ⟨_, rfl, rfl, ?_⟩
        exact (ext_step hlJ).2 ⟨(j : Int) - 1, by omega, fun _ => hs, hx⟩
    have hgj : J[(0 : Int).toNat]? = some (J.getD ([] : List Int).length 0) := gets (k := 0) hlJ 0
    generalize hji : J.getD ([] : List Int).length 0 = ji at *
    have es : stpB (canT A B s) J [] left ((j : Int) - 1) = ((decide ((j : Int) - 1 = -1) || (!hasB [] ((j : Int) - 1) && canT A B s ([] : List Int).length ((j : Int) - 1).toNat)) && !(!decide ((j : Int) - 1 = ji) && decide (left = 0))) := by unfold stpB; rw [hji]
    have en : nowJ J [] left ((j : Int) - 1) = if (j : Int) - 1 = ji then left else left - 1 := by unfold nowJ; rw [hji]
    by_cases c0 : (j : Int) - 1 = -1
    · rw [br_nd c0, idx_eq (by omega) hgj]
      rw [decide_eq_true c0, Bool.true_or, Bool.true_and] at es
      by_cases c1 : (j : Int) - 1 = ji
      · rw [br_nd c1, idx_eq (by omega) hgj, br_nd c1]
        rw [if_pos c1] at en
        rw [en] at hstep
        exact hstep (by rw [es, decide_eq_true c1]; rfl)
      · rw [br_nnd c1]
        rw [if_neg c1] at en
        rw [en] at hstep
        by_cases c2 : left = 0
        · rw [br_dec c2]
          exact hskip (by rw [es, decide_eq_false c1, decide_eq_true c2]; rfl)
        · rw [br_ndec c2, idx_eq (by omega) hgj, br_nnd c1, chk_eq (by omega)]
          exact hstep (by rw [es, decide_eq_false c2, Bool.and_false]; rfl)
    · rw [br_nnd c0, containsi_v (by simp) (by simp; omega)]
      rw [decide_eq_false c0, Bool.false_or] at es
      simp only [Option.bind_some]
      obtain ⟨q, hq⟩ : ∃ q : Nat, (j : Int) - 1 = q := ⟨((j : Int) - 1).toNat, by omega⟩
      cases hb : hasB [] ((j : Int) - 1)
      rotate_left
      · rw [hb] at es
        rw [br_true]
        exact hskip (by rw [es]; rfl)
      rw [hb, Bool.not_false, Bool.true_and] at es
      rw [br_false]
      have hcan : can_S N (dkT W s L F R A B) 0 ((j : Int) - 1) = some (canT A B s ([] : List Int).length ((j : Int) - 1).toNat) := by
        rw [hq, Int.toNat_natCast]
        exact can_T (i := ([] : List Int).length) (by omega) (by omega)
      rw [hcan]
      simp only [Option.bind_some]
      cases hcn : canT A B s ([] : List Int).length ((j : Int) - 1).toNat
      · rw [hcn] at es
        rw [Bool.not_false, br_true]
        exact hskip (by rw [es]; rfl)
      rw [hcn, Bool.true_and] at es
      rw [Bool.not_true, br_false, idx_eq (by omega) hgj]
      by_cases c1 : (j : Int) - 1 = ji
      · rw [br_nd c1, idx_eq (by omega) hgj, br_nd c1]
        rw [if_pos c1] at en
        rw [en] at hstep
        exact hstep (by rw [es, decide_eq_true c1]; rfl)
      · rw [br_nnd c1]
        rw [if_neg c1] at en
        rw [en] at hstep
        by_cases c2 : left = 0
        · rw [br_dec c2]
          exact hskip (by rw [es, decide_eq_false c1, decide_eq_true c2]; rfl)
        · rw [br_ndec c2, idx_eq (by omega) hgj, br_nnd c1, chk_eq (by omega)]
          exact hstep (by rw [es, decide_eq_false c2, Bool.and_false]; rfl)

end
end Go.Proofs.Ythncjilcflilcaa

namespace Go.Proofs.Ythncjilcflilcaa
set_option linter.all false
open Go

section
variable {W : List Int} {s : Int} {L F : List (List Int)} {R : List Int} {A B : Nat → Nat → Int} {N : Nat}
theorem joins_all {can : Nat → Nat → Bool} {m n : Nat} {l : List Int} (h : l ∈ joinsL can m n 0 0) : l.length = n ∧ l.all (inm m) = true := by
  obtain ⟨_, h1, h2, _⟩ := errJ_fine (errJ_mt.2 h)
  exact ⟨h1, h2⟩
theorem nil_joins {can : Nat → Nat → Bool} {m : Nat} : ([] : List Int) ∈ joinsL can m ([] : List Int).length 0 0 := by simp [joinsL]
theorem now_bound {can : Nat → Nat → Bool} {J l : List Int} {left k : Int} (h : stpB can J l left k = true) (hl : 0 ≤ left ∧ left ≤ 100) : 0 ≤ nowJ J l left k ∧ nowJ J l left k ≤ 100 := by
  unfold stpB at h
  rw [Bool.and_eq_true, Bool.not_eq_true', Bool.and_eq_false_iff] at h
  unfold nowJ
  split
  · exact hl
  · rename_i e
    rcases h.2 with h | h
    · rw [decide_eq_false e] at h; cases h
    · rw [decide_eq_false_iff_not] at h; omega
theorem stp_snoc {can : Nat → Nat → Bool} {m : Nat} {J l : List Int} {left k : Int} (h : stpB can J l left k = true) (hk : -1 ≤ k ∧ k ≤ (m : Int) - 1) (hl : l ∈ joinsL can m l.length 0 0) : l ++ [k] ∈ joinsL can m (l ++ [k]).length 0 0 := by
  unfold stpB at h
  rw [Bool.and_eq_true] at h
  exact mt_snoc hl hk h.1
theorem put_R_p {J : List Int} {w0 : Int} (hN : 110 ≤ N) (hF : F.length ≤ 6) (hJ : J.length ≤ 6) (hA : ∀ i k, 0 ≤ A i k ∧ A i k ≤ 50) : ∀ (fu d : Nat) (l : List Int) (left : Int), d < fu → l.length + d = J.length → l ≠ [] → 0 ≤ left ∧ left ≤ 100 → l ∈ joinsL (canT A B s) F.length l.length 0 0 →
    ∃ r, put_R N fu l left J (dkT W s L F R A B) w0 J (dkT W s L F R A B) w0 = some r ∧ PutR (canT A B s) A F.length J w0 l left (dkT W s L F R A B) r
  | 0, d, l, left, h, _, _, _, _ => by omega
  | fu + 1, d, l, left, h, hd, hne, hleft, hl => by
    show ∃ r, put_S N (put_R N fu) l left J (dkT W s L F R A B) w0 J (dkT W s L F R A B) w0 = some r ∧ _
    unfold put_S
    cases d with
    | zero =>
      have hlen : l.length = J.length := by omega
      rw [br_dec (by omega), dworth_v hN hA (by omega) hF (joins_all hl).2]
      simp only [Option.bind_some]
      by_cases c : w0 < valJ A 0 l
      · rw [br_dec c]
        refine ⟨_, rfl, rfl, ?_⟩
        rw [hlen] at hl
        exact ⟨hl, List.take_length, c, by rw [List.drop_of_length_le (by omega), show List.drop l.length l = [] from List.drop_length]; simp [apL, hleft.1]⟩
      · rw [br_ndec c]
        refine ⟨_, rfl, rfl, fun l' hx => ?_⟩
        have h1 := (joins_all hx.mem).1
        have h2 := hx.pre
        rw [List.take_of_length_le (by omega)] at h2
        rw [h2] at hx
        exact c hx.more
    | succ d =>
      have hlJ : l.length < J.length := by omega
      rw [br_ndec (by omega)]
      obtain ⟨r, r1, r2⟩ := put_l1_p (N := N) (W := W) (s := s) (L := L) (F := F) (R := R) (A := A) (B := B) (w0 := w0) (self := put_R N fu) hne hN hF hJ hlJ hleft hl (fun k hs hk => put_R_p hN hF hJ hA fu d (l ++ [k]) _ (by omega) (by simp; omega) (by simp) (now_bound hs hleft) (stp_snoc hs hk hl)) N 0 (by omega) (by omega)
      rw [show ((0 : Nat) : Int) - 1 = -1 from rfl] at r1
      rw [r1]
      simp only [Option.bind_some]
      cases r with
      | inl r =>
        obtain ⟨l', g1, g2, g3⟩ := r
        exact ⟨_, rfl, r2⟩
      | inr g =>
        obtain ⟨g1, g2, g3⟩ := g
        refine ⟨_, rfl, r2.1, fun l' hx => ?_⟩
        obtain ⟨k, hk, hs, hx'⟩ := (ext_step hlJ).1 hx
        exact r2.2 l' k (by omega) hk.2 (hs hleft.1) hx'
/-- Better joins. -/
structure Better (can : Nat → Nat → Bool) (A : Nat → Nat → Int) (m : Nat) (J l : List Int) : Prop where
  mem : l ∈ joinsL can m J.length 0 0
  more : valJ A 0 J < valJ A 0 l
theorem Better.ap {can : Nat → Nat → Bool} {m : Nat} {J l : List Int} (h : Better can A m J l) : 0 < apL J l ∧ apL J l ≤ J.length := by
  have h1 := apL_bound J l
  refine ⟨?_, h1.2⟩
  rcases Int.lt_or_eq_of_le h1.1 with h2 | h2
  · exact h2
  · have := apL_zero (by rw [(joins_all h.mem).1]) h2.symm
    have hm := h.more
    rw [← this] at hm; omega
theorem changed_v {J : List Int} (hN : 110 ≤ N) (hF : F.length ≤ 6) (hJ : J.length ≤ 6) (hJ0 : 0 < J.length) (hA : ∀ i k, 0 ≤ A i k ∧ A i k ≤ 50) (hJm : J ∈ joinsL (canT A B s) F.length J.length 0 0) {more : Int} (hm : 0 ≤ more ∧ more ≤ 100) :
    ∃ r, changed_S N (dkT W s L F R A B) J more = some r ∧ match r with
      | .inl _ => ∀ l, Better (canT A B s) A F.length J l → more < apL J l
      | .inr l => Better (canT A B s) A F.length J l ∧ apL J l ≤ more := by
  unfold changed_S
  rw [dworth_v hN hA hJ hF (joins_all hJm).2]
  simp only [Option.bind_some]
  unfold put0_S
  rw [br_ndec (by omega)]
  obtain ⟨r, r1, r2⟩ := put0_l1_p (N := N) (W := W) (s := s) (L := L) (F := F) (R := R) (A := A) (B := B) (w0 := valJ A 0 J) hN hF hJ hJ0 hm nil_joins (fun k hs hk => by
    have := put_R_p (N := N) (W := W) (s := s) (L := L) (F := F) (R := R) (A := A) (B := B) (w0 := valJ A 0 J) hN hF hJ hA N (J.length - 1) [k] (nowJ J [] more k) (by omega) (by simp; omega) (by simp) (now_bound hs hm) (stp_snoc hs hk nil_joins)
    exact this) N 0 (by omega) (by omega)
  rw [show ((0 : Nat) : Int) - 1 = -1 from rfl] at r1
  rw [r1]
  simp only [Option.bind_some]
  cases r with
  | inl r =>
    obtain ⟨l', g1, g2, g3⟩ := r
    refine ⟨_, rfl, ⟨r2.2.mem, r2.2.more⟩, ?_⟩
    have := r2.2.ap
    simpa using this
  | inr g =>
    obtain ⟨g1, g2, g3⟩ := g
    refine ⟨_, rfl, fun l' hb => ?_⟩
    by_cases h : more < apL J l'
    · exact h
    · have hx : ExtJ (canT A B s) A F.length J (valJ A 0 J) [] l' more := ⟨hb.mem, by simp, hb.more, by simpa using Int.not_lt.1 h⟩
      obtain ⟨k, hk, hs, hx'⟩ := (ext_step (l := []) hJ0).1 hx
      exact absurd hx' (r2.2 l' k (by omega) hk.2 (hs hm.1))
theorem change_l1_p {J : List Int} (hN : 110 ≤ N) (hF : F.length ≤ 6) (hJ : J.length ≤ 6) (hA : ∀ i k, 0 ≤ A i k ∧ A i k ≤ 50) (hJm : J ∈ joinsL (canT A B s) F.length J.length 0 0) (hex : ∃ l, Better (canT A B s) A F.length J l) :
    ∀ n k : Nat, J.length < n + k → (∀ l, Better (canT A B s) A F.length J l → (k : Int) < apL J l) → ∃ l, change_l1 N n J (dkT W s L F R A B) J.length k = some l ∧ Better (canT A B s) A F.length J l ∧ ∀ l', Better (canT A B s) A F.length J l' → apL J l ≤ apL J l'
  | 0, k, h, hk => by
    obtain ⟨l, hl⟩ := hex
    have := hk l hl
    have := hl.ap
    omega
  | n + 1, k, h, hk => by
    unfold change_l1
    have hlt : k < J.length := by
      obtain ⟨l, hl⟩ := hex
      have := hk l hl
      have := hl.ap
      omega
    obtain ⟨r, r1, r2⟩ := changed_v (N := N) (W := W) (s := s) (L := L) (F := F) (R := R) (A := A) (B := B) hN hF hJ (by omega) hA hJm (more := (k : Int) + 1) (by omega)
    rw [br_dec (by omega), chk_eq (by omega), r1]
    simp only [Option.bind_some]
    cases r with
    | inl u =>
      have ih := change_l1_p hN hF hJ hA hJm hex n (k + 1) (by omega) (fun l hl => by have := r2 l hl; omega)
      rw [nat_succ] at ih
      dsimp only
      rw [chk_eq (by omega)]
      exact ih
    | inr l =>
      dsimp only at r2 ⊢
      have hne : l ≠ [] := fun e => by
        have := (joins_all r2.1.mem).1
        rw [e] at this
        simp at this; omega
      rw [grd_eq (by simp [hne])]
      exact ⟨l, rfl, r2.1, fun l' hl' => by have := hk l' hl'; omega⟩
theorem change_v (hN : 110 ≤ N) (h : Sm W L F R) {J : List Int} (hJ : J.length ≤ 100) : ∃ r, change_S N W s L F R J = some r ∧
    ((errJ (errD W s L F R) L.length F.length (canF W s L F) J ≠ 0 ∧ r = ([], errJ (errD W s L F R) L.length F.length (canF W s L F) J)) ∨
    (errJ (errD W s L F R) L.length F.length (canF W s L F) J = 0 ∧ ((valJ (agF W L F) 0 J = bestV W s L F ∧ r = ([], 6)) ∨
      (valJ (agF W L F) 0 J < bestV W s L F ∧ r.2 = 0 ∧ Better (canF W s L F) (agF W L F) F.length J r.1 ∧ ∀ l, Better (canF W s L F) (agF W L F) F.length J l → apL J r.1 ≤ apL J l)))) := by
  unfold change_S
  rw [joined_v hN h hJ]
  by_cases c : errJ (errD W s L F R) L.length F.length (canF W s L F) J = 0
  rotate_left
  · rw [if_neg c]
    simp only [Option.bind_some]
    rw [br_nnd c]
    exact ⟨_, rfl, .inl ⟨c, rfl⟩⟩
  obtain ⟨c1, c2, c3, _⟩ := errJ_fine c
  have hF := errD_iff.1 c1
  have hl6 := hF.l6; have hf6 := hF.f6
  have hm : J ∈ joinsL (canF W s L F) F.length L.length 0 0 := by rw [c1] at c; exact errJ_mt.1 c
  rw [if_pos c]
  simp only [Option.bind_some]
  rw [br_nd (by first | trivial | rfl)]
  unfold dkO
  rw [dworth_v hN (agF_bound hF) (by omega) hf6 c3]
  simp only [Option.bind_some]
  have e0 := first_v (N := N) (W := W) (s := s) (R := R) (B := slF W L F) hN hf6 hl6 (agF_bound hF) (u := 0) (by omega)
  rw [show ((0 : Nat) : Int) = 0 from rfl] at e0
  rw [e0]
  simp only [Option.bind_some]
  have ev : (rsR (canT (agF W L F) (slF W L F) s) (agF W L F) F.length L.length 0 0).2.1 = bestV W s L F := rfl
  rw [ev]
  by_cases d : valJ (agF W L F) 0 J = bestV W s L F
  · rw [br_dec d]
    exact ⟨_, rfl, .inr ⟨c, .inl ⟨d, rfl⟩⟩⟩
  rw [br_ndec d]
  have hlt : valJ (agF W L F) 0 J < bestV W s L F := by have := best_le hm; omega
  have hex : ∃ l, Better (canF W s L F) (agF W L F) F.length J l := ⟨bestL W s L F, by rw [c2]; exact bl_mem, by rw [bl_val]; exact hlt⟩
  obtain ⟨l, l1, l2, l3⟩ := change_l1_p (N := N) (W := W) (s := s) (L := L) (F := F) (R := R) (A := agF W L F) (B := slF W L F) hN hf6 (by omega) (agF_bound hF) (by rw [c2]; exact hm) hex N 0 (by omega) (fun l hl => by have := hl.ap; omega)
  rw [show ((0 : Nat) : Int) = 0 from rfl] at l1
  rw [l1]
  exact ⟨_, rfl, .inr ⟨c, .inr ⟨hlt, rfl, l2, l3⟩⟩⟩
/-! ### The reference -/
end
end Go.Proofs.Ythncjilcflilcaa

namespace Go.Proofs.Ythncjilcflilcaa
set_option linter.all false
open Go

section
variable {W : List Int} {s : Int} {L F : List (List Int)} {R : List Int} {A B : Nat → Nat → Int} {N : Nat}
/-! ### What is spare -/
end
end Go.Proofs.Ythncjilcflilcaa

namespace Go.Proofs.Ythncjilcflilcaa
set_option linter.all false
open Go
/-! ### Bells -/
theorem wrap32 (x : Int) : 0 ≤ IntKind.u32.wrap x ∧ IntKind.u32.wrap x < 4294967296 := by
  have := wrap_inR .u32 x
  have h1 : IntKind.u32.min = 0 := by decide
  have h2 : IntKind.u32.max = 4294967295 := by decide
  unfold inR at this
  rw [h1, h2] at this
  omega
def Bell (b : List Int) (b2 : Int) : Prop := b.length ≤ 9223372036854775807 ∧ 0 ≤ b2 ∧ b2 ≤ b.length
abbrev BellR (b : List Int) (r : List Int × Int × Int) : Prop := r.1 = b ∧ Bell b r.2.1
theorem and_small (n : Nat) : 0 ≤ IntKind.i64.wrap ((n &&& 65535 : Nat) : Int) ∧ IntKind.i64.wrap ((n &&& 65535 : Nat) : Int) ≤ 65535 := by
  have : n &&& 65535 ≤ 65535 := Nat.and_le_right
  rw [wrap64 (by omega)]
  omega
theorem fdiv_nonneg {x : Int} (h : 0 ≤ x) : 0 ≤ Int.fdiv x (2 ^ 7) := by
  rw [Int.fdiv_eq_ediv_of_nonneg _ (by decide)]
  exact Int.ediv_nonneg h (by decide)
theorem ring_j1_ok (N : Nat) {b : List Int} {b2 b3 : Int} (hb : b.length ≤ 9223372036854775807) (h0 : 0 ≤ b2) (h1 : b2 < b.length ∨ b.length = 0 ∧ b2 = 0) : Ok (ring_j1 N b b2 b3) fun r => (0 ≤ r.1 ∧ r.1 ≤ 65535) ∧ BellR b r.2 := by
  unfold ring_j1
  refine Ok.brd (fun h => ?_) (fun h => ?_)
  · refine Ok.idx h0 (by omega) (fun a _ _ => Ok.chk (by omega) (Ok.grd ?_ (Ok.grd ?_ (Ok.some ?_))))
    · simp only [decide_eq_true_eq]; exact ⟨(wrap32 _).1, fdiv_nonneg (wrap32 _).1⟩
    · simp only [decide_eq_true_eq]; exact ⟨Int.natCast_nonneg _, by decide⟩
    · exact ⟨and_small _, rfl, hb, by dsimp only; omega, by dsimp only; omega⟩
  · refine Ok.grd ?_ (Ok.grd ?_ (Ok.some ?_))
    · simp only [decide_eq_true_eq]; exact ⟨(wrap32 _).1, fdiv_nonneg (wrap32 _).1⟩
    · simp only [decide_eq_true_eq]; exact ⟨Int.natCast_nonneg _, by decide⟩
    · exact ⟨and_small _, rfl, hb, by dsimp only; omega, by dsimp only; omega⟩
theorem ring_ok (N : Nat) {b : List Int} {b2 b3 : Int} (hb : Bell b b2) : Ok (ring_S N b b2 b3) fun r => (0 ≤ r.1 ∧ r.1 ≤ 65535) ∧ BellR b r.2 := by
  obtain ⟨h1, h2, h3⟩ := hb
  unfold ring_S
  refine Ok.brd (fun h => ring_j1_ok N h1 (by omega) (by omega)) (fun h => ring_j1_ok N h1 h2 (by omega))
theorem stroke_ok (N : Nat) {n : Int} {b : List Int} {b2 b3 : Int} (hb : Bell b b2) (hn : -1000000 ≤ n ∧ n ≤ 1000000) : Ok (stroke_S N n b b2 b3) fun r => (0 ≤ r.1 ∧ r.1 ≤ max 0 n) ∧ BellR b r.2 := by
  unfold stroke_S
  refine Ok.bind (ring_ok N hb) (fun r hr => ?_)
  obtain ⟨x, c, c2, c3⟩ := r
  refine Ok.chk (by omega) (Ok.grd (by simp only [Bool.not_eq_true', decide_eq_false_iff_not]; omega) (Ok.some ⟨?_, hr.2⟩))
  obtain ⟨⟨h1, h2⟩, _⟩ := hr
  dsimp only at *
  have hm : 0 < max 1 (n + 1) := by omega
  have := Int.tmod_lt_of_pos x hm
  have := Int.tmod_nonneg (max 1 (n + 1)) h1
  omega
theorem strike_ok (N : Nat) {lo hi : Int} {b : List Int} {b2 b3 : Int} (hb : Bell b b2) (hn : (-1000 ≤ lo ∧ lo ≤ 1000) ∧ -1000 ≤ hi ∧ hi ≤ 1000) : Ok (strike_S N lo hi b b2 b3) fun r => (lo ≤ r.1 ∧ r.1 ≤ max lo hi) ∧ BellR b r.2 := by
  unfold strike_S
  refine Ok.chk (by omega) (Ok.bind (stroke_ok N hb (by omega)) (fun r hr => ?_))
  obtain ⟨x, c, c2, c3⟩ := r
  obtain ⟨h, h2⟩ := hr
  dsimp only at *
  refine Ok.chk (by omega) (Ok.some ⟨by dsimp only; omega, h2⟩)
theorem seldom_ok (N : Nat) {n : Int} {b : List Int} {b2 b3 : Int} (hb : Bell b b2) (hn : -1000 ≤ n ∧ n ≤ 1000) : Ok (seldom_S N n b b2 b3) fun r => BellR b r.2 := by
  unfold seldom_S
  refine Ok.chk (by omega) (Ok.bind (stroke_ok N hb (by omega)) (fun r hr => ?_))
  obtain ⟨x, c, c2, c3⟩ := r
  exact Ok.some hr.2

def BelR (b b' : List Int) (b2 : Int) : Prop := b' = b ∧ Bell b b2
/-! ### Desks -/
section
variable {N : Nat} {b : List Int}
theorem made1_ok {often b2 b3 : Int} (ho : -1000 ≤ often ∧ often ≤ 1000) (hb : Bell b b2) : Ok (made1_S N often b b2 b3) fun r => (-1 ≤ r.1 ∧ r.1 ≤ 5) ∧ BelR b r.2.1 r.2.2.1 := by
  unfold made1_S
  refine Ok.bind (seldom_ok N hb ho) ?_
  rintro ⟨x, c1, c2, c3⟩ ⟨hc, hb1⟩
  dsimp only at hc hb1 ⊢
  obtain rfl := hc.symm
  refine Ok.br (fun _ => Ok.some ⟨by dsimp only; omega, rfl, hb1⟩) (fun _ => ?_)
  refine Ok.bind (stroke_ok N hb1 (by omega)) ?_
  rintro ⟨y, d1, d2, d3⟩ ⟨hy, hc, hb2⟩
  dsimp only at hy hc hb2 ⊢
  obtain rfl := hc.symm
  exact Ok.some ⟨by dsimp only; omega, rfl, hb2⟩
theorem made_l1_p {things u g d : Int} (hu : 0 ≤ u ∧ u ≤ 100) : ∀ (n k : Nat) (b2 b3 : Int) (W : List Int), u < n + k → (k : Int) ≤ u → Bell b b2 → W.length = k → (∀ x ∈ W, 1 ≤ x ∧ x ≤ 9) →
    Ok (made_l1 N n things u k b b2 b3 g d W) fun z => z.1 = things ∧ BelR b z.2.1 z.2.2.1 ∧ z.2.2.2.2.1 = g ∧ z.2.2.2.2.2.1 = d ∧ (z.2.2.2.2.2.2.length : Int) = u ∧ ∀ x ∈ z.2.2.2.2.2.2, 1 ≤ x ∧ x ≤ 9
  | 0, k, b2, b3, W, h, _, _, _, _ => by omega
  | n + 1, k, b2, b3, W, h, hk, hb, hW, hw => by
    unfold made_l1
    refine Ok.brd (fun c => ?_) (fun c => Ok.some ⟨rfl, ⟨rfl, hb⟩, rfl, rfl, by dsimp only; omega, hw⟩)
    refine Ok.bind (strike_ok N hb (by omega)) ?_
    rintro ⟨x, c1, c2, c3⟩ ⟨hx, hc, hb1⟩
    dsimp only at hx hc hb1 ⊢
    obtain rfl := hc.symm
    refine Ok.lim (by simp; omega) (Ok.chk (by omega) ?_)
    have := made_l1_p (things := things) (g := g) (d := d) hu n (k + 1) c2 c3 (W ++ [x]) (by omega) (by omega) hb1 (by simp [hW]) (fun w hm => by
      rcases List.mem_append.1 hm with hm | hm
      · exact hw w hm
      · simp at hm; subst hm; omega)
    rw [nat_succ] at this
    exact this
theorem made_l3_p {many often u u2 u3 g d : Int} {d2 : List Int} {d3 : List (List Int)} {d4 : List Int} (ho : 2 ≤ often ∧ often ≤ 5) (hu : 0 ≤ u3 ∧ u3 ≤ 100) : ∀ (n k : Nat) (b2 b3 : Int) (l : List Int), u3 < n + k → (k : Int) ≤ u3 → Bell b b2 → l.length = k → (∀ x ∈ l, -1 ≤ x ∧ x ≤ 5) →
    Ok (made_l3 N n many often u u2 u3 k b b2 b3 g d l d2 d3 d4) fun z => ∃ b2' b3' l', z = (many, often, u, u2, b, b2', b3', g, d, l', d2, d3, d4) ∧ Bell b b2' ∧ (l'.length : Int) = u3 ∧ ∀ x ∈ l', -1 ≤ x ∧ x ≤ 5
  | 0, k, b2, b3, l, h, _, _, _, _ => by omega
  | n + 1, k, b2, b3, l, h, hk, hb, hW, hw => by
    unfold made_l3
    refine Ok.brd (fun c => ?_) (fun c => Ok.some ⟨b2, b3, l, rfl, hb, by omega, hw⟩)
    refine Ok.bind (made1_ok (by omega) hb) ?_
    rintro ⟨x, c1, c2, c3⟩ ⟨hx, hc, hb1⟩
    dsimp only at hx hc hb1 ⊢
    obtain rfl := hc.symm
    refine Ok.lim (by simp; omega) (Ok.chk (by omega) ?_)
    have := made_l3_p (many := many) (often := often) (u := u) (u2 := u2) (g := g) (d := d) (d2 := d2) (d3 := d3) (d4 := d4) ho hu n (k + 1) c2 c3 (l ++ [x]) (by omega) (by omega) hb1 (by simp [hW]) (fun w hm => by
      rcases List.mem_append.1 hm with hm | hm
      · exact hw w hm
      · simp at hm; subst hm; omega)
    rw [nat_succ] at this
    exact this
theorem made_l5_p {often u u2 u3 g d : Int} {d2 : List Int} {d3 d4 : List (List Int)} {d5 : List Int} (ho : 2 ≤ often ∧ often ≤ 5) (hu : 0 ≤ u3 ∧ u3 ≤ 100) : ∀ (n k : Nat) (b2 b3 : Int) (l : List Int), u3 < n + k → (k : Int) ≤ u3 → Bell b b2 → l.length = k → (∀ x ∈ l, -1 ≤ x ∧ x ≤ 5) →
    Ok (made_l5 N n often u u2 u3 k b b2 b3 g d l d2 d3 d4 d5) fun z => ∃ b2' b3' l', z = (often, u, u2, b, b2', b3', g, d, l', d2, d3, d4, d5) ∧ Bell b b2' ∧ (l'.length : Int) = u3 ∧ ∀ x ∈ l', -1 ≤ x ∧ x ≤ 5
  | 0, k, b2, b3, l, h, _, _, _, _ => by omega
  | n + 1, k, b2, b3, l, h, hk, hb, hW, hw => by
    unfold made_l5
    refine Ok.brd (fun c => ?_) (fun c => Ok.some ⟨b2, b3, l, rfl, hb, by omega, hw⟩)
    refine Ok.bind (made1_ok (by omega) hb) ?_
    rintro ⟨x, c1, c2, c3⟩ ⟨hx, hc, hb1⟩
    dsimp only at hx hc hb1 ⊢
    obtain rfl := hc.symm
    refine Ok.lim (by simp; omega) (Ok.chk (by omega) ?_)
    have := made_l5_p (often := often) (u := u) (u2 := u2) (g := g) (d := d) (d2 := d2) (d3 := d3) (d4 := d4) (d5 := d5) ho hu n (k + 1) c2 c3 (l ++ [x]) (by omega) (by omega) hb1 (by simp [hW]) (fun w hm => by
      rcases List.mem_append.1 hm with hm | hm
      · exact hw w hm
      · simp at hm; subst hm; omega)
    rw [nat_succ] at this
    exact this
/-- Descriptions of so many traits. -/
def okRow (m : Nat) (r : List Int) : Prop := r.length = m ∧ ∀ x ∈ r, -1 ≤ x ∧ x ≤ 5
theorem made_l2_p (hN : 110 ≤ N) {many often u g d : Int} {W : List Int} (hW : W.length ≤ 5) (ho : 2 ≤ often ∧ often ≤ 5) (hu : 0 ≤ u ∧ u ≤ 6) : ∀ (n k : Nat) (b2 b3 : Int) (L : List (List Int)) (R : List Int), u < n + k → (k : Int) ≤ u → Bell b b2 → L.length = k → R.length = k → (∀ r ∈ L, okRow W.length r) → (∀ x ∈ R, 0 ≤ x ∧ x ≤ 99) →
    Ok (made_l2 N n many often u k b b2 b3 g d W L R) fun z => ∃ b2' b3' L' R', z = (many, often, b, b2', b3', g, d, W, L', R') ∧ Bell b b2' ∧ ((L'.length : Int) = u ∧ R'.length = L'.length) ∧ (∀ r ∈ L', okRow W.length r) ∧ ∀ x ∈ R', 0 ≤ x ∧ x ≤ 99
  | 0, k, b2, b3, L, R, h, _, _, _, _, _, _ => by omega
  | n + 1, k, b2, b3, L, R, h, hk, hb, hL, hR, hl, hr => by
    unfold made_l2
    refine Ok.brd (fun c => ?_) (fun c => Ok.some ⟨b2, b3, L, R, rfl, hb, ⟨by omega, by omega⟩, hl, hr⟩)
    have e := made_l3_p (N := N) (many := many) (often := often) (u := u) (u2 := (k : Int)) (u3 := W.length) (g := g) (d := d) (d2 := W) (d3 := L) (d4 := R) ho (by omega) N 0 b2 b3 [] (by omega) (by omega) hb rfl (fun x h => by cases h)
    rw [show ((0 : Nat) : Int) = 0 from rfl] at e
    refine Ok.bind e ?_
    rintro _ ⟨b2', b3', l', rfl, hb1, hl1, hl2⟩
    dsimp only
    refine Ok.lim (by simp; omega) (Ok.bind (stroke_ok N hb1 (by omega)) ?_)
    rintro ⟨y, d1, d2, d3⟩ ⟨hy, hc, hb2⟩
    dsimp only at hy hc hb2 ⊢
    obtain rfl := hc.symm
    refine Ok.lim (by simp; omega) (Ok.chk (by omega) ?_)
    have := made_l2_p hN (many := many) (g := g) (d := d) hW ho hu n (k + 1) d2 d3 (L ++ [l']) (R ++ [y]) (by omega) (by omega) hb2 (by simp [hL]) (by simp [hR]) (fun r hm => by
      rcases List.mem_append.1 hm with hm | hm
      · exact hl r hm
      · simp at hm; subst hm; exact ⟨by omega, hl2⟩) (fun x hm => by
      rcases List.mem_append.1 hm with hm | hm
      · exact hr x hm
      · simp at hm; subst hm; omega)
    rw [nat_succ] at this
    exact this
theorem made_l4_p (hN : 110 ≤ N) {often u g d : Int} {W R : List Int} {L : List (List Int)} (hW : W.length ≤ 5) (ho : 2 ≤ often ∧ often ≤ 5) (hu : 0 ≤ u ∧ u ≤ 6) : ∀ (n k : Nat) (b2 b3 : Int) (F : List (List Int)), u < n + k → (k : Int) ≤ u → Bell b b2 → F.length = k → (∀ r ∈ F, okRow W.length r) →
    Ok (made_l4 N n often u k b b2 b3 g d W L F R) fun z => ∃ b2' b3' F', z = (b, b2', b3', g, d, W, L, F', R) ∧ Bell b b2' ∧ (F'.length : Int) = u ∧ ∀ r ∈ F', okRow W.length r
  | 0, k, b2, b3, F, h, _, _, _, _ => by omega
  | n + 1, k, b2, b3, F, h, hk, hb, hL, hl => by
    unfold made_l4
    refine Ok.brd (fun c => ?_) (fun c => Ok.some ⟨b2, b3, F, rfl, hb, by omega, hl⟩)
    have e := made_l5_p (N := N) (often := often) (u := u) (u2 := (k : Int)) (u3 := W.length) (g := g) (d := d) (d2 := W) (d3 := L) (d4 := F) (d5 := R) ho (by omega) N 0 b2 b3 [] (by omega) (by omega) hb rfl (fun x h => by cases h)
    rw [show ((0 : Nat) : Int) = 0 from rfl] at e
    refine Ok.bind e ?_
    rintro _ ⟨b2', b3', l', rfl, hb1, hl1, hl2⟩
    dsimp only
    refine Ok.lim (by simp; omega) (Ok.chk (by omega) ?_)
    have := made_l4_p hN (g := g) (d := d) (L := L) (R := R) hW ho hu n (k + 1) b2' b3' (F ++ [l']) (by omega) (by omega) hb1 (by simp [hL]) (fun r hm => by
      rcases List.mem_append.1 hm with hm | hm
      · exact hl r hm
      · simp at hm; subst hm; exact ⟨by omega, hl2⟩)
    rw [nat_succ] at this
    exact this
theorem made_v (hN : 110 ≤ N) {things b2 b3 : Int} (ht : 0 ≤ things ∧ things ≤ 6) (hb : Bell b b2) :
    Ok (made_S N things b b2 b3) fun z => Fine z.1 z.2.1 z.2.2.1 z.2.2.2.1 z.2.2.2.2.1 ∧ ((z.2.2.1.length : Int) ≤ things ∧ (z.2.2.2.1.length : Int) ≤ things) ∧ z.2.1 ≤ 2 ∧ BelR b z.2.2.2.2.2.1 z.2.2.2.2.2.2.1 := by
  unfold made_S
  refine Ok.bind (stroke_ok N hb (by omega)) ?_
  rintro ⟨x, c1, c2, c3⟩ ⟨hx, hc, hb1⟩
  dsimp only at hx hc hb1 ⊢
  obtain rfl := hc.symm
  refine Ok.bind (strike_ok N hb1 (by omega)) ?_
  rintro ⟨m, d1, d2, d3⟩ ⟨hm, hc, hb2⟩
  dsimp only at hm hc hb2 ⊢
  obtain rfl := hc.symm
  have e1 := made_l1_p (N := N) (things := things) (g := 0) (d := x) (u := m) (by omega) N 0 d2 d3 [] (by omega) (by omega) hb2 rfl (fun w h => by cases h)
  rw [show ((0 : Nat) : Int) = 0 from rfl] at e1
  refine Ok.bind e1 ?_
  rintro ⟨t', f1, f2, f3, g', x', W⟩ ⟨q1, ⟨q2, hb3⟩, q3, q4, hl, hW⟩
  dsimp only at q1 q2 q3 q4 hb3 hl hW ⊢
  obtain rfl := q1.symm
  obtain rfl := q2.symm
  obtain rfl := q3.symm
  obtain rfl := q4.symm
  refine Ok.bind (stroke_ok N hb3 (by omega)) ?_
  rintro ⟨many, h1, h2, h3⟩ ⟨hmany, hc, hb4⟩
  dsimp only at hmany hc hb4 ⊢
  obtain rfl := hc.symm
  refine Ok.bind (strike_ok N hb4 (by omega)) ?_
  rintro ⟨often, i1, i2, i3⟩ ⟨hoften, hc, hb5⟩
  dsimp only at hoften hc hb5 ⊢
  obtain rfl := hc.symm
  refine Ok.bind (stroke_ok N hb5 (by omega)) ?_
  rintro ⟨u, j1, j2, j3⟩ ⟨hu, hc, hb6⟩
  dsimp only at hu hc hb6 ⊢
  obtain rfl := hc.symm
  have e2 := made_l2_p hN (many := many) (often := often) (u := u) (g := 0) (d := x) (W := W) (by omega) (by omega) (by omega) N 0 j2 j3 [] [] (by omega) (by omega) hb6 rfl rfl (fun x h => by cases h) (fun x h => by cases h)
  rw [show ((0 : Nat) : Int) = 0 from rfl] at e2
  refine Ok.bind e2 ?_
  rintro _ ⟨k2, k3, L, R, rfl, hb7, ⟨hL, hR⟩, hl2, hr2⟩
  dsimp only
  have e3 := made_l4_p hN (often := often) (u := many) (g := 0) (d := x) (W := W) (L := L) (R := R) (by omega) (by omega) (by omega) N 0 k2 k3 [] (by omega) (by omega) hb7 rfl (fun x h => by cases h)
  rw [show ((0 : Nat) : Int) = 0 from rfl] at e3
  refine Ok.bind e3 ?_
  rintro _ ⟨l2, l3, F, rfl, hb8, hF, hf2⟩
  dsimp only
  exact Ok.some ⟨⟨by dsimp only; omega, by dsimp only; omega, by dsimp only; omega, by dsimp only; omega, fun r hr => (hl2 r hr).1, fun r hr => (hf2 r hr).1, hR, hW, by dsimp only; omega, hr2, fun r hr => (hl2 r hr).2, fun r hr => (hf2 r hr).2⟩, ⟨by dsimp only; omega, by dsimp only; omega⟩, by dsimp only; omega, rfl, hb8⟩
end
end Go.Proofs.Ythncjilcflilcaa

namespace Go.Proofs.Ythncjilcflilcaa
set_option linter.all false
open Go

section
variable {W : List Int} {s : Int} {L F : List (List Int)} {R : List Int} {A B : Nat → Nat → Int} {N : Nat}
theorem lpair_l1_p (h : Fine W s L F R) {i k : Nat} (hi : i < L.length) (hk : k < F.length) : ∀ (n t : Nat), W.length < n + t → t ≤ W.length →
    lpair_l1 N n k (agP W (L.getD i []) (F.getD k []) t) (slP (L.getD i []) (F.getD k []) t) (L.getD i []) W.length t W s L F R = some (agF W L F i k, slF W L F i k, W, s, L, F, R)
  | 0, t, hn, ht => by omega
  | n + 1, t, hn, ht => by
    unfold lpair_l1
    have hw5 := h.w5
    have ha := h.lw _ (getD_mem (d := []) hi)
    have hb := h.fw _ (getD_mem (d := []) hk)
    by_cases c : t < W.length
    · have ih := lpair_l1_p h hi hk n (t + 1) (by omega) (by omega)
      rw [nat_succ] at ih
      have b1 := agP_bound h.w (L.getD i []) (F.getD k []) (t := t) (by omega)
      have b2 := slP_bound (L.getD i []) (F.getD k []) (t := t) (by omega)
      have b3 := getD_W h.w t
      have s1 : agP W (L.getD i []) (F.getD k []) (t + 1) = agP W (L.getD i []) (F.getD k []) t + agA W (L.getD i []) (F.getD k []) t := rfl
      have s2 : slP (L.getD i []) (F.getD k []) (t + 1) = slP (L.getD i []) (F.getD k []) t + slA (L.getD i []) (F.getD k []) t := rfl
      rw [s1, s2] at ih
      clear s1 s2
      have g1 : (L.getD i [])[((t : Nat) : Int).toNat]? = some ((L.getD i []).getD t 0) := gets (by omega) 0
      have g2 : (F.getD k [])[((t : Nat) : Int).toNat]? = some ((F.getD k []).getD t 0) := gets (by omega) 0
      rw [br_dec (by omega), idx_eq (by omega) g1, idx_eq (by omega) (gets hk []), idx_eq (by omega) g2]
      have hj : ∀ x y, lpair_j1 N (lpair_l1 N n) k x y (L.getD i []) W.length t W s L F R = lpair_l1 N n k x y (L.getD i []) W.length (↑t + 1) W s L F R := fun x y => by
        unfold lpair_j1
        rw [chk_eq (by omega)]
      simp only [hj]
      clear g1 g2
      unfold agA slA at ih
      generalize (L.getD i []).getD t 0 = x at *
      generalize (F.getD k []).getD t 0 = y at *
      generalize agP W (L.getD i []) (F.getD k []) t = p at *
      generalize slP (L.getD i []) (F.getD k []) t = q at *
      by_cases c1 : x = -1
      · rw [if_neg (by omega), if_neg (by omega), Int.add_zero, Int.add_zero] at ih
        rw [br_dec c1, ih]
      by_cases c2 : y = -1
      · rw [if_neg (by omega), if_neg (by omega), Int.add_zero, Int.add_zero] at ih
        rw [br_ndec c1, br_dec c2, ih]
      by_cases c3 : x = y
      · rw [if_pos ⟨c3, by omega⟩, if_neg (by omega), Int.add_zero] at ih
        rw [br_ndec c1, br_ndec c2, br_dec c3, idx_eq (by omega) (gets c 0), chk_eq (by omega), ih]
      · rw [if_neg (by omega), if_pos ⟨by omega, by omega, c3⟩, Int.add_zero] at ih
        rw [br_ndec c1, br_ndec c2, br_ndec c3, chk_eq (by omega), ih]
    · obtain rfl : t = W.length := by omega
      rw [br_ndec (by omega)]
      unfold agF slF
      rw [if_pos ⟨hi, hk⟩, if_pos ⟨hi, hk⟩]
theorem lpair_v (hN : 110 ≤ N) (h : Fine W s L F R) {i k : Nat} (hi : i < L.length) (hk : k < F.length) : lpair_S N W s L F R i k = some (agF W L F i k, canF W s L F i k) := by
  have e := lpair_l1_p (N := N) h hi hk N 0 (by have := h.w5; omega) (by omega)
  unfold lpair_S
  rw [show agP W (L.getD i []) (F.getD k []) 0 = 0 from rfl, show slP (L.getD i []) (F.getD k []) 0 = 0 from rfl, show ((0 : Nat) : Int) = 0 from rfl] at e
  rw [idx_eq (by omega) (gets hi []), h.lw _ (getD_mem hi), e]
  simp only [Option.bind_some]
  unfold canF canT
  by_cases c : 0 < agF W L F i k
  · rw [br_dec c, decide_eq_true c, Bool.true_and]
  · rw [br_ndec c, decide_eq_false c, Bool.false_and]
theorem valJ_snoc (t : Nat → Nat → Int) : ∀ (l : List Int) (i : Nat) (x : Int), valJ t i (l ++ [x]) = valJ t i l + pv t (i + l.length) x
  | [], i, x => by simp [valJ]
  | y :: l, i, x => by
    rw [List.cons_append, valJ, valJ, valJ_snoc t l (i + 1) x, List.length_cons, show i + 1 + l.length = i + (l.length + 1) by omega]; omega
theorem lworth_l1_p (hN : 110 ≤ N) (h : Fine W s L F R) {l : List Int} (hl : l.length ≤ 100) : ∀ (n k : Nat), l.length < n + k → k ≤ l.length → l.take k ∈ joinsL (canF W s L F) F.length (l.take k).length 0 0 →
    ∃ r, lworth_l1 N n l (valJ (agF W L F) 0 (l.take k)) l l.length k W s L F R = some r ∧ match r with
      | .inl _ => l ∉ joinsL (canF W s L F) F.length L.length 0 0
      | .inr (.inl _) => l ∉ joinsL (canF W s L F) F.length L.length 0 0
      | .inr (.inr z) => z = (l, valJ (agF W L F) 0 l, W, s, L, F, R) ∧ l ∈ joinsL (canF W s L F) F.length l.length 0 0
  | 0, k, hn, _, _ => by omega
  | n + 1, k, hn, hk, hp => by
    unfold lworth_l1
    have hl6 := h.l6; have hf6 := h.f6
    by_cases c : k < l.length
    rotate_left
    · rw [br_ndec (by omega)]
      rw [List.take_of_length_le (by omega)] at hp ⊢
      exact ⟨_, rfl, rfl, hp⟩
    have htk : (l.take k).length = k := by simp; omega
    have hb := valJ_bound (t := agF W L F) (agF_bound h) (by omega) (l.take k) 0
    rw [htk] at hb
    have hj : ∀ v : Int, v = valJ (agF W L F) 0 (l.take (k + 1)) → l.take (k + 1) ∈ joinsL (canF W s L F) F.length (l.take (k + 1)).length 0 0 → ∃ r, lworth_j1 N (lworth_l1 N n) l v l l.length k W s L F R = some r ∧ match r with
      | .inl _ => l ∉ joinsL (canF W s L F) F.length L.length 0 0
      | .inr (.inl _) => l ∉ joinsL (canF W s L F) F.length L.length 0 0
      | .inr (.inr z) => z = (l, valJ (agF W L F) 0 l, W, s, L, F, R) ∧ l ∈ joinsL (canF W s L F) F.length l.length 0 0 := fun v hv hp => by
      have ih := lworth_l1_p hN h hl n (k + 1) (by omega) (by omega) hp
      rw [nat_succ, ← hv] at ih
      unfold lworth_j1
      rw [chk_eq (by omega)]
      exact ih
    rw [take_succ' c 0, valJ_snoc, htk, Nat.zero_add] at hj
    have bad : (¬ (l.getD k 0 = -1 ∨ (0 ≤ l.getD k 0 ∧ l.getD k 0 < F.length ∧ k < L.length ∧ ¬ hasB (l.take k) (l.getD k 0) = true ∧ canF W s L F k (l.getD k 0).toNat = true))) → l ∉ joinsL (canF W s L F) F.length L.length 0 0 := fun hbad hm => by
      obtain ⟨m1, m2, _⟩ := mem_joins.1 hm
      refine hbad ?_
      rw [getD_01 c]
      rcases m2.ok k (by omega) with e | ⟨q, e, q1, q2⟩
      · exact .inl e
      · right
        rw [e, Int.toNat_natCast]
        refine ⟨by omega, by omega, by omega, ?_, q2⟩
        rw [hasB_iff]
        intro hin
        obtain ⟨j, hj, e2⟩ := List.getElem_of_mem hin
        have hjk : j < k := by simp at hj; omega
        have e3 : fnJ l j = q := by
          rw [← e2, ← getD_01 (show j < l.length by omega)]
          simp [List.getD, show j < l.length by omega]
        have := m2.inj j k (by omega) (by omega) (by omega) (by rw [e3, e])
        omega
    rw [br_dec (by omega), idx_eq (by omega) (gets c 0)]
    by_cases c1 : l.getD k 0 = -1
    · rw [br_dec c1]
      refine hj _ (by rw [c1, pv_none, Int.add_zero]) ?_
      exact mt_snoc hp (by omega) (by rw [c1]; rfl)
    rw [br_ndec c1]
    by_cases c2 : l.getD k 0 < 0
    · rw [br_dec c2]
      exact ⟨_, rfl, bad (by omega)⟩
    rw [br_ndec c2]
    by_cases c3 : (F.length : Int) ≤ l.getD k 0
    · rw [br_dec c3]
      exact ⟨_, rfl, bad (by omega)⟩
    rw [br_ndec c3]
    by_cases c4 : (L.length : Int) ≤ (k : Int)
    · rw [br_dec c4]
      exact ⟨_, rfl, bad (by omega)⟩
    rw [br_ndec c4, grd_eq (by rw [decide_eq_true_eq]; omega), Int.toNat_natCast, containsi_v (by omega) (by omega)]
    simp only [Option.bind_some]
    cases c5 : hasB (l.take k) (l.getD k 0)
    rotate_left
    · rw [br_true]
      exact ⟨_, rfl, bad (by rintro (e | ⟨_, _, _, e, _⟩); exact c1 e; exact e c5)⟩
    rw [br_false]
    obtain ⟨q, hq⟩ : ∃ q : Nat, l.getD k 0 = q := ⟨(l.getD k 0).toNat, by omega⟩
    have hlp := lpair_v hN h (i := k) (k := q) (by omega) (by omega)
    rw [← hq] at hlp
    rw [hlp]
    simp only [Option.bind_some]
    cases c6 : canF W s L F k q
    · rw [Bool.not_false, br_true]
      exact ⟨_, rfl, bad (by rintro (e | ⟨_, _, _, _, e⟩); exact c1 e; (rw [hq, Int.toNat_natCast, c6] at e; cases e))⟩
    rw [Bool.not_true, br_false]
    have hbk := agF_bound h k q
    rw [chk_eq (by omega)]
    refine hj _ (by rw [hq, pv_some]) ?_
    refine mt_snoc hp (by omega) ?_
    rw [htk, c5, hq, Int.toNat_natCast, c6]; simp
/-- The worth that the law tells. -/
theorem lworth_t (hN : 110 ≤ N) (h : Fine W s L F R) {l : List Int} (hl : l.length ≤ 100) : ∃ r, lworth_S N W s L F R l = some r ∧ (l ∈ joinsL (canF W s L F) F.length L.length 0 0 → r = (valJ (agF W L F) 0 l, true)) ∧ (r.2 = true → l ∈ joinsL (canF W s L F) F.length L.length 0 0) := by
  obtain ⟨r, r1, r2⟩ := lworth_l1_p hN h hl N 0 (by omega) (by omega) (by simp [joinsL])
  rw [List.take_zero, show valJ (agF W L F) 0 [] = 0 from rfl, show ((0 : Nat) : Int) = 0 from rfl] at r1
  unfold lworth_S
  rw [r1]
  simp only [Option.bind_some]
  rcases r with u | u | z
  · exact ⟨_, rfl, fun hm => absurd hm r2, fun h => by cases h⟩
  · exact ⟨_, rfl, fun hm => absurd hm r2, fun h => by cases h⟩
  · obtain ⟨rfl, z2⟩ := r2
    refine ⟨_, rfl, fun hm => ?_, fun hd => ?_⟩
    · rw [decide_eq_true (by rw [(joins_all hm).1])]
    · simp only [decide_eq_true_eq] at hd
      rw [show L.length = l.length by omega]; exact z2
theorem lworth_j (hN : 110 ≤ N) (h : Fine W s L F R) {l : List Int} (hm : l ∈ joinsL (canF W s L F) F.length L.length 0 0) : lworth_S N W s L F R l = some (valJ (agF W L F) 0 l, true) := by
  obtain ⟨r, r1, r2, _⟩ := lworth_t hN h (l := l) (by have := (joins_all hm).1; have := h.l6; omega)
  rw [r1, r2 hm]
/-! ### Joins that are tried -/
theorem rung_l1_p {b : List Int} {u : Nat} (hu : u ≤ 100) : ∀ (n k : Nat) (b2 b3 : Int) (out : List Int), u < n + k → k ≤ u → Bell b b2 → out.length = k → (∀ x ∈ out, 0 ≤ x ∧ x < u) →
    Ok (rung_l1 N n u k b b2 b3 out) fun z => BelR b z.1 z.2.1 ∧ z.2.2.2.length = u ∧ ∀ x ∈ z.2.2.2, 0 ≤ x ∧ x < u
  | 0, k, b2, b3, out, h, _, _, _, _ => by omega
  | n + 1, k, b2, b3, out, h, hk, hb, ho, hx => by
    unfold rung_l1
    refine Ok.brd (fun c => ?_) (fun c => Ok.some ⟨⟨rfl, hb⟩, by dsimp only; omega, hx⟩)
    refine Ok.bind (stroke_ok N hb (by omega)) ?_
    rintro ⟨y, c1, c2, c3⟩ ⟨hy, hc, hb1⟩
    dsimp only at hy hc hb1 ⊢
    obtain rfl := hc.symm
    have hl : (out ++ [(k : Int)]).length = k + 1 := by simp [ho]
    have hm : ∀ x ∈ out ++ [(k : Int)], 0 ≤ x ∧ x < u := fun x hm => by
      rcases List.mem_append.1 hm with hm | hm
      · exact hx x hm
      · simp at hm; omega
    refine Ok.lim (by simp; omega) (Ok.rng (by rw [hl]; omega) (Ok.get (by rw [hl]; simp) (fun a1 _ m1 => ?_)))
    refine Ok.rng (by rw [hl]; omega) (Ok.get (by rw [hl]; omega) (fun a2 _ m2 => ?_))
    refine Ok.rng (by rw [hl]; omega) (Ok.get (by rw [hl]; omega) (fun a3 _ _ => ?_))
    refine Ok.rng (by rw [List.length_set, hl]; omega) (Ok.get (by rw [List.length_set, hl]; simp) (fun a4 _ _ => ?_))
    refine Ok.chk (by omega) ?_
    have := rung_l1_p hu n (k + 1) c2 c3 (((out ++ [(k : Int)]).set y.toNat a1).set (k : Int).toNat a2) (by omega) (by omega) hb1 (by rw [List.length_set, List.length_set, hl]) (fun x hm2 => by
      rcases List.mem_or_eq_of_mem_set hm2 with hm2 | rfl
      · rcases List.mem_or_eq_of_mem_set hm2 with hm2 | rfl
        · exact hm x hm2
        · exact hm _ m1
      · exact hm _ m2)
    rw [nat_succ] at this
    exact this
theorem rung_ok (hN : 110 ≤ N) {b : List Int} {b2 b3 : Int} {u : Nat} (hu : u ≤ 100) (hb : Bell b b2) : Ok (rung_S N u b b2 b3) fun z => (z.1.length = u ∧ ∀ x ∈ z.1, 0 ≤ x ∧ x < u) ∧ BelR b z.2.1 z.2.2.1 := by
  have e := rung_l1_p (N := N) (b := b) hu N 0 b2 b3 [] (by omega) (by omega) hb rfl (fun x h => by cases h)
  rw [show ((0 : Nat) : Int) = 0 from rfl] at e
  unfold rung_S
  rw [show max 0 (u : Int) = u by omega]
  refine Ok.bind e ?_
  rintro ⟨z1, z2, z3, z4⟩ ⟨h1, h2, h3⟩
  exact Ok.some ⟨⟨h2, h3⟩, h1⟩
theorem tried_l1_p {b : List Int} {b2 b3 : Int} {m : Nat} (hm : m ≤ 100) : ∀ (n k : Nat), m < n + k → k ≤ m → tried_l1 N n m k b b2 b3 W s L F R (List.replicate k (-1) ++ List.replicate (m - k) 0) = some (b, b2, b3, W, s, L, F, R, List.replicate m (-1))
  | 0, k, h, _ => by omega
  | n + 1, k, h, hk => by
    unfold tried_l1
    by_cases c : k < m
    · have ih := tried_l1_p (b := b) (b2 := b2) (b3 := b3) hm n (k + 1) (by omega) (by omega)
      rw [nat_succ] at ih
      have hl : (List.replicate k (-1 : Int) ++ List.replicate (m - k) 0).length = m := by simp; omega
      rw [br_dec (by omega), rng_eq (by rw [hl]; omega)]
      simp only [Int.toNat_natCast]
      rw [get_get 0 (by rw [hl]; exact c), chk_eq (by omega), ← ih]
      congr 1
      rw [List.set_append_right _ _ (by simp), List.length_replicate, Nat.sub_self, show m - k = (m - (k + 1)) + 1 by omega, List.replicate_succ, List.set_cons_zero, List.replicate_succ']
      simp
    · obtain rfl : k = m := by omega
      rw [br_ndec (by omega), Nat.sub_self, List.replicate_zero, List.append_nil]
theorem tried_l3_p (hN : 110 ≤ N) (h : Fine W s L F R) {b u : List Int} {u2 u3 : Int} {i : Nat} (hi : i < L.length) {q out : List Int} (hq : q.length ≤ 100) (hqx : ∀ x ∈ q, 0 ≤ x ∧ x < F.length) (ho : out.length ≤ 100) : ∀ (n k : Nat) (b2 b3 : Int), q.length < n + k → k ≤ q.length → Bell b b2 →
    Ok (tried_l3 N n i u u2 u3 q q.length k b b2 b3 W s L F R out) fun z => match z with
      | .inl z => ∃ (y : Nat) (b2' b3' : Int), z = ((i : Int), (y : Int), u, u2, u3, b, b2', b3', W, s, L, F, R, out) ∧ Bell b b2' ∧ y < F.length ∧ canF W s L F i y = true ∧ (y : Int) ∉ out
      | .inr z => ∃ (b2' b3' : Int), z = (u, u2, u3, b, b2', b3', W, s, L, F, R, out) ∧ Bell b b2'
  | 0, k, b2, b3, hn, _, _ => by omega
  | n + 1, k, b2, b3, hn, hk, hb => by
    unfold tried_l3
    have hl6 := h.l6; have hf6 := h.f6
    refine Ok.brd (fun c => ?_) (fun c => Ok.some ⟨b2, b3, rfl, hb⟩)
    refine Ok.idx (by omega) c (fun x _ hx => ?_)
    obtain ⟨y, rfl⟩ : ∃ y : Nat, x = y := ⟨x.toNat, (Int.toNat_of_nonneg (hqx x hx).1).symm⟩
    have hy := (hqx _ hx).2
    have next : ∀ b2 b3 : Int, Bell b b2 → Ok (tried_l3 N n i u u2 u3 q q.length ((k : Int) + 1) b b2 b3 W s L F R out) fun z => match z with
      | .inl z => ∃ (y : Nat) (b2' b3' : Int), z = ((i : Int), (y : Int), u, u2, u3, b, b2', b3', W, s, L, F, R, out) ∧ Bell b b2' ∧ y < F.length ∧ canF W s L F i y = true ∧ (y : Int) ∉ out
      | .inr z => ∃ (b2' b3' : Int), z = (u, u2, u3, b, b2', b3', W, s, L, F, R, out) ∧ Bell b b2' := fun b2 b3 hb => by
      have := tried_l3_p hN h (u := u) (u2 := u2) (u3 := u3) hi hq hqx ho n (k + 1) b2 b3 (by omega) (by omega) hb
      rw [nat_succ] at this
      exact this
    refine Ok.eqb (lpair_v hN h hi (by omega)) (Ok.br (fun c1 => ?_) (fun c1 => Ok.chk (by omega) (next b2 b3 hb)))
    refine Ok.eqb (containsi_v (by omega) (by omega) _) ?_
    cases c2 : hasB out (y : Int)
    rotate_left
    · exact Ok.chk (by omega) (next b2 b3 hb)
    refine Ok.bind (seldom_ok N hb (by omega)) ?_
    rintro ⟨x, d1, d2, d3⟩ ⟨hc, hb1⟩
    dsimp only at hc hb1 ⊢
    obtain rfl := hc.symm
    cases x
    · refine Ok.some ⟨y, d2, d3, rfl, hb1, by omega, c1, fun hm => ?_⟩
      rw [hasB_iff.2 hm] at c2; cases c2
    · exact Ok.chk (by omega) (next d2 d3 hb1)
theorem set_joins {can : Nat → Nat → Bool} {m n i k : Nat} {l : List Int} (h : l ∈ joinsL can m n 0 0) (hi : i < n) (hk : k < m) (hc : can i k = true) (hn : (k : Int) ∉ l) : l.set i k ∈ joinsL can m n 0 0 := by
  obtain ⟨h1, h2, _⟩ := mem_joins.1 h
  refine mem_joins.2 ⟨by simp [h1], ?_, fun k hk => by simp at hk⟩
  have hu : ¬ Usd n (fnJ l) k := by
    rintro ⟨j, hj, e⟩
    refine hn ?_
    rw [← e, ← getD_01 (show j < l.length by omega)]
    exact getD_mem (by omega)
  refine (h2.add (i := i) hk hc hu).congr (fun j hj => ?_)
  unfold upd
  by_cases e : j = i
  · subst e
    simp [fnJ, List.getD, show j < l.length by omega]
  · rw [if_neg e]
    simp [fnJ, List.getD, List.getElem?_set_ne (Ne.symm e)]
theorem tried_l2_p (hN : 110 ≤ N) (h : Fine W s L F R) {b : List Int} {q : List Int} (hq : q.length ≤ 100) (hqx : ∀ x ∈ q, 0 ≤ x ∧ x < L.length) : ∀ (n k : Nat) (b2 b3 : Int) (out : List Int), q.length < n + k → k ≤ q.length → Bell b b2 → out ∈ joinsL (canF W s L F) F.length L.length 0 0 →
    Ok (tried_l2 N n q q.length k b b2 b3 W s L F R out) fun z => BelR b z.1 z.2.1 ∧ z.2.2.2 ∈ joinsL (canF W s L F) F.length L.length 0 0
  | 0, k, b2, b3, out, hn, _, _, _ => by omega
  | n + 1, k, b2, b3, out, hn, hk, hb, ho => by
    unfold tried_l2
    have hl6 := h.l6; have hf6 := h.f6
    have hol := (joins_all ho).1
    refine Ok.brd (fun c => ?_) (fun c => Ok.some ⟨⟨rfl, hb⟩, ho⟩)
    refine Ok.idx (by omega) c (fun x _ hx => ?_)
    obtain ⟨i, rfl⟩ : ∃ i : Nat, x = i := ⟨x.toNat, (Int.toNat_of_nonneg (hqx x hx).1).symm⟩
    have hi := (hqx _ hx).2
    have next : ∀ (b2 b3 : Int) (out : List Int), Bell b b2 → out ∈ joinsL (canF W s L F) F.length L.length 0 0 → Ok (tried_j1 N (tried_l2 N n) q q.length k b b2 b3 W s L F R out) fun z => BelR b z.1 z.2.1 ∧ z.2.2.2 ∈ joinsL (canF W s L F) F.length L.length 0 0 := fun b2 b3 out hb ho => by
      have := tried_l2_p hN h hq hqx n (k + 1) b2 b3 out (by omega) (by omega) hb ho
      rw [nat_succ] at this
      unfold tried_j1
      exact Ok.chk (by omega) this
    refine Ok.bind (rung_ok hN (u := F.length) (by omega) hb) ?_
    rintro ⟨p, d1, d2, d3⟩ ⟨⟨hp1, hp2⟩, hc, hb1⟩
    dsimp only at hp1 hp2 hc hb1 ⊢
    obtain rfl := hc.symm
    have e := tried_l3_p hN h (b := b) (u := q) (u2 := (q.length : Int)) (u3 := (k : Int)) (i := i) (by omega) (q := p) (out := out) (by omega) hp2 (by omega) N 0 d2 d3 (by omega) (by omega) hb1
    rw [show ((0 : Nat) : Int) = 0 from rfl] at e
    refine Ok.bind e (fun z hz => ?_)
    cases z with
    | inl z =>
      obtain ⟨y, b2', b3', rfl, hb2, y1, y2, y3⟩ := hz
      dsimp only
      refine Ok.rng (by omega) (Ok.get (by simp; omega) (fun _ _ _ => ?_))
      exact next b2' b3' _ hb2 (set_joins ho (by omega) y1 y2 y3)
    | inr z =>
      obtain ⟨b2', b3', rfl, hb2⟩ := hz
      exact next b2' b3' _ hb2 ho
theorem none_joins {can : Nat → Nat → Bool} {m n : Nat} : List.replicate n (-1 : Int) ∈ joinsL can m n 0 0 := by
  refine mem_joins.2 ⟨by simp, ⟨fun i hi => ?_, fun i j hi _ _ _ => ?_⟩, fun k hk => by simp at hk⟩
  · left; simp [fnJ, List.getD, hi]
  · simp [fnJ, List.getD, hi]
theorem tried_v (hN : 110 ≤ N) (h : Fine W s L F R) {b : List Int} {b2 b3 : Int} (hb : Bell b b2) : Ok (tried_S N W s L F R b b2 b3) fun z => z.1 ∈ joinsL (canF W s L F) F.length L.length 0 0 ∧ BelR b z.2.1 z.2.2.1 := by
  have hl6 := h.l6
  unfold tried_S
  have e := tried_l1_p (N := N) (W := W) (s := s) (L := L) (F := F) (R := R) (b := b) (b2 := b2) (b3 := b3) (m := L.length) (by omega) N 0 (by omega) (by omega)
  rw [List.replicate_zero, List.nil_append, Nat.sub_zero, show ((0 : Nat) : Int) = 0 from rfl] at e
  rw [grd_eq (lmI_iff.2 (by omega)), Int.toNat_natCast, List.length_replicate]
  refine Ok.eqb e ?_
  dsimp only
  refine Ok.bind (rung_ok hN (u := L.length) (by omega) hb) ?_
  rintro ⟨p, d1, d2, d3⟩ ⟨⟨hp1, hp2⟩, hc, hb1⟩
  dsimp only at hp1 hp2 hc hb1 ⊢
  obtain rfl := hc.symm
  have e2 := tried_l2_p hN h (b := b) (q := p) (by omega) hp2 N 0 d2 d3 _ (by omega) (by omega) hb1 none_joins
  rw [show ((0 : Nat) : Int) = 0 from rfl] at e2
  refine Ok.bind e2 ?_
  rintro ⟨z1, z2, z3, z4⟩ ⟨h1, h2⟩
  exact Ok.some ⟨h2, h1⟩
end
end Go.Proofs.Ythncjilcflilcaa

namespace Go.Proofs.Ythncjilcflilcaa
set_option linter.all false
open Go
theorem awake_v : awake_S 1100 = some true := by kernel_rfl
end Go.Proofs.Ythncjilcflilcaa

namespace Go.Proofs.Ythncjilcflilcaa
set_option linter.all false
open Go

theorem apL_set : ∀ (l : List Int) (i : Nat) (x : Int), apL l (l.set i x) ≤ 1
  | [], i, x => by simp [apL]
  | y :: l, 0, x => by
    have h : apL l l = 0 := by
      induction l with
      | nil => rfl
      | cons a l ih => rw [apL, if_pos rfl, ih]; rfl
    rw [List.set_cons_zero, apL, h]
    split <;> omega
  | y :: l, i + 1, x => by
    rw [List.set_cons_succ, apL, if_pos rfl]
    have := apL_set l i x
    omega
section
variable {W : List Int} {s : Int} {L F : List (List Int)} {R : List Int} {N : Nat}
theorem agP_nine (hw : ∀ x ∈ W, 1 ≤ x ∧ x ≤ 9) (a b : List Int) : ∀ t : Nat, 0 ≤ agP W a b t ∧ agP W a b t ≤ 9 * t
  | 0 => by simp [agP, sumN]
  | t + 1 => by
    have h1 := agP_nine hw a b t
    have h2 := agA_bound hw a b t
    have e : agP W a b (t + 1) = agP W a b t + agA W a b t := rfl
    omega
theorem agF_nine (h : Fine W s L F R) (i k : Nat) : 0 ≤ agF W L F i k ∧ agF W L F i k ≤ 45 := by
  unfold agF
  split
  · have := agP_nine h.w (L.getD i []) (F.getD k []) W.length
    have := h.w5
    omega
  · omega
theorem worth_nine (h : Fine W s L F R) {l : List Int} (hl : l.length ≤ 5) : 0 ≤ valJ (agF W L F) 0 l ∧ valJ (agF W L F) 0 l ≤ 225 := by
  have := valJ_bound (t := agF W L F) (agF_nine h) (by omega) l 0
  omega
theorem copyo_v {l : List Int} (h : l.length ≤ 1000000) : copyo_S N l = some l := by
  unfold copyo_S
  rw [grd_eq (lmI_iff.2 (by omega))]
  simp
theorem fchanged_l2_p {best v u : Int} {now next : List Int} (h1 : now.length ≤ 1000) (h2 : now.length ≤ next.length) : ∀ (n k : Nat) (x : Int), now.length < n + k → k ≤ now.length → 0 ≤ x ∧ x ≤ k →
    fchanged_l2 N n best now v next x u now.length k W s L F R = some (best, now, v, next, x + apL (now.drop k) (next.drop k), u, W, s, L, F, R)
  | 0, k, x, h, _, _ => by omega
  | n + 1, k, x, h, hk, hx => by
    unfold fchanged_l2
    by_cases c : k < now.length
    · have hj : ∀ x : Int, 0 ≤ x ∧ x ≤ (k : Int) + 1 → fchanged_j1 N (fchanged_l2 N n) best now v next x u now.length k W s L F R = some (best, now, v, next, x + apL (now.drop (k + 1)) (next.drop (k + 1)), u, W, s, L, F, R) := fun x hx => by
        have ih := fchanged_l2_p (best := best) (v := v) (u := u) h1 h2 n (k + 1) x (by omega) (by omega) (by omega)
        rw [nat_succ] at ih
        unfold fchanged_j1
        rw [chk_eq (by omega), ih]
      rw [br_dec (by omega), idx_eq (by omega) (gets c 0), idx_eq (by omega) (gets (by omega) 0), drop_cons c 0, drop_cons (l := next) (by omega) 0, apL]
      by_cases e : now.getD k 0 = next.getD k 0
      · rw [br_nd e, hj _ (by omega), if_pos e, Int.zero_add]
      · rw [br_nnd e, chk_eq (by omega), hj _ (by omega), if_neg e, Int.add_assoc]
    · rw [br_ndec (by omega), List.drop_of_length_le (by omega)]
      simp [apL]
theorem fchanged_l4_p (hN : 110 ≤ N) (h : Fine W s L F R) {best u u2 u3 : Int} {now next : List Int} (hn : now ∈ joinsL (canF W s L F) F.length L.length 0 0) (hno : ∀ o : List Int, Better (canF W s L F) (agF W L F) F.length now o → 1 < apL now o) {i : Nat} (hi : i < now.length) :
    ∀ (n j : Nat), F.length + 1 < n + j → j ≤ F.length + 1 → fchanged_l4 N n best now (valJ (agF W L F) 0 now) next i ((j : Int) - 1) u u2 u3 W s L F R = some (.inr (best, now, valJ (agF W L F) 0 now, next, u, u2, u3, W, s, L, F, R))
  | 0, j, h, _ => by omega
  | n + 1, j, hnj, hj => by
    unfold fchanged_l4
    have hl6 := h.l6; have hf6 := h.f6
    have hlen := (joins_all hn).1
    by_cases c : j < F.length + 1
    rotate_left
    · rw [br_ndec (by omega)]
    have ih := fchanged_l4_p hN h (best := best) (u := u) (u2 := u2) (u3 := u3) (next := next) hn hno hi n (j + 1) (by omega) (by omega)
    rw [show ((j + 1 : Nat) : Int) - 1 = (j : Int) - 1 + 1 by omega] at ih
    rw [br_dec (by omega), copyo_v (by omega)]
    simp only [Option.bind_some]
    rw [rng_eq (by omega)]
    simp only [Int.toNat_natCast]
    rw [get_get 0 hi]
    obtain ⟨r, r1, r2, r3⟩ := lworth_t hN h (l := now.set i ((j : Int) - 1)) (by simp; omega)
    rw [r1]
    simp only [Option.bind_some]
    by_cases c1 : r.2 = true
    rotate_left
    · rw [Bool.eq_false_iff.2 c1, br_false, chk_eq (by omega), ih]
    · have hm := r3 c1
      rw [r2 hm, br_true]
      by_cases c2 : valJ (agF W L F) 0 now < valJ (agF W L F) 0 (now.set i ((j : Int) - 1))
      · have hb := hno _ ⟨by rw [hlen]; exact hm, c2⟩
        have := apL_set now i ((j : Int) - 1)
        omega
      · rw [br_ndec c2, chk_eq (by omega), ih]
theorem fchanged_l3_p (hN : 110 ≤ N) (h : Fine W s L F R) {best u : Int} {now next : List Int} (hn : now ∈ joinsL (canF W s L F) F.length L.length 0 0) (hno : ∀ o : List Int, Better (canF W s L F) (agF W L F) F.length now o → 1 < apL now o) :
    ∀ (n k : Nat), now.length < n + k → k ≤ now.length → fchanged_l3 N n best now (valJ (agF W L F) 0 now) next u now.length k W s L F R = some (.inr (best, next, u, W, s, L, F, R))
  | 0, k, h, _ => by omega
  | n + 1, k, hnk, hk => by
    unfold fchanged_l3
    have hl6 := h.l6; have hf6 := h.f6
    have hlen := (joins_all hn).1
    by_cases c : k < now.length
    rotate_left
    · rw [br_ndec (by omega)]
    have ih := fchanged_l3_p hN h (best := best) (u := u) (next := next) hn hno n (k + 1) (by omega) (by omega)
    rw [nat_succ] at ih
    have e := fchanged_l4_p hN h (best := best) (u := u) (u2 := now.length) (u3 := k) (next := next) hn hno c N 0 (by omega) (by omega)
    rw [show ((0 : Nat) : Int) - 1 = -1 from rfl] at e
    rw [br_dec (by omega), e]
    simp only [Option.bind_some]
    rw [chk_eq (by omega), ih]
theorem fchanged_l1_p (hN : 110 ≤ N) (h : Fine W s L F R) (hl5 : L.length ≤ 5) : ∀ (n u : Nat) (now : List Int), 240 < n + u → u ≤ 240 → now ∈ joinsL (canF W s L F) F.length L.length 0 0 → (u : Int) ≤ valJ (agF W L F) 0 now →
    ∃ now', fchanged_l1 N n (bestV W s L F) now u W s L F R = some (.inr (.inl (bestV W s L F, now', W, s, L, F, R))) ∧ now' ∈ joinsL (canF W s L F) F.length L.length 0 0 ∧ valJ (agF W L F) 0 now' = bestV W s L F
  | 0, u, now, h, _, _, _ => by omega
  | n + 1, u, now, hnu, hu, hm, hv => by
    unfold fchanged_l1
    have hs := h.sm
    have hlen := (joins_all hm).1
    have hw := worth_nine h (l := now) (by omega)
    rw [br_dec (by omega), lworth_j hN h hm]
    simp only [Option.bind_some]
    obtain ⟨r, r1, r2⟩ := change_v hN hs (J := now) (by omega)
    rw [r1]
    simp only [Option.bind_some]
    rw [Bool.not_true, br_false]
    have hej : errJ (errD W s L F R) L.length F.length (canF W s L F) now = 0 := by rw [errD_iff.2 h]; exact errJ_mt.2 hm
    rcases r2 with ⟨x1, _⟩ | ⟨_, ⟨v1, v2⟩ | ⟨v1, v2, v3, v4⟩⟩
    · exact absurd hej x1
    · subst v2
      dsimp only
      rw [decide_eq_true v1, show (!(decide ((6 : Int) = 6) == true)) = false from rfl, br_false, br_nnd (by decide), br_nd (by first | trivial | rfl), br_nnd (by decide)]
      exact ⟨now, rfl, hm, v1⟩
    · have hne : ¬ valJ (agF W L F) 0 now = bestV W s L F := by omega
      have h6 : ¬ r.2 = 6 := by omega
      have hmn : r.1 ∈ joinsL (canF W s L F) F.length L.length 0 0 := by have := v3.mem; rw [hlen] at this; exact this
      have hln := (joins_all hmn).1
      have hmore := v3.more
      rw [decide_eq_false h6, decide_eq_false hne, show (!(false == false)) = false from rfl, br_false, br_nd v2, br_nd v2, lworth_j hN h hmn]
      simp only [Option.bind_some]
      rw [Bool.not_true, br_false, br_ndec (by omega)]
      have e2 := fchanged_l2_p (N := N) (W := W) (s := s) (L := L) (F := F) (R := R) (best := bestV W s L F) (v := valJ (agF W L F) 0 now) (u := (u : Int)) (now := now) (next := r.1) (by omega) (by omega) N 0 0 (by omega) (by omega) (by omega)
      rw [show ((0 : Nat) : Int) = 0 from rfl, List.drop_zero, List.drop_zero, Int.zero_add] at e2
      rw [e2]
      simp only [Option.bind_some]
      have fin : ∃ now', fchanged_j2 N (fchanged_l1 N n) (bestV W s L F) r.1 u W s L F R = some (.inr (.inl (bestV W s L F, now', W, s, L, F, R))) ∧ now' ∈ joinsL (canF W s L F) F.length L.length 0 0 ∧ valJ (agF W L F) 0 now' = bestV W s L F := by
        have ih := fchanged_l1_p hN h hl5 n (u + 1) r.1 (by omega) (by omega) hmn (by omega)
        rw [nat_succ] at ih
        unfold fchanged_j2
        rw [chk_eq (by omega)]
        exact ih
      by_cases c : 1 < apL now r.1
      · rw [br_dec c]
        have e3 := fchanged_l3_p hN h (best := bestV W s L F) (u := (u : Int)) (next := r.1) hm (fun o ho => by have := v4 o ho; omega) N 0 (by omega) (by omega)
        rw [show ((0 : Nat) : Int) = 0 from rfl] at e3
        rw [e3]
        exact fin
      · rw [br_ndec c]
        exact fin
end
theorem fchanged_true {a b : List Int} (h0 : Ty.inB (.sl (.int .u8)) a) (h1 : Ty.inB (.sl (.int .u8)) b) : fchanged_S 1100 a b = some true := by
  have l0 : a.length ≤ 9223372036854775807 := h0.1
  have l1 : b.length ≤ 9223372036854775807 := h1.1
  unfold fchanged_S hang_S
  simp only [Option.bind_some]
  obtain ⟨⟨W, s, L, F, R, c, c2, c3⟩, em, hF, hlen, _, _⟩ := made_v (N := 1100) (b := a) (by omega) (things := 5) (b2 := 0) (b3 := 0) (by omega) ⟨l0, by omega, by omega⟩
  dsimp only at hF hlen
  rw [em]
  simp only [Option.bind_some]
  rw [best_v (by omega) hF.sm, if_pos (errD_iff.2 hF)]
  simp only [Option.bind_some]
  rw [br_nd (by first | trivial | rfl)]
  obtain ⟨⟨o, d1, d2, d3⟩, et, ho, _⟩ := tried_v (N := 1100) (by omega) hF (b := b) (b2 := 0) (b3 := 0) ⟨l1, by omega, by omega⟩
  dsimp only at ho
  rw [et]
  simp only [Option.bind_some]
  obtain ⟨o', e1, e2, e3⟩ := fchanged_l1_p (N := 1100) (by omega) hF (by omega) 1100 0 o (by omega) (by omega) ho (worth_nine hF (by have := (joins_all ho).1; omega)).1
  rw [show ((0 : Nat) : Int) = 0 from rfl] at e1
  rw [e1]
  simp only [Option.bind_some]
  unfold fchanged_j3
  rw [lworth_j (by omega) hF e2]
  simp only [Option.bind_some]
  rw [br_true, br_dec e3, awake_v]; rfl
end Go.Proofs.Ythncjilcflilcaa

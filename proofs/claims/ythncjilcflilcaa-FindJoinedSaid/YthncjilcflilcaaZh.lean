/-
  Parts of a proof, put together: FD6, FD7, FD8, FD9, FDa, FDb, FDe, FDf, FAw, FLb.
  Conditions: none.
-/
import Derived.Test.YthncjilcflilcaaZd
import Derived.Test.YthncjilcflilcaaZf
import Derived.Test.YthncjilcflilcaaZg
namespace Go.Proofs.Ythncjilcflilcaa
set_option linter.all false
open Go

abbrev MK := List ((Int × Int) × (Int × (Int × Int)))
def lkM (g : MK) (i u : Int) : Option (Int × (Int × Int)) := (g.find? fun (y : (Int × Int) × (Int × (Int × Int))) => Ty.beq (.pair (.int .i64) (.int .i64)) y.1 (i, u)).map (·.2)
theorem lkM_cons (a b : Int) (v : Int × (Int × Int)) (g : MK) (i u : Int) : lkM (((a, b), v) :: g) i u = if a = i ∧ b = u then some v else lkM g i u := by
  have e : Ty.beq (.pair (.int .i64) (.int .i64)) (a, b) (i, u) = decide (a = i ∧ b = u) := by
    show (decide (a = i) && decide (b = u)) = _
    by_cases h1 : a = i <;> by_cases h2 : b = u <;> simp [h1, h2]
  unfold lkM
  rw [List.find?_cons]
  by_cases h : a = i ∧ b = u
  · rw [if_pos h, show (Ty.beq (.pair (.int .i64) (.int .i64)) (((a, b), v) : (Int × Int) × (Int × (Int × Int))).1 (i, u)) = true by rw [e, decide_eq_true h]]; rfl
  · rw [if_neg h, show (Ty.beq (.pair (.int .i64) (.int .i64)) (((a, b), v) : (Int × Int) × (Int × (Int × Int))).1 (i, u)) = false by rw [e, decide_eq_false h]]
theorem lkM_some (g : MK) (i u : Int) : (g.find? fun (y : (Int × Int) × (Int × (Int × Int))) => Ty.beq (.pair (.int .i64) (.int .i64)) y.1 (i, u)).isSome = (lkM g i u).isSome := by
  unfold lkM; rw [Option.isSome_map]
def hasM (g : MK) (i u : Nat) : Prop := (lkM g i u).isSome = true
def subM (g g' : MK) : Prop := ∀ i u : Nat, hasM g i u → hasM g' i u
theorem subM.refl (g : MK) : subM g g := fun _ _ h => h
theorem subM.trans {a b c : MK} (h : subM a b) (k : subM b c) : subM a c := fun i u x => k i u (h i u x)
/-- What is remembered is right, and so is what follows from it. -/
structure MOK (can : Nat → Nat → Bool) (t : Nat → Nat → Int) (m n : Nat) (g : MK) : Prop where
  val : ∀ (i u : Nat) v, lkM g i u = some v → v = rsR can t m (n - i) i u
  clo : ∀ i u : Nat, hasM g i u → i + 1 < n → hasM g (i + 1) u ∧ ∀ k ∈ mayL can m i, u.testBit k = false → hasM g (i + 1) (u ||| 2 ^ k)
theorem MOK.nil {can : Nat → Nat → Bool} {t : Nat → Nat → Int} {m n : Nat} : MOK can t m n [] := ⟨fun i u v h => by simp [lkM] at h, fun i u h => by simp [hasM, lkM] at h⟩
theorem MOK.cons {can : Nat → Nat → Bool} {t : Nat → Nat → Int} {m n : Nat} {g : MK} (h : MOK can t m n g) {i u : Nat} (h1 : i + 1 < n → hasM g (i + 1) u ∧ ∀ k ∈ mayL can m i, u.testBit k = false → hasM g (i + 1) (u ||| 2 ^ k)) :
    MOK can t m n ((((i : Int), (u : Int)), rsR can t m (n - i) i u) :: g) ∧ subM g ((((i : Int), (u : Int)), rsR can t m (n - i) i u) :: g) ∧ hasM ((((i : Int), (u : Int)), rsR can t m (n - i) i u) :: g) i u := by
  have hsub : subM g ((((i : Int), (u : Int)), rsR can t m (n - i) i u) :: g) := fun i' u' hh => by
    unfold hasM at *
    rw [lkM_cons]
    split
    · rfl
    · exact hh
  refine ⟨⟨fun i' u' v hv => ?_, fun i' u' hh hi => ?_⟩, hsub, ?_⟩
  · rw [lkM_cons] at hv
    split at hv
    · rename_i e
      obtain rfl : i = i' := by omega
      obtain rfl : u = u' := by omega
      simp only [Option.some.injEq] at hv
      exact hv.symm
    · exact h.val i' u' v hv
  · unfold hasM at hh
    rw [lkM_cons] at hh
    split at hh
    · rename_i e
      obtain rfl : i = i' := by omega
      obtain rfl : u = u' := by omega
      exact ⟨hsub _ _ (h1 hi).1, fun k hk hb => hsub _ _ ((h1 hi).2 k hk hb)⟩
    · obtain ⟨x, y⟩ := h.clo i' u' hh hi
      exact ⟨hsub _ _ x, fun k hk hb => hsub _ _ (y k hk hb)⟩
  · unfold hasM
    rw [lkM_cons, if_pos ⟨rfl, rfl⟩]; rfl
theorem MOK.get {can : Nat → Nat → Bool} {t : Nat → Nat → Int} {m n : Nat} {g : MK} (h : MOK can t m n g) {i u : Nat} (hh : hasM g i u) : lkM g i u = some (rsR can t m (n - i) i u) := by
  unfold hasM at hh
  cases e : lkM g i u with
  | none => rw [e] at hh; cases hh
  | some v => rw [h.val i u v e]
/-! ### Bounds -/
theorem flatMap_len {α β : Type} {f : α → List β} {B : Nat} : ∀ {l : List α}, (∀ x ∈ l, (f x).length ≤ B) → (l.flatMap f).length ≤ l.length * B
  | [], _ => by simp
  | x :: l, h => by
    have h1 := h x (by simp)
    have h2 := flatMap_len (l := l) (fun y hy => h y (by simp [hy]))
    rw [List.flatMap_cons, List.length_append, List.length_cons, Nat.add_mul]; omega
theorem mayL_len (can : Nat → Nat → Bool) (m i : Nat) : (mayL can m i).length ≤ m := by
  have := List.length_filter_le (can i) (List.range m)
  simpa [mayL] using this
theorem joinsL_len {can : Nat → Nat → Bool} {m : Nat} (hm : m ≤ 6) : ∀ d i u : Nat, (joinsL can m d i u).length ≤ 7 ^ d
  | 0, _, _ => by simp [joinsL]
  | d + 1, i, u => by
    have h1 := joinsL_len (can := can) hm d (i + 1) u
    have h2 : ((mayL can m i).flatMap fun k => if u.testBit k then [] else (joinsL can m d (i + 1) (u ||| 2 ^ k)).map ((k : Int) :: ·)).length ≤ (mayL can m i).length * 7 ^ d := flatMap_len fun k _ => by
      split
      · simp
      · rw [List.length_map]; exact joinsL_len hm d (i + 1) _
    have h3 := mayL_len can m i
    have h4 : (mayL can m i).length * 7 ^ d ≤ 6 * 7 ^ d := Nat.mul_le_mul_right _ (by omega)
    rw [joinsL, List.length_append, List.length_map, Nat.pow_succ]
    omega
theorem rs_bound {can : Nat → Nat → Bool} {t : Nat → Nat → Int} {m : Nat} (hm : m ≤ 6) {T : Int} (ht : ∀ i k, 0 ≤ t i k ∧ t i k ≤ T) (hT : 0 ≤ T) (d i u : Nat) :
    (0 ≤ (rsR can t m d i u).2.1 ∧ (rsR can t m d i u).2.1 ≤ T * d) ∧ 0 ≤ (rsR can t m d i u).2.2 ∧ (rsR can t m d i u).2.2 ≤ ((7 ^ d : Nat) : Int) := by
  obtain ⟨q1, q2, q3⟩ := bl_best (can := can) (t := t) (m := m) d i u
  have hb := rs_bst (can := can) (t := t) (m := m) d i u
  have h1 := valJ_bound ht hT (blR can t m d i u) i
  rw [q2, q3] at h1
  have h2 := List.countP_le_length (p := fun l => decide (valJ t i l = (rsR can t m d i u).2.1)) (l := joinsL can m d i u)
  have h3 := joinsL_len (can := can) hm d i u
  have h4 := hb.ways
  exact ⟨h1, by omega, by omega⟩
theorem bit_of {u k : Nat} : ((((Int.fdiv (u : Int) (2 ^ ((k : Nat) : Int).toNat)).toNat &&& 1 : Nat) : Int) = 1) ↔ u.testBit k = true := by
  have e : (Int.fdiv (u : Int) (2 ^ ((k : Nat) : Int).toNat)).toNat = u / 2 ^ k := by
    rw [Int.toNat_natCast, Int.fdiv_eq_ediv_of_nonneg _ (by exact Int.le_of_lt (Int.pow_pos (by omega)))]
    rw [show ((2 : Int) ^ k) = ((2 ^ k : Nat) : Int) by simp, ← Int.natCast_ediv, Int.toNat_natCast]
  rw [e, Nat.and_one_is_mod, Nat.testBit_eq_decide_div_mod_eq, decide_eq_true_eq]
  omega
theorem fdiv_nn {u k : Nat} : 0 ≤ Int.fdiv (u : Int) (2 ^ ((k : Nat) : Int).toNat) := Int.fdiv_nonneg (by omega) (Int.le_of_lt (Int.pow_pos (by omega)))
theorem pow_small {k : Nat} (hk : k < 6) : ∃ q : Nat, 2 ^ k = q ∧ ((1 : Int) * 2 ^ ((k : Nat) : Int).toNat) = (q : Int) ∧ q < 64 := by
  refine ⟨_, rfl, by simp, ?_⟩
  have : 2 ^ k < 2 ^ 6 := Nat.pow_lt_pow_right (by omega) hk
  simpa using this
theorem or_small {u k : Nat} (hu : u < 64) (hk : k < 6) : u ||| 2 ^ k < 64 := Nat.or_lt_two_pow (n := 6) hu (by obtain ⟨q, h1, _, h2⟩ := pow_small hk; omega)
section
variable {W : List Int} {s : Int} {L F : List (List Int)} {R : List Int} {A B : Nat → Nat → Int} {N : Nat}
theorem tastep_v {i k : Nat} (hi : i < 6) (hk : k < 6) : tastep_S N i k (dkT W s L F R A B) = some (A i k) := by
  unfold tastep_S
  rw [rng_eq (by omega), rng_eq (by omega)]
  simp only [Int.toNat_natCast]
  rw [get_T hi hk]
theorem restp_l1_p {t : Nat → Nat → Int} (hF : F.length ≤ 6) (hL : L.length ≤ 6) (ht : ∀ i k, 0 ≤ t i k ∧ t i k ≤ 30000) (htv : ∀ i k : Nat, i < L.length → k < F.length → tastep_S N i k (dkT W s L F R A B) = some (t i k)) {self : Int → Int → Dk → Dk → Dk → Dk → MK → Option (Int × Int × Int × Dk × Dk × MK)} {i d u : Nat} (hi : i + 1 + d = L.length) (hu : u < 64)
    (hself : ∀ (u : Nat) g, u < 64 → MOK (canT A B s) t F.length L.length g → ∃ g', self ((i : Int) + 1) u (dkT W s L F R A B) (dkT W s L F R A B) (dkT W s L F R A B) (dkT W s L F R A B) g = some ((rsR (canT A B s) t F.length d (i + 1) u).1, (rsR (canT A B s) t F.length d (i + 1) u).2.1, (rsR (canT A B s) t F.length d (i + 1) u).2.2, dkT W s L F R A B, dkT W s L F R A B, g') ∧ MOK (canT A B s) t F.length L.length g' ∧ subM g g' ∧ (i + 1 < L.length → hasM g' (i + 1) u))
    {x4 : Int} {P : Nat} (hP : 7 ^ d = P) : ∀ (ks : List Nat) (g : MK) (b : Int × Int × Int) (Wb : Nat), (∀ k ∈ ks, k < F.length) → MOK (canT A B s) t F.length L.length g → (0 ≤ b.2.1 ∧ b.2.1 ≤ 30000 * (d + 1)) → 0 ≤ b.2.2 → b.2.2 ≤ Wb → Wb + ks.length * P ≤ 10000000 →
      ∃ g', restp_l1 N self (ks.map fun (j : Nat) => ((j : Int), ())) (dkT W s L F R A B) (dkT W s L F R A B) (dkT W s L F R A B) x4 (dkT W s L F R A B) (dkT W s L F R A B) g i u 0 0 0 b.1 b.2.1 b.2.2 =
        some (dkT W s L F R A B, dkT W s L F R A B, g', (i : Int), (u : Int), 0, 0, 0, (ks.foldl (rsS t (rsR (canT A B s) t F.length d (i + 1)) i u) b).1, (ks.foldl (rsS t (rsR (canT A B s) t F.length d (i + 1)) i u) b).2.1, (ks.foldl (rsS t (rsR (canT A B s) t F.length d (i + 1)) i u) b).2.2) ∧
        MOK (canT A B s) t F.length L.length g' ∧ subM g g' ∧ ∀ k ∈ ks, u.testBit k = false → i + 1 < L.length → hasM g' (i + 1) (u ||| 2 ^ k)
  | [], g, b, Wb, _, hg, _, _, _, _ => ⟨g, rfl, hg, subM.refl g, fun k hk => by cases hk⟩
  | k :: ks, g, b, Wb, hk, hg, hb1, hb2, hb3, hWb => by
    have hk0 := hk k (by simp)
    have hks : ∀ x ∈ ks, x < F.length := fun x hx => hk x (by simp [hx])
    rw [List.length_cons, Nat.add_mul, Nat.one_mul] at hWb
    rw [List.map_cons, List.foldl_cons, restp_l1, restp_l1_b]
    dsimp only
    rw [grd_eq (by rw [decide_eq_true_eq]; omega), grd_eq (by rw [decide_eq_true_eq]; exact ⟨fdiv_nn, by omega⟩)]
    by_cases hbit : u.testBit k = true
    · rw [br_dec (bit_of.2 hbit)]
      obtain ⟨g', e1, e2, e3, e4⟩ := restp_l1_p hF hL ht htv hi hu hself (x4 := x4) hP ks g b Wb hks hg hb1 hb2 hb3 (by omega)
      have es : rsS t (rsR (canT A B s) t F.length d (i + 1)) i u b k = b := by unfold rsS; rw [if_pos hbit]
      rw [es]
      refine ⟨g', e1, e2, e3, fun x hx hxb hi => ?_⟩
      rcases List.mem_cons.1 hx with rfl | hx
      · rw [hbit] at hxb; cases hxb
      · exact e4 x hx hxb hi
    · rw [br_ndec (fun h => hbit (bit_of.1 h))]
      obtain ⟨q, hq, p1, p2⟩ := pow_small (k := k) (by omega)
      rw [chk_eq (by omega), grd_eq (by rw [decide_eq_true_eq]; omega), p1, chk_eq (by omega), grd_eq (by rw [decide_eq_true_eq]; omega)]
      simp only [Int.toNat_natCast]
      subst hq
      have hu' := or_small hu (show k < 6 by omega)
      obtain ⟨g1, e1, e2, e3, e4⟩ := hself (u ||| 2 ^ k) g hu' hg
      rw [e1]
      simp only [Option.bind_some]
      rw [htv i k (by omega) hk0]
      simp only [Option.bind_some]
      obtain ⟨⟨r1, r2⟩, r3, r4⟩ := rs_bound (can := canT A B s) (t := t) hF ht (by omega) d (i + 1) (u ||| 2 ^ k)
      have ht0 := ht i k
      have hd : (d : Int) ≤ 5 := by omega
      rw [hP] at r4
      have hbit' : u.testBit k = false := by simpa using hbit
      have fin : ∀ b', rsS t (rsR (canT A B s) t F.length d (i + 1)) i u b k = b' → (0 ≤ b'.2.1 ∧ b'.2.1 ≤ 30000 * (d + 1)) → 0 ≤ b'.2.2 → b'.2.2 ≤ ((Wb + P : Nat) : Int) → ∃ g', restp_l1 N self (ks.map fun (j : Nat) => ((j : Int), ())) (dkT W s L F R A B) (dkT W s L F R A B) (dkT W s L F R A B) x4 (dkT W s L F R A B) (dkT W s L F R A B) g1 i u 0 0 0 b'.1 b'.2.1 b'.2.2 =
        some (dkT W s L F R A B, dkT W s L F R A B, g', (i : Int), (u : Int), 0, 0, 0, (ks.foldl (rsS t (rsR (canT A B s) t F.length d (i + 1)) i u) (rsS t (rsR (canT A B s) t F.length d (i + 1)) i u b k)).1, (ks.foldl (rsS t (rsR (canT A B s) t F.length d (i + 1)) i u) (rsS t (rsR (canT A B s) t F.length d (i + 1)) i u b k)).2.1, (ks.foldl (rsS t (rsR (canT A B s) t F.length d (i + 1)) i u) (rsS t (rsR (canT A B s) t F.length d (i + 1)) i u b k)).2.2) ∧
        MOK (canT A B s) t F.length L.length g' ∧ subM g g' ∧ ∀ x ∈ k :: ks, u.testBit x = false → i + 1 < L.length → hasM g' (i + 1) (u ||| 2 ^ x) := fun b' hb' q1 q2 q3 => by
        obtain ⟨g', f1, f2, f3, f4⟩ := restp_l1_p hF hL ht htv hi hu hself (x4 := x4) hP ks g1 b' (Wb + P) hks e2 q1 q2 q3 (by omega)
        rw [hb']
        refine ⟨g', f1, f2, e3.trans f3, fun x hx hxb hi => ?_⟩
        rcases List.mem_cons.1 hx with rfl | hx
        · exact f3 _ _ (e4 hi)
        · exact f4 x hx hxb hi
      have es : rsS t (rsR (canT A B s) t F.length d (i + 1)) i u b k = if b.2.1 < (rsR (canT A B s) t F.length d (i + 1) (u ||| 2 ^ k)).2.1 + t i k then ((k : Int), (rsR (canT A B s) t F.length d (i + 1) (u ||| 2 ^ k)).2.1 + t i k, (rsR (canT A B s) t F.length d (i + 1) (u ||| 2 ^ k)).2.2)
          else if (rsR (canT A B s) t F.length d (i + 1) (u ||| 2 ^ k)).2.1 + t i k = b.2.1 then (b.1, b.2.1, b.2.2 + (rsR (canT A B s) t F.length d (i + 1) (u ||| 2 ^ k)).2.2) else b := by
        unfold rsS; rw [if_neg hbit]
      have hmul : 30000 * ((d : Int) + 1) = 30000 * d + 30000 := by omega
      rw [chk_eq (by omega)]
      by_cases c1 : b.2.1 < (rsR (canT A B s) t F.length d (i + 1) (u ||| 2 ^ k)).2.1 + t i k
      · rw [if_pos c1] at es
        rw [br_dec c1]
        exact fin _ es ⟨by dsimp only; omega, by dsimp only; omega⟩ (by dsimp only; omega) (by dsimp only; omega)
      · rw [if_neg c1] at es
        rw [br_ndec c1]
        by_cases c2 : (rsR (canT A B s) t F.length d (i + 1) (u ||| 2 ^ k)).2.1 + t i k = b.2.1
        · rw [if_pos c2] at es
          rw [br_dec c2, chk_eq (by omega)]
          exact fin _ es hb1 (by dsimp only; omega) (by dsimp only; omega)
        · rw [if_neg c2] at es
          rw [br_ndec c2]
          exact fin _ es hb1 hb2 (by omega)
theorem restp_R_p {t : Nat → Nat → Int} (hF : F.length ≤ 6) (hL : L.length ≤ 6) (ht : ∀ i k, 0 ≤ t i k ∧ t i k ≤ 30000) (htv : ∀ i k : Nat, i < L.length → k < F.length → tastep_S N i k (dkT W s L F R A B) = some (t i k)) :
    ∀ (fu d i u : Nat) (g : MK), d < fu → i + d = L.length → u < 64 → MOK (canT A B s) t F.length L.length g →
      ∃ g', restp_R N fu i u (dkT W s L F R A B) (dkT W s L F R A B) (dkT W s L F R A B) (dkT W s L F R A B) g = some ((rsR (canT A B s) t F.length d i u).1, (rsR (canT A B s) t F.length d i u).2.1, (rsR (canT A B s) t F.length d i u).2.2, dkT W s L F R A B, dkT W s L F R A B, g') ∧ MOK (canT A B s) t F.length L.length g' ∧ subM g g' ∧ (i < L.length → hasM g' i u)
  | 0, d, i, u, g, h, _, _, _ => by omega
  | fu + 1, d, i, u, g, h, hid, hu, hg => by
    show ∃ g', restp_S N (restp_R N fu) i u (dkT W s L F R A B) (dkT W s L F R A B) (dkT W s L F R A B) (dkT W s L F R A B) g = _ ∧ _
    unfold restp_S
    have hdl : (dkT W s L F R A B).2.2.1.length = L.length := rfl
    rw [hdl]
    cases d with
    | zero =>
      rw [br_dec (by omega)]
      exact ⟨g, rfl, hg, subM.refl g, fun h => by omega⟩
    | succ d =>
      rw [br_ndec (by omega), lkM_some]
      by_cases c : hasM g i u
      · have e := hg.get c
        rw [show L.length - i = d + 1 by omega] at e
        unfold hasM at c
        rw [c, br_true]
        unfold lkM at e
        rw [e]
        exact ⟨g, rfl, hg, subM.refl g, fun _ => c⟩
      · rw [Bool.eq_false_iff.2 c, br_false, chk_eq (by omega)]
        have hself : ∀ (u : Nat) g, u < 64 → MOK (canT A B s) t F.length L.length g → ∃ g', restp_R N fu ((i : Int) + 1) u (dkT W s L F R A B) (dkT W s L F R A B) (dkT W s L F R A B) (dkT W s L F R A B) g = some ((rsR (canT A B s) t F.length d (i + 1) u).1, (rsR (canT A B s) t F.length d (i + 1) u).2.1, (rsR (canT A B s) t F.length d (i + 1) u).2.2, dkT W s L F R A B, dkT W s L F R A B, g') ∧ MOK (canT A B s) t F.length L.length g' ∧ subM g g' ∧ (i + 1 < L.length → hasM g' (i + 1) u) := fun u g hu hg => by
          have := restp_R_p hF hL ht htv fu d (i + 1) u g (by omega) (by omega) hu hg
          rwa [nat_succ] at this
        obtain ⟨g1, e1, e2, e3, e4⟩ := hself u g hu hg
        rw [e1]
        simp only [Option.bind_some]
        have em : may_S N (dkT W s L F R A B) (i : Int) = some (dkT W s L F R A B, dkT W s L F R A B, (i : Int)) := rfl
        rw [em]
        simp only [Option.bind_some]
        rw [mayR_T hF (by omega)]
        simp only [Option.bind_some]
        obtain ⟨⟨r1, r2⟩, r3, r4⟩ := rs_bound (can := canT A B s) (t := t) hF ht (by omega) d (i + 1) u
        have h7 : (7 : Nat) ^ d ≤ 7 ^ 5 := Nat.pow_le_pow_right (by omega) (by omega)
        have h7' : (mayL (canT A B s) F.length i).length * 7 ^ d ≤ 6 * 7 ^ 5 := Nat.mul_le_mul (by have := mayL_len (canT A B s) F.length i; omega) h7
        obtain ⟨g2, f1, f2, f3, f4⟩ := restp_l1_p hF hL ht htv (i := i) (d := d) (u := u) (by omega) hu hself (x4 := (i : Int)) rfl (mayL (canT A B s) F.length i) g1 (-1, (rsR (canT A B s) t F.length d (i + 1) u).2.1, (rsR (canT A B s) t F.length d (i + 1) u).2.2) (7 ^ d)
          (fun k hk => (mem_mayL.1 hk).1) e2 ⟨r1, by dsimp only; omega⟩ r3 r4 (by omega)
        unfold mayE
        rw [f1]
        simp only [Option.bind_some]
        have er : rsR (canT A B s) t F.length (d + 1) i u = (mayL (canT A B s) F.length i).foldl (rsS t (rsR (canT A B s) t F.length d (i + 1)) i u) (-1, (rsR (canT A B s) t F.length d (i + 1) u).2.1, (rsR (canT A B s) t F.length d (i + 1) u).2.2) := rfl
        rw [← er]
        obtain ⟨k1, k2, k3⟩ := f2.cons (i := i) (u := u) (fun hi => ⟨f3 _ _ (e4 hi), fun k hk hb => f4 k hk hb hi⟩)
        rw [show L.length - i = d + 1 by omega] at k1 k2 k3
        exact ⟨_, rfl, k1, e3.trans (f3.trans k2), fun _ => k3⟩
theorem restsp_v {t : Nat → Nat → Int} (hN : 110 ≤ N) (hF : F.length ≤ 6) (hL : L.length ≤ 6) (ht : ∀ i k, 0 ≤ t i k ∧ t i k ≤ 30000) (htv : ∀ i k : Nat, i < L.length → k < F.length → tastep_S N i k (dkT W s L F R A B) = some (t i k)) {u : Nat} (hu : u < 64) :
    ∃ g, restsp_S N (dkT W s L F R A B) (dkT W s L F R A B) u = some g ∧ (0 < L.length → MOK (canT A B s) t F.length L.length g ∧ hasM g 0 u) ∧ lkM g 0 u = some (rsR (canT A B s) t F.length L.length 0 u) := by
  obtain ⟨g, e1, e2, e3, e4⟩ := restp_R_p hF hL ht htv N L.length 0 u [] (by omega) (by omega) hu MOK.nil
  unfold restsp_S restsp_j1
  rw [show ((0 : Nat) : Int) = 0 from rfl] at e1
  rw [e1]
  simp only [Option.bind_some]
  refine ⟨_, rfl, fun h0 => ?_, by rw [lkM_cons, if_pos ⟨rfl, rfl⟩]⟩
  have hg : hasM g 0 u := e4 h0
  obtain ⟨k1, k2, k3⟩ := e2.cons (i := 0) (u := u) (fun hi => e2.clo 0 u hg hi)
  rw [Nat.sub_zero] at k1 k3
  exact ⟨k1, k3⟩
theorem dbestp_l1_p {t : Nat → Nat → Int} (hF : F.length ≤ 6) (hL : L.length ≤ 6) {g : MK} (hg : MOK (canT A B s) t F.length L.length g) : ∀ (n d i u : Nat) (out : List Int), d < n → i + d = L.length → u < 64 → out.length ≤ i → (i < L.length → hasM g i u) →
    dbestp_l1 N n u L.length i g out = some (out ++ blR (canT A B s) t F.length d i u)
  | 0, d, i, u, out, h, _, _, _, _ => by omega
  | n + 1, d, i, u, out, h, hid, hu, ho, hh => by
    unfold dbestp_l1
    cases d with
    | zero =>
      rw [br_ndec (by omega)]
      simp [blR]
    | succ d =>
      have e := hg.get (hh (by omega))
      rw [show L.length - i = d + 1 by omega] at e
      have e' : ((g.find? fun (y : (Int × Int) × (Int × (Int × Int))) => Ty.beq (.pair (.int .i64) (.int .i64)) y.1 ((i : Int), (u : Int))).map (·.2)).getD (Ty.dflt (.pair (.int .i64) (.pair (.int .i64) (.int .i64)))) = rsR (canT A B s) t F.length (d + 1) i u := by
        unfold lkM at e
        rw [e]; rfl
      rw [br_dec (by omega), e', lim_eq (by simp; omega)]
      have hj : ∀ (u' : Nat) x, u' < 64 → (i + 1 < L.length → hasM g (i + 1) u') → dbestp_j1 N (dbestp_l1 N n) u' L.length i g (out ++ [x]) = some (out ++ [x] ++ blR (canT A B s) t F.length d (i + 1) u') := fun u' x hu' hh' => by
        have := dbestp_l1_p hF hL hg n d (i + 1) u' (out ++ [x]) (by omega) (by omega) hu' (by simp; omega) hh'
        rw [nat_succ] at this
        unfold dbestp_j1
        rw [chk_eq (by omega), this]
      rw [blR]
      rcases rs_fnd (can := canT A B s) (t := t) (m := F.length) (d := d) (i := i) (u := u) with ⟨h1, _⟩ | ⟨k, h1, h2, h3, _⟩
      · rw [h1, br_nd (by first | trivial | rfl), if_pos rfl, hj u _ hu (fun hi => (hg.clo i u (hh (by omega)) hi).1)]
        simp
      · obtain ⟨k1, k2⟩ := mem_mayL.1 h2
        obtain ⟨q, hq, p1, p2⟩ := pow_small (k := k) (by omega)
        rw [h1, br_nnd (show ¬ ((k : Int) = -1) by omega)]
        rw [grd_eq (by rw [decide_eq_true_eq]; exact (show (0 : Int) ≤ (k : Int) ∧ (k : Int) ≤ 62 by omega)), p1, chk_eq (by omega), grd_eq (by rw [decide_eq_true_eq]; omega), if_neg (show ¬ ((k : Int) = -1) by omega)]
        simp only [Int.toNat_natCast]
        subst hq
        rw [hj _ _ (or_small hu (by omega)) (fun hi => (hg.clo i u (hh (by omega)) hi).2 k h2 h3)]
        simp
theorem dbestp_v {t : Nat → Nat → Int} (hN : 110 ≤ N) (hF : F.length ≤ 6) (hL : L.length ≤ 6) (ht : ∀ i k, 0 ≤ t i k ∧ t i k ≤ 30000) (htv : ∀ i k : Nat, i < L.length → k < F.length → tastep_S N i k (dkT W s L F R A B) = some (t i k)) :
    dbestp_S N (dkT W s L F R A B) (dkT W s L F R A B) = some (blR (canT A B s) t F.length L.length 0 0) := by
  obtain ⟨g, e1, e2, e3⟩ := restsp_v hN hF hL ht htv (u := 0) (by omega)
  unfold dbestp_S
  rw [show ((0 : Nat) : Int) = 0 from rfl] at e1
  rw [e1]
  simp only [Option.bind_some]
  have hdl : (dkT W s L F R A B).2.2.1.length = L.length := rfl
  rw [hdl]
  by_cases h0 : 0 < L.length
  · obtain ⟨hg, hh⟩ := e2 h0
    have := dbestp_l1_p (N := N) hF hL hg N L.length 0 0 [] (by omega) (by omega) (by omega) (by simp) (fun _ => hh)
    rw [show ((0 : Nat) : Int) = 0 from rfl, List.nil_append] at this
    rw [this]; rfl
  · have hz : L.length = 0 := by omega
    obtain ⟨M, rfl⟩ : ∃ M, N = M + 1 := ⟨N - 1, by omega⟩
    rw [dbestp_l1, hz, br_ndec (by omega)]
    simp [blR]

theorem first_v (hN : 110 ≤ N) (hF : F.length ≤ 6) (hL : L.length ≤ 6) (hA : ∀ i k, 0 ≤ A i k ∧ A i k ≤ 50) {u : Nat} (hu : u < 64) : first_S N (dkT W s L F R A B) u = some (rsR (canT A B s) A F.length L.length 0 u) := by
  obtain ⟨g, e1, _, e3⟩ := restsp_v (N := N) (W := W) (s := s) (R := R) (B := B) (A := A) (t := A) hN hF hL (fun i k => by have := hA i k; omega) (fun i k hi hk => tastep_v (by omega) (by omega)) hu
  unfold first_S
  rw [show plain_S N (dkT W s L F R A B) = some (dkT W s L F R A B) from rfl]
  simp only [Option.bind_some]
  rw [e1]
  simp only [Option.bind_some]
  unfold lkM at e3
  rw [e3]; rfl
end
end Go.Proofs.Ythncjilcflilcaa

namespace Go.Proofs.Ythncjilcflilcaa
set_option linter.all false
open Go

section
variable {N : Nat}
end
/-! ### Joins without an error -/
theorem getD_01 {l : List Int} {i : Nat} (h : i < l.length) : l.getD i 0 = fnJ l i := by simp [fnJ, List.getD, h]
theorem errJ_mt {n m : Nat} {can : Nat → Nat → Bool} {l : List Int} : errJ 0 n m can l = 0 ↔ l ∈ joinsL can m n 0 0 := by
  rw [mem_joinsL, okJ_mt]
  constructor
  · intro h
    obtain ⟨_, h1, h2, h3, h4⟩ := errJ_fine h
    rw [alI_iff] at h3 h4
    refine ⟨h1, ⟨fun i hi => ?_, fun i j hi hj hij he => ?_⟩, fun k hk => by simp at hk⟩
    · have hx := List.all_eq_true.1 h2 _ (getD_mem (d := 0) hi)
      unfold inm at hx
      rw [decide_eq_true_eq, getD_01 hi] at hx
      have hc := h4 i hi
      unfold cnI at hc
      rw [Bool.or_eq_true, decide_eq_true_eq, getD_01 hi] at hc
      rcases hc with hc | hc
      · exact .inl hc
      · by_cases e : fnJ l i = -1
        · exact .inl e
        · exact .inr ⟨(fnJ l i).toNat, by omega, by omega, hc⟩
    · have key : ∀ i j, i < j → j < l.length → fnJ l i = fnJ l j → fnJ l j = -1 := fun i j hij hj he => by
        have hd := h3 j hj
        unfold dupI at hd
        rw [Bool.or_eq_true, decide_eq_true_eq, getD_01 hj, Bool.not_eq_true', ← Bool.not_eq_true, hasB_iff] at hd
        rcases hd with hd | hd
        · exact hd
        · refine absurd ?_ hd
          rw [← he, ← getD_01 (show i < l.length by omega)]
          exact List.mem_iff_getElem.2 ⟨i, by simp; omega, by simp [List.getD, show i < l.length by omega]⟩
      rcases Nat.lt_or_gt_of_ne hij with h | h
      · rw [he]; exact key i j h hj he
      · exact key j i h hi he.symm
  · rintro ⟨hl, h1, _⟩
    have hb : l.all (inm m) = true := by
      rw [List.all_eq_true]
      intro x hx
      obtain ⟨i, hi, rfl⟩ := List.getElem_of_mem hx
      have e : l[i] = fnJ l i := by simp [fnJ, List.getD, hi]
      unfold inm
      rw [decide_eq_true_eq, e]
      rcases h1.ok i hi with h | ⟨k, h, hk, _⟩ <;> omega
    have hd : alI (dupI l) l.length = true := by
      rw [alI_iff]
      intro j hj
      unfold dupI
      rw [Bool.or_eq_true, decide_eq_true_eq, getD_01 hj, Bool.not_eq_true', ← Bool.not_eq_true, hasB_iff]
      by_cases e : fnJ l j = -1
      · exact .inl e
      · refine .inr fun hm => ?_
        obtain ⟨i, hi, he⟩ := List.getElem_of_mem hm
        simp only [List.length_take] at hi
        have hij : i < j := by omega
        refine e (h1.inj j i hj (by omega) (by omega) ?_)
        rw [← he, ← getD_01 (show i < l.length by omega)]
        simp [List.getD, show i < l.length by omega]
    have hc : alI (cnI can l) l.length = true := by
      rw [alI_iff]
      intro i hi
      unfold cnI
      rw [Bool.or_eq_true, decide_eq_true_eq, getD_01 hi]
      rcases h1.ok i hi with h | ⟨k, h, _, hc⟩
      · exact .inl h
      · right; rw [h, Int.toNat_natCast]; exact hc
    unfold errJ
    rw [if_neg (by simp), if_neg (by omega), hb, hd, hc]
    simp
section
variable {W : List Int} {s : Int} {L F : List (List Int)} {R : List Int} {A B : Nat → Nat → Int} {N : Nat}
theorem joins_facts {l : List Int} (h : l ∈ joinsL (canF W s L F) F.length L.length 0 0) : l.length = L.length ∧ l.all (inm F.length) = true := by
  obtain ⟨_, h1, h2, _⟩ := errJ_fine (errJ_mt.2 h)
  exact ⟨h1, h2⟩
/-- The greatest worth, and in how many ways. -/
def bestV (W : List Int) (s : Int) (L F : List (List Int)) : Int := (rsR (canF W s L F) (agF W L F) F.length L.length 0 0).2.1
theorem best_le {l : List Int} (h : l ∈ joinsL (canF W s L F) F.length L.length 0 0) : valJ (agF W L F) 0 l ≤ bestV W s L F := (rs_bst (can := canF W s L F) (t := agF W L F) (m := F.length) L.length 0 0).le l h
theorem bl_mem {t : Nat → Nat → Int} : blR (canF W s L F) t F.length L.length 0 0 ∈ joinsL (canF W s L F) F.length L.length 0 0 := by
  obtain ⟨q1, q2, _⟩ := bl_best (can := canF W s L F) (t := t) (m := F.length) L.length 0 0
  exact mem_joinsL.2 ⟨q2, q1⟩
theorem bl_val : valJ (agF W L F) 0 (blR (canF W s L F) (agF W L F) F.length L.length 0 0) = bestV W s L F := (bl_best (can := canF W s L F) (t := agF W L F) (m := F.length) L.length 0 0).2.2
theorem bestV_bound (h : Fine W s L F R) : 0 ≤ bestV W s L F ∧ bestV W s L F ≤ 300 := by
  have := (rs_bound (can := canF W s L F) (t := agF W L F) h.f6 (agF_bound h) (by omega) L.length 0 0).1
  have := h.l6
  unfold bestV; omega
end
end Go.Proofs.Ythncjilcflilcaa

namespace Go.Proofs.Ythncjilcflilcaa
set_option linter.all false
open Go

section
variable {W : List Int} {s : Int} {L F : List (List Int)} {R : List Int} {A B : Nat → Nat → Int} {N : Nat}
/-- Best joins. -/
abbrev bestL (W : List Int) (s : Int) (L F : List (List Int)) : List Int := blR (canF W s L F) (agF W L F) F.length L.length 0 0
theorem best_v (hN : 110 ≤ N) (h : Sm W L F R) : best_S N W s L F R = some (if errD W s L F R = 0 then (bestL W s L F, bestV W s L F, 0) else ([], 0, errD W s L F R)) := by
  unfold best_S
  rw [opened_v hN h]
  by_cases c : errD W s L F R = 0
  rotate_left
  · rw [if_neg c, if_neg c]
    simp only [Option.bind_some]
    rw [br_nnd c]
  have hF := errD_iff.1 c
  rw [if_pos c, if_pos c]
  simp only [Option.bind_some]
  rw [br_nd (by first | trivial | rfl)]
  unfold dkO
  rw [show plain_S N (dkT W s L F R (agF W L F) (slF W L F)) = some (dkT W s L F R (agF W L F) (slF W L F)) from rfl]
  simp only [Option.bind_some]
  have hl6 := hF.l6; have hf6 := hF.f6
  rw [dbestp_v hN hf6 hl6 (t := agF W L F) (fun i k => by have := agF_bound hF i k; omega) (fun i k hi hk => tastep_v (by omega) (by omega))]
  simp only [Option.bind_some]
  obtain ⟨j1, j2⟩ := joins_facts (W := W) (s := s) (L := L) (F := F) (bl_mem (t := agF W L F))
  rw [dworth_v hN (agF_bound hF) (by omega) hf6 j2, bl_val]; rfl
/-! ### Rewards -/
/-! ### Prices -/
def vK (W : List Int) (s : Int) (L F : List (List Int)) (k : Nat) : Int := (rsR (canF W s L F) (agF W L F) F.length L.length 0 (2 ^ k)).2.1
def pK (W : List Int) (s : Int) (L F : List (List Int)) (k : Nat) : Int := bestV W s L F - vK W s L F k
def qI (W : List Int) (s : Int) (L F : List (List Int)) (i : Nat) : Int := (mayL (canF W s L F) F.length i).foldl (fun a k => max a (agF W L F i k - pK W s L F k)) 0
theorem isMaxV : IsMax L.length F.length (canF W s L F) (agF W L F) (fun _ => False) (bestV W s L F) := (rs_max (can := canF W s L F) (t := agF W L F) (m := F.length) L.length 0).congr (fun k => by simp)
theorem isMaxK (k : Nat) : IsMax L.length F.length (canF W s L F) (agF W L F) (· = k) (vK W s L F k) := (rs_max (can := canF W s L F) (t := agF W L F) (m := F.length) L.length (2 ^ k)).congr (fun j => by rw [Nat.testBit_two_pow, decide_eq_true_eq]; exact eq_comm)
theorem pK_bound (h : Fine W s L F R) (k : Nat) : 0 ≤ pK W s L F k ∧ pK W s L F k ≤ 300 := by
  obtain ⟨J, h1, _, h3⟩ := (isMaxK (W := W) (s := s) (L := L) (F := F) k).ex
  have h4 := (isMaxV (W := W) (s := s) (L := L) (F := F)).le J h1 (fun _ hf => hf.elim)
  have h5 := (rs_bound (can := canF W s L F) (t := agF W L F) h.f6 (agF_bound h) (by omega) L.length 0 (2 ^ k)).1
  have h6 := bestV_bound h
  have h7 := h.l6
  unfold pK
  rw [h3] at h4
  have : vK W s L F k = (rsR (canF W s L F) (agF W L F) F.length L.length 0 (2 ^ k)).2.1 := rfl
  omega
theorem foldl_ub {f : Nat → Int} : ∀ (l : List Nat) (a : Int), a ≤ l.foldl (fun a k => max a (f k)) a ∧ (∀ k ∈ l, f k ≤ l.foldl (fun a k => max a (f k)) a) ∧ (l.foldl (fun a k => max a (f k)) a = a ∨ ∃ k ∈ l, l.foldl (fun a k => max a (f k)) a = f k)
  | [], a => ⟨Int.le_refl _, (fun k hk => by cases hk), .inl rfl⟩
  | x :: l, a => by
    obtain ⟨h1, h2, h3⟩ := foldl_ub (f := f) l (max a (f x))
    rw [List.foldl_cons]
    refine ⟨by omega, fun k hk => ?_, ?_⟩
    · rcases List.mem_cons.1 hk with rfl | hk
      · omega
      · exact h2 k hk
    · rcases h3 with h3 | ⟨k, hk, e⟩
      · rw [h3]
        rcases Int.le_total a (f x) with h | h
        · exact .inr ⟨x, by simp, by omega⟩
        · exact .inl (by omega)
      · exact .inr ⟨k, by simp [hk], e⟩
theorem qI_bound (h : Fine W s L F R) (i : Nat) : 0 ≤ qI W s L F i ∧ qI W s L F i ≤ 50 := by
  obtain ⟨h1, h2, h3⟩ := foldl_ub (f := fun k => agF W L F i k - pK W s L F k) (mayL (canF W s L F) F.length i) 0
  unfold qI
  refine ⟨h1, ?_⟩
  rcases h3 with h3 | ⟨k, _, e⟩
  · rw [h3]; omega
  · rw [e]
    have := agF_bound h i k
    have := pK_bound h k
    omega
theorem map_succ (f : Nat → Int) (k : Nat) : (List.range (k + 1)).map f = (List.range k).map f ++ [f k] := by rw [List.range_succ, List.map_append]; rfl
theorem mapR_getD {f : Nat → Int} {n k : Nat} (h : k < n) : ((List.range n).map f).getD k 0 = f k := by simp [List.getD, h]
theorem mapR_len (f : Nat → Int) (n : Nat) : ((List.range n).map f).length = n := by simp
theorem mapR_sum (f : Nat → Int) : ∀ n : Nat, ((List.range n).map f).sum = sumN f n
  | 0 => rfl
  | n + 1 => by rw [map_succ, List.sum_append, mapR_sum f n, sumN]; simp
theorem prices_l1_p (hN : 110 ≤ N) (h : Fine W s L F R) {e : Int} : ∀ (n k : Nat), F.length < n + k → k ≤ F.length → prices_l1 N n e (bestV W s L F) F.length k W s L F R (dkO W s L F R) ((List.range k).map (pK W s L F)) = some (e, W, s, L, F, R, dkO W s L F R, (List.range F.length).map (pK W s L F))
  | 0, k, hn, _ => by omega
  | n + 1, k, hn, hk => by
    unfold prices_l1
    have hf6 := h.f6
    by_cases c : k < F.length
    · have ih := prices_l1_p hN h (e := e) n (k + 1) (by omega) (by omega)
      rw [nat_succ, map_succ] at ih
      obtain ⟨q, hq, p1, p2⟩ := pow_small (k := k) (by omega)
      have hb := pK_bound h k
      rw [br_dec (by omega), grd_eq (by rw [decide_eq_true_eq]; omega), p1, chk_eq (by omega)]
      have e1 := first_v (N := N) (W := W) (s := s) (R := R) (B := slF W L F) hN hF hL (agF_bound h) (u := q) p2
      unfold dkO
      rw [e1]
      simp only [Option.bind_some]
      subst hq
      have e2 : bestV W s L F - (rsR (canT (agF W L F) (slF W L F) s) (agF W L F) F.length L.length 0 (2 ^ k)).2.1 = pK W s L F k := rfl
      rw [e2, chk_eq (by omega), lim_eq (by simp; omega), chk_eq (by omega)]
      exact ih
    · obtain rfl : k = F.length := by omega
      rw [br_ndec (by omega)]
  where
  hF := h.f6
  hL := h.l6
theorem prices_l3_p {p : List Int} (hF : F.length ≤ 6) (hp : p.length = F.length) (hpb : ∀ k, 0 ≤ p.getD k 0 ∧ p.getD k 0 ≤ 300) (hA : ∀ i k, 0 ≤ A i k ∧ A i k ≤ 50) {i : Nat} (hi : i < 6) {e u u2 u5 : Int} {lost : List Int} : ∀ (ks : List Nat) (x : Int), (∀ k ∈ ks, k < F.length) →
    prices_l3 N (ks.map fun (j : Nat) => ((j : Int), ())) e u u2 (dkT W s L F R A B) (dkT W s L F R A B) u5 lost (dkT W s L F R A B) i x p = some (e, u, u2, lost, dkT W s L F R A B, ks.foldl (fun a k => max a (A i k - p.getD k 0)) x, p)
  | [], x, _ => rfl
  | k :: ks, x, hk => by
    have hk0 := hk k (by simp)
    have ih := prices_l3_p hF hp hpb hA hi (e := e) (u := u) (u2 := u2) (u5 := u5) (lost := lost) ks (max x (A i k - p.getD k 0)) (fun y hy => hk y (by simp [hy]))
    have b1 := hpb k
    have b2 := hA i k
    rw [List.map_cons, List.foldl_cons, prices_l3, prices_l3_b]
    dsimp only
    rw [rng_eq (by omega), rng_eq (by omega)]
    simp only [Int.toNat_natCast]
    rw [get_T hi (by omega), rng_eq (by omega), get_get 0 (by omega), chk_eq (by omega), ih]
theorem prices_l2_p (h : Fine W s L F R) {e : Int} : ∀ (n i : Nat), L.length < n + i → i ≤ L.length → prices_l2 N n e L.length i ((List.range i).map (qI W s L F)) (dkO W s L F R) ((List.range F.length).map (pK W s L F)) = some ((List.range L.length).map (qI W s L F), (List.range F.length).map (pK W s L F))
  | 0, i, hn, _ => by omega
  | n + 1, i, hn, hi => by
    unfold prices_l2
    have hl6 := h.l6; have hf6 := h.f6
    by_cases c : i < L.length
    · have ih := prices_l2_p h (e := e) n (i + 1) (by omega) (by omega)
      rw [nat_succ, map_succ] at ih
      have em : may_S N (dkO W s L F R) (i : Int) = some (dkO W s L F R, dkO W s L F R, (i : Int)) := rfl
      rw [br_dec (by omega), em]
      simp only [Option.bind_some]
      unfold dkO
      rw [mayR_T hf6 (by omega)]
      simp only [Option.bind_some]
      unfold mayE
      rw [prices_l3_p hf6 (mapR_len _ _) (fun k => by
        by_cases hk : k < F.length
        · rw [mapR_getD hk]; exact pK_bound h k
        · have : ((List.range F.length).map (pK W s L F)).getD k 0 = 0 := by simp [List.getD, hk]
          omega) (agF_bound h) (by omega) _ _ (fun k hk => (mem_mayL.1 hk).1)]
      simp only [Option.bind_some]
      have e2 : (mayL (canT (agF W L F) (slF W L F) s) F.length i).foldl (fun a k => max a (agF W L F i k - ((List.range F.length).map (pK W s L F)).getD k 0)) 0 = qI W s L F i := by
        unfold qI
        have : ∀ (l : List Nat) (a : Int), (∀ k ∈ l, k < F.length) → l.foldl (fun a k => max a (agF W L F i k - ((List.range F.length).map (pK W s L F)).getD k 0)) a = l.foldl (fun a k => max a (agF W L F i k - pK W s L F k)) a := by
          intro l
          induction l with
          | nil => intro a _; rfl
          | cons x l ihl =>
            intro a hl
            rw [List.foldl_cons, List.foldl_cons, mapR_getD (hl x (by simp)), ihl _ (fun k hk => hl k (by simp [hk]))]
        exact this _ _ (fun k hk => (mem_mayL.1 hk).1)
      rw [e2, lim_eq (by simp; omega), chk_eq (by omega)]
      exact ih
    · obtain rfl : i = L.length := by omega
      rw [br_ndec (by omega)]
theorem prices_v (hN : 110 ≤ N) (h : Sm W L F R) : prices_S N W s L F R = some (if errD W s L F R = 0 then ((List.range L.length).map (qI W s L F), (List.range F.length).map (pK W s L F), 0) else ([], [], errD W s L F R)) := by
  unfold prices_S
  rw [opened_v hN h]
  by_cases c : errD W s L F R = 0
  rotate_left
  · rw [if_neg c, if_neg c]
    simp only [Option.bind_some]
    rw [br_nnd c]
  have hF := errD_iff.1 c
  have hl6 := hF.l6; have hf6 := hF.f6
  rw [if_pos c, if_pos c]
  simp only [Option.bind_some]
  rw [br_nd (by first | trivial | rfl)]
  have e0 := first_v (N := N) (W := W) (s := s) (R := R) (B := slF W L F) hN hf6 hl6 (agF_bound hF) (u := 0) (by omega)
  rw [show ((0 : Nat) : Int) = 0 from rfl] at e0
  have e1 := prices_l1_p hN hF (e := 0) N 0 (by omega) (by omega)
  have e2 := prices_l2_p (N := N) hF (e := 0) N 0 (by omega) (by omega)
  rw [show ((0 : Nat) : Int) = 0 from rfl, List.range_zero, List.map_nil] at e1 e2
  rw [show first_S N (dkO W s L F R) 0 = _ from e0]
  simp only [Option.bind_some]
  rw [show prices_l1 N N 0 (rsR (canT (agF W L F) (slF W L F) s) (agF W L F) F.length L.length 0 0).2.1 F.length 0 W s L F R (dkO W s L F R) [] = _ from e1]
  simp only [Option.bind_some]
  rw [e2]; rfl
theorem shows_prices (h : Fine W s L F R) : shR 0 L.length F.length (canF W s L F) (agF W L F) ((List.range L.length).map (qI W s L F)) ((List.range F.length).map (pK W s L F)) = (bestV W s L F, 0) := by
  have hq : ∀ x ∈ (List.range L.length).map (qI W s L F), 0 ≤ x ∧ x ≤ 999 := fun x hx => by
    obtain ⟨i, _, rfl⟩ := List.mem_map.1 hx
    have := qI_bound h i; omega
  have hp : ∀ x ∈ (List.range F.length).map (pK W s L F), 0 ≤ x ∧ x ≤ 999 := fun x hx => by
    obtain ⟨i, _, rfl⟩ := List.mem_map.1 hx
    have := pK_bound h i; omega
  have a1 : ((List.range L.length).map (qI W s L F)).all okp = true := by rw [List.all_eq_true]; exact fun x hx => by unfold okp; rw [decide_eq_true_eq]; exact hq x hx
  have a2 : ((List.range F.length).map (pK W s L F)).all okp = true := by rw [List.all_eq_true]; exact fun x hx => by unfold okp; rw [decide_eq_true_eq]; exact hp x hx
  have a3 : alI (okS (canF W s L F) (agF W L F) F.length ((List.range L.length).map (qI W s L F)) ((List.range F.length).map (pK W s L F))) ((List.range L.length).map (qI W s L F)).length = true := by
    rw [alI_iff, mapR_len]
    intro i hi
    unfold okS
    rw [List.all_eq_true]
    intro k hk
    obtain ⟨k1, k2⟩ := mem_mayL.1 hk
    rw [decide_eq_true_eq, mapR_getD hi, mapR_getD k1]
    have := (foldl_ub (f := fun k => agF W L F i k - pK W s L F k) (mayL (canF W s L F) F.length i) 0).2.1 k hk
    have e : qI W s L F i = (mayL (canF W s L F) F.length i).foldl (fun a k => max a (agF W L F i k - pK W s L F k)) 0 := rfl
    omega
  obtain ⟨J, hJ, _, hV⟩ := (isMaxV (W := W) (s := s) (L := L) (F := F)).ex
  have hs := prices_sum (p := pK W s L F) (q := qI W s L F) hJ hV (fun J hJ => (isMaxV (W := W) (s := s) (L := L) (F := F)).le J hJ (fun _ hf => hf.elim)) (fun k _ => isMaxK (W := W) (s := s) (L := L) (F := F) k) (fun k _ => rfl) (fun i _ => (qI_bound h i).1)
    (fun i k _ hk hc => (foldl_ub (f := fun k => agF W L F i k - pK W s L F k) (mayL (canF W s L F) F.length i) 0).2.1 k (mem_mayL.2 ⟨hk, hc⟩)) (fun i _ => by
      rcases (foldl_ub (f := fun k => agF W L F i k - pK W s L F k) (mayL (canF W s L F) F.length i) 0).2.2 with e | ⟨k, hk, e⟩
      · exact .inl e
      · obtain ⟨k1, k2⟩ := mem_mayL.1 hk
        exact .inr ⟨k, k1, k2, e⟩)
  unfold shR
  rw [if_neg (by simp), if_neg (by rw [mapR_len]; simp), if_neg (by rw [mapR_len]; simp), if_neg (by rw [a1]; simp), if_neg (by rw [a2]; simp), if_neg (by rw [a3]; simp), mapR_sum, mapR_sum, hs]
end
end Go.Proofs.Ythncjilcflilcaa

namespace Go.Proofs.Ythncjilcflilcaa
set_option linter.all false
open Go

section
variable {N : Nat}
end
section
variable {W : List Int} {s : Int} {L F : List (List Int)} {R : List Int} {A B : Nat → Nat → Int} {N : Nat}
theorem mt_snoc {can : Nat → Nat → Bool} {m : Nat} {l : List Int} {k : Int} (h : l ∈ joinsL can m l.length 0 0) (hk : -1 ≤ k ∧ k ≤ (m : Int) - 1) (hc : (decide (k = -1) || (!hasB l k && can l.length k.toNat)) = true) : l ++ [k] ∈ joinsL can m (l ++ [k]).length 0 0 := by
  obtain ⟨_, h2⟩ := mem_joinsL.1 h
  obtain ⟨h3, _⟩ := okJ_mt.1 h2
  refine mem_joinsL.2 ⟨rfl, okJ_mt.2 ⟨?_, fun k hk => by simp at hk⟩⟩
  have e1 : ∀ j, j < l.length → fnJ (l ++ [k]) j = fnJ l j := fun j hj => by simp [fnJ, List.getD, List.getElem?_append_left hj]
  have e2 : fnJ (l ++ [k]) l.length = k := by simp [fnJ, List.getD]
  rw [Bool.or_eq_true, decide_eq_true_eq, Bool.and_eq_true, Bool.not_eq_true', ← Bool.not_eq_true, hasB_iff] at hc
  have hnew : ∀ j, j < l.length → fnJ l j = k → k = -1 := fun j hj e => by
    rcases hc with hc | ⟨hc, _⟩
    · exact hc
    · exact absurd (by rw [← e, ← getD_01 hj]; exact getD_mem hj) hc
  rw [List.length_append, List.length_singleton]
  refine ⟨fun i hi => ?_, fun i j hi hj hij he => ?_⟩
  · rcases Nat.lt_or_ge i l.length with h | h
    · rw [e1 i h]; exact h3.ok i h
    · obtain rfl : i = l.length := by omega
      rw [e2]
      rcases hc with hc | ⟨_, hc⟩
      · exact .inl hc
      · by_cases e : k = -1
        · exact .inl e
        · exact .inr ⟨k.toNat, by omega, by omega, hc⟩
  · rcases Nat.lt_or_ge i l.length with h | h
    · rw [e1 i h] at he ⊢
      rcases Nat.lt_or_ge j l.length with h' | h'
      · rw [e1 j h'] at he
        exact h3.inj i j h h' hij he
      · obtain rfl : j = l.length := by omega
        rw [e2] at he
        rw [he]; exact hnew i h he
    · obtain rfl : i = l.length := by omega
      rw [e2] at he ⊢
      have hj' : j < l.length := by omega
      rw [e1 j hj'] at he
      exact hnew j hj' he.symm

end
end Go.Proofs.Ythncjilcflilcaa

namespace Go.Proofs.Ythncjilcflilcaa
set_option linter.all false
open Go

section
variable {W : List Int} {s : Int} {L F : List (List Int)} {R : List Int} {A B : Nat → Nat → Int} {N : Nat}
theorem joins_all {can : Nat → Nat → Bool} {m n : Nat} {l : List Int} (h : l ∈ joinsL can m n 0 0) : l.length = n ∧ l.all (inm m) = true := by
  obtain ⟨_, h1, h2, _⟩ := errJ_fine (errJ_mt.2 h)
  exact ⟨h1, h2⟩
/-! ### The reference -/
end
end Go.Proofs.Ythncjilcflilcaa

namespace Go.Proofs.Ythncjilcflilcaa
set_option linter.all false
open Go

section
variable {W : List Int} {s : Int} {L F : List (List Int)} {R : List Int} {A B : Nat → Nat → Int} {N : Nat}
/-! ### What is spare -/
end
end Go.Proofs.Ythncjilcflilcaa

namespace Go.Proofs.Ythncjilcflilcaa
set_option linter.all false
open Go
/-! ### Bells -/
theorem wrap32 (x : Int) : 0 ≤ IntKind.u32.wrap x ∧ IntKind.u32.wrap x < 4294967296 := by
  have := wrap_inR .u32 x
  have h1 : IntKind.u32.min = 0 := by decide
  have h2 : IntKind.u32.max = 4294967295 := by decide
  unfold inR at this
  rw [h1, h2] at this
  omega
def Bell (b : List Int) (b2 : Int) : Prop := b.length ≤ 9223372036854775807 ∧ 0 ≤ b2 ∧ b2 ≤ b.length
abbrev BellR (b : List Int) (r : List Int × Int × Int) : Prop := r.1 = b ∧ Bell b r.2.1
theorem and_small (n : Nat) : 0 ≤ IntKind.i64.wrap ((n &&& 65535 : Nat) : Int) ∧ IntKind.i64.wrap ((n &&& 65535 : Nat) : Int) ≤ 65535 := by
  have : n &&& 65535 ≤ 65535 := Nat.and_le_right
  rw [wrap64 (by omega)]
  omega
theorem fdiv_nonneg {x : Int} (h : 0 ≤ x) : 0 ≤ Int.fdiv x (2 ^ 7) := by
  rw [Int.fdiv_eq_ediv_of_nonneg _ (by decide)]
  exact Int.ediv_nonneg h (by decide)
theorem ring_j1_ok (N : Nat) {b : List Int} {b2 b3 : Int} (hb : b.length ≤ 9223372036854775807) (h0 : 0 ≤ b2) (h1 : b2 < b.length ∨ b.length = 0 ∧ b2 = 0) : Ok (ring_j1 N b b2 b3) fun r => (0 ≤ r.1 ∧ r.1 ≤ 65535) ∧ BellR b r.2 := by
  unfold ring_j1
  refine Ok.brd (fun h => ?_) (fun h => ?_)
  · refine Ok.idx h0 (by omega) (fun a _ _ => Ok.chk (by omega) (Ok.grd ?_ (Ok.grd ?_ (Ok.some ?_))))
    · simp only [decide_eq_true_eq]; exact ⟨(wrap32 _).1, fdiv_nonneg (wrap32 _).1⟩
    · simp only [decide_eq_true_eq]; exact ⟨Int.natCast_nonneg _, by decide⟩
    · exact ⟨and_small _, rfl, hb, by dsimp only; omega, by dsimp only; omega⟩
  · refine Ok.grd ?_ (Ok.grd ?_ (Ok.some ?_))
    · simp only [decide_eq_true_eq]; exact ⟨(wrap32 _).1, fdiv_nonneg (wrap32 _).1⟩
    · simp only [decide_eq_true_eq]; exact ⟨Int.natCast_nonneg _, by decide⟩
    · exact ⟨and_small _, rfl, hb, by dsimp only; omega, by dsimp only; omega⟩
theorem ring_ok (N : Nat) {b : List Int} {b2 b3 : Int} (hb : Bell b b2) : Ok (ring_S N b b2 b3) fun r => (0 ≤ r.1 ∧ r.1 ≤ 65535) ∧ BellR b r.2 := by
  obtain ⟨h1, h2, h3⟩ := hb
  unfold ring_S
  refine Ok.brd (fun h => ring_j1_ok N h1 (by omega) (by omega)) (fun h => ring_j1_ok N h1 h2 (by omega))
theorem stroke_ok (N : Nat) {n : Int} {b : List Int} {b2 b3 : Int} (hb : Bell b b2) (hn : -1000000 ≤ n ∧ n ≤ 1000000) : Ok (stroke_S N n b b2 b3) fun r => (0 ≤ r.1 ∧ r.1 ≤ max 0 n) ∧ BellR b r.2 := by
  unfold stroke_S
  refine Ok.bind (ring_ok N hb) (fun r hr => ?_)
  obtain ⟨x, c, c2, c3⟩ := r
  refine Ok.chk (by omega) (Ok.grd (by simp only [Bool.not_eq_true', decide_eq_false_iff_not]; omega) (Ok.some ⟨?_, hr.2⟩))
  obtain ⟨⟨h1, h2⟩, _⟩ := hr
  dsimp only at *
  have hm : 0 < max 1 (n + 1) := by omega
  have := Int.tmod_lt_of_pos x hm
  have := Int.tmod_nonneg (max 1 (n + 1)) h1
  omega
theorem strike_ok (N : Nat) {lo hi : Int} {b : List Int} {b2 b3 : Int} (hb : Bell b b2) (hn : (-1000 ≤ lo ∧ lo ≤ 1000) ∧ -1000 ≤ hi ∧ hi ≤ 1000) : Ok (strike_S N lo hi b b2 b3) fun r => (lo ≤ r.1 ∧ r.1 ≤ max lo hi) ∧ BellR b r.2 := by
  unfold strike_S
  refine Ok.chk (by omega) (Ok.bind (stroke_ok N hb (by omega)) (fun r hr => ?_))
  obtain ⟨x, c, c2, c3⟩ := r
  obtain ⟨h, h2⟩ := hr
  dsimp only at *
  refine Ok.chk (by omega) (Ok.some ⟨by dsimp only; omega, h2⟩)
theorem seldom_ok (N : Nat) {n : Int} {b : List Int} {b2 b3 : Int} (hb : Bell b b2) (hn : -1000 ≤ n ∧ n ≤ 1000) : Ok (seldom_S N n b b2 b3) fun r => BellR b r.2 := by
  unfold seldom_S
  refine Ok.chk (by omega) (Ok.bind (stroke_ok N hb (by omega)) (fun r hr => ?_))
  obtain ⟨x, c, c2, c3⟩ := r
  exact Ok.some hr.2

def BelR (b b' : List Int) (b2 : Int) : Prop := b' = b ∧ Bell b b2
/-! ### Desks -/
section
variable {N : Nat} {b : List Int}
theorem made1_ok {often b2 b3 : Int} (ho : -1000 ≤ often ∧ often ≤ 1000) (hb : Bell b b2) : Ok (made1_S N often b b2 b3) fun r => (-1 ≤ r.1 ∧ r.1 ≤ 5) ∧ BelR b r.2.1 r.2.2.1 := by
  unfold made1_S
  refine Ok.bind (seldom_ok N hb ho) ?_
  rintro ⟨x, c1, c2, c3⟩ ⟨hc, hb1⟩
  dsimp only at hc hb1 ⊢
  obtain rfl := hc.symm
  refine Ok.br (fun _ => Ok.some ⟨by dsimp only; omega, rfl, hb1⟩) (fun _ => ?_)
  refine Ok.bind (stroke_ok N hb1 (by omega)) ?_
  rintro ⟨y, d1, d2, d3⟩ ⟨hy, hc, hb2⟩
  dsimp only at hy hc hb2 ⊢
  obtain rfl := hc.symm
  exact Ok.some ⟨by dsimp only; omega, rfl, hb2⟩
theorem made_l1_p {things u g d : Int} (hu : 0 ≤ u ∧ u ≤ 100) : ∀ (n k : Nat) (b2 b3 : Int) (W : List Int), u < n + k → (k : Int) ≤ u → Bell b b2 → W.length = k → (∀ x ∈ W, 1 ≤ x ∧ x ≤ 9) →
    Ok (made_l1 N n things u k b b2 b3 g d W) fun z => z.1 = things ∧ BelR b z.2.1 z.2.2.1 ∧ z.2.2.2.2.1 = g ∧ z.2.2.2.2.2.1 = d ∧ (z.2.2.2.2.2.2.length : Int) = u ∧ ∀ x ∈ z.2.2.2.2.2.2, 1 ≤ x ∧ x ≤ 9
  | 0, k, b2, b3, W, h, _, _, _, _ => by omega
  | n + 1, k, b2, b3, W, h, hk, hb, hW, hw => by
    unfold made_l1
    refine Ok.brd (fun c => ?_) (fun c => Ok.some ⟨rfl, ⟨rfl, hb⟩, rfl, rfl, by dsimp only; omega, hw⟩)
    refine Ok.bind (strike_ok N hb (by omega)) ?_
    rintro ⟨x, c1, c2, c3⟩ ⟨hx, hc, hb1⟩
    dsimp only at hx hc hb1 ⊢
    obtain rfl := hc.symm
    refine Ok.lim (by simp; omega) (Ok.chk (by omega) ?_)
    have := made_l1_p (things := things) (g := g) (d := d) hu n (k + 1) c2 c3 (W ++ [x]) (by omega) (by omega) hb1 (by simp [hW]) (fun w hm => by
      rcases List.mem_append.1 hm with hm | hm
      · exact hw w hm
      · simp at hm; subst hm; omega)
    rw [nat_succ] at this
    exact this
theorem made_l3_p {many often u u2 u3 g d : Int} {d2 : List Int} {d3 : List (List Int)} {d4 : List Int} (ho : 2 ≤ often ∧ often ≤ 5) (hu : 0 ≤ u3 ∧ u3 ≤ 100) : ∀ (n k : Nat) (b2 b3 : Int) (l : List Int), u3 < n + k → (k : Int) ≤ u3 → Bell b b2 → l.length = k → (∀ x ∈ l, -1 ≤ x ∧ x ≤ 5) →
    Ok (made_l3 N n many often u u2 u3 k b b2 b3 g d l d2 d3 d4) fun z => ∃ b2' b3' l', z = (many, often, u, u2, b, b2', b3', g, d, l', d2, d3, d4) ∧ Bell b b2' ∧ (l'.length : Int) = u3 ∧ ∀ x ∈ l', -1 ≤ x ∧ x ≤ 5
  | 0, k, b2, b3, l, h, _, _, _, _ => by omega
  | n + 1, k, b2, b3, l, h, hk, hb, hW, hw => by
    unfold made_l3
    refine Ok.brd (fun c => ?_) (fun c => Ok.some ⟨b2, b3, l, rfl, hb, by omega, hw⟩)
    refine Ok.bind (made1_ok (by omega) hb) ?_
    rintro ⟨x, c1, c2, c3⟩ ⟨hx, hc, hb1⟩
    dsimp only at hx hc hb1 ⊢
    obtain rfl := hc.symm
    refine Ok.lim (by simp; omega) (Ok.chk (by omega) ?_)
    have := made_l3_p (many := many) (often := often) (u := u) (u2 := u2) (g := g) (d := d) (d2 := d2) (d3 := d3) (d4 := d4) ho hu n (k + 1) c2 c3 (l ++ [x]) (by omega) (by omega) hb1 (by simp [hW]) (fun w hm => by
      rcases List.mem_append.1 hm with hm | hm
      · exact hw w hm
      · simp at hm; subst hm; omega)
    rw [nat_succ] at this
    exact this
theorem made_l5_p {often u u2 u3 g d : Int} {d2 : List Int} {d3 d4 : List (List Int)} {d5 : List Int} (ho : 2 ≤ often ∧ often ≤ 5) (hu : 0 ≤ u3 ∧ u3 ≤ 100) : ∀ (n k : Nat) (b2 b3 : Int) (l : List Int), u3 < n + k → (k : Int) ≤ u3 → Bell b b2 → l.length = k → (∀ x ∈ l, -1 ≤ x ∧ x ≤ 5) →
    Ok (made_l5 N n often u u2 u3 k b b2 b3 g d l d2 d3 d4 d5) fun z => ∃ b2' b3' l', z = (often, u, u2, b, b2', b3', g, d, l', d2, d3, d4, d5) ∧ Bell b b2' ∧ (l'.length : Int) = u3 ∧ ∀ x ∈ l', -1 ≤ x ∧ x ≤ 5
  | 0, k, b2, b3, l, h, _, _, _, _ => by omega
  | n + 1, k, b2, b3, l, h, hk, hb, hW, hw => by
    unfold made_l5
    refine Ok.brd (fun c => ?_) (fun c => Ok.some ⟨b2, b3, l, rfl, hb, by omega, hw⟩)
    refine Ok.bind (made1_ok (by omega) hb) ?_
    rintro ⟨x, c1, c2, c3⟩ ⟨hx, hc, hb1⟩
    dsimp only at hx hc hb1 ⊢
    obtain rfl := hc.symm
    refine Ok.lim (by simp; omega) (Ok.chk (by omega) ?_)
    have := made_l5_p (often := often) (u := u) (u2 := u2) (g := g) (d := d) (d2 := d2) (d3 := d3) (d4 := d4) (d5 := d5) ho hu n (k + 1) c2 c3 (l ++ [x]) (by omega) (by omega) hb1 (by simp [hW]) (fun w hm => by
      rcases List.mem_append.1 hm with hm | hm
      · exact hw w hm
      · simp at hm; subst hm; omega)
    rw [nat_succ] at this
    exact this
/-- Descriptions of so many traits. -/
def okRow (m : Nat) (r : List Int) : Prop := r.length = m ∧ ∀ x ∈ r, -1 ≤ x ∧ x ≤ 5
theorem made_l2_p (hN : 110 ≤ N) {many often u g d : Int} {W : List Int} (hW : W.length ≤ 5) (ho : 2 ≤ often ∧ often ≤ 5) (hu : 0 ≤ u ∧ u ≤ 6) : ∀ (n k : Nat) (b2 b3 : Int) (L : List (List Int)) (R : List Int), u < n + k → (k : Int) ≤ u → Bell b b2 → L.length = k → R.length = k → (∀ r ∈ L, okRow W.length r) → (∀ x ∈ R, 0 ≤ x ∧ x ≤ 99) →
    Ok (made_l2 N n many often u k b b2 b3 g d W L R) fun z => ∃ b2' b3' L' R', z = (many, often, b, b2', b3', g, d, W, L', R') ∧ Bell b b2' ∧ ((L'.length : Int) = u ∧ R'.length = L'.length) ∧ (∀ r ∈ L', okRow W.length r) ∧ ∀ x ∈ R', 0 ≤ x ∧ x ≤ 99
  | 0, k, b2, b3, L, R, h, _, _, _, _, _, _ => by omega
  | n + 1, k, b2, b3, L, R, h, hk, hb, hL, hR, hl, hr => by
    unfold made_l2
    refine Ok.brd (fun c => ?_) (fun c => Ok.some ⟨b2, b3, L, R, rfl, hb, ⟨by omega, by omega⟩, hl, hr⟩)
    have e := made_l3_p (N := N) (many := many) (often := often) (u := u) (u2 := (k : Int)) (u3 := W.length) (g := g) (d := d) (d2 := W) (d3 := L) (d4 := R) ho (by omega) N 0 b2 b3 [] (by omega) (by omega) hb rfl (fun x h => by cases h)
    rw [show ((0 : Nat) : Int) = 0 from rfl] at e
    refine Ok.bind e ?_
    rintro _ ⟨b2', b3', l', rfl, hb1, hl1, hl2⟩
    dsimp only
    refine Ok.lim (by simp; omega) (Ok.bind (stroke_ok N hb1 (by omega)) ?_)
    rintro ⟨y, d1, d2, d3⟩ ⟨hy, hc, hb2⟩
    dsimp only at hy hc hb2 ⊢
    obtain rfl := hc.symm
    refine Ok.lim (by simp; omega) (Ok.chk (by omega) ?_)
    have := made_l2_p hN (many := many) (g := g) (d := d) hW ho hu n (k + 1) d2 d3 (L ++ [l']) (R ++ [y]) (by omega) (by omega) hb2 (by simp [hL]) (by simp [hR]) (fun r hm => by
      rcases List.mem_append.1 hm with hm | hm
      · exact hl r hm
      · simp at hm; subst hm; exact ⟨by omega, hl2⟩) (fun x hm => by
      rcases List.mem_append.1 hm with hm | hm
      · exact hr x hm
      · simp at hm; subst hm; omega)
    rw [nat_succ] at this
    exact this
theorem made_l4_p (hN : 110 ≤ N) {often u g d : Int} {W R : List Int} {L : List (List Int)} (hW : W.length ≤ 5) (ho : 2 ≤ often ∧ often ≤ 5) (hu : 0 ≤ u ∧ u ≤ 6) : ∀ (n k : Nat) (b2 b3 : Int) (F : List (List Int)), u < n + k → (k : Int) ≤ u → Bell b b2 → F.length = k → (∀ r ∈ F, okRow W.length r) →
    Ok (made_l4 N n often u k b b2 b3 g d W L F R) fun z => ∃ b2' b3' F', z = (b, b2', b3', g, d, W, L, F', R) ∧ Bell b b2' ∧ (F'.length : Int) = u ∧ ∀ r ∈ F', okRow W.length r
  | 0, k, b2, b3, F, h, _, _, _, _ => by omega
  | n + 1, k, b2, b3, F, h, hk, hb, hL, hl => by
    unfold made_l4
    refine Ok.brd (fun c => ?_) (fun c => Ok.some ⟨b2, b3, F, rfl, hb, by omega, hl⟩)
    have e := made_l5_p (N := N) (often := often) (u := u) (u2 := (k : Int)) (u3 := W.length) (g := g) (d := d) (d2 := W) (d3 := L) (d4 := F) (d5 := R) ho (by omega) N 0 b2 b3 [] (by omega) (by omega) hb rfl (fun x h => by cases h)
    rw [show ((0 : Nat) : Int) = 0 from rfl] at e
    refine Ok.bind e ?_
    rintro _ ⟨b2', b3', l', rfl, hb1, hl1, hl2⟩
    dsimp only
    refine Ok.lim (by simp; omega) (Ok.chk (by omega) ?_)
    have := made_l4_p hN (g := g) (d := d) (L := L) (R := R) hW ho hu n (k + 1) b2' b3' (F ++ [l']) (by omega) (by omega) hb1 (by simp [hL]) (fun r hm => by
      rcases List.mem_append.1 hm with hm | hm
      · exact hl r hm
      · simp at hm; subst hm; exact ⟨by omega, hl2⟩)
    rw [nat_succ] at this
    exact this
theorem made_v (hN : 110 ≤ N) {things b2 b3 : Int} (ht : 0 ≤ things ∧ things ≤ 6) (hb : Bell b b2) :
    Ok (made_S N things b b2 b3) fun z => Fine z.1 z.2.1 z.2.2.1 z.2.2.2.1 z.2.2.2.2.1 ∧ ((z.2.2.1.length : Int) ≤ things ∧ (z.2.2.2.1.length : Int) ≤ things) ∧ z.2.1 ≤ 2 ∧ BelR b z.2.2.2.2.2.1 z.2.2.2.2.2.2.1 := by
  unfold made_S
  refine Ok.bind (stroke_ok N hb (by omega)) ?_
  rintro ⟨x, c1, c2, c3⟩ ⟨hx, hc, hb1⟩
  dsimp only at hx hc hb1 ⊢
  obtain rfl := hc.symm
  refine Ok.bind (strike_ok N hb1 (by omega)) ?_
  rintro ⟨m, d1, d2, d3⟩ ⟨hm, hc, hb2⟩
  dsimp only at hm hc hb2 ⊢
  obtain rfl := hc.symm
  have e1 := made_l1_p (N := N) (things := things) (g := 0) (d := x) (u := m) (by omega) N 0 d2 d3 [] (by omega) (by omega) hb2 rfl (fun w h => by cases h)
  rw [show ((0 : Nat) : Int) = 0 from rfl] at e1
  refine Ok.bind e1 ?_
  rintro ⟨t', f1, f2, f3, g', x', W⟩ ⟨q1, ⟨q2, hb3⟩, q3, q4, hl, hW⟩
  dsimp only at q1 q2 q3 q4 hb3 hl hW ⊢
  obtain rfl := q1.symm
  obtain rfl := q2.symm
  obtain rfl := q3.symm
  obtain rfl := q4.symm
  refine Ok.bind (stroke_ok N hb3 (by omega)) ?_
  rintro ⟨many, h1, h2, h3⟩ ⟨hmany, hc, hb4⟩
  dsimp only at hmany hc hb4 ⊢
  obtain rfl := hc.symm
  refine Ok.bind (strike_ok N hb4 (by omega)) ?_
  rintro ⟨often, i1, i2, i3⟩ ⟨hoften, hc, hb5⟩
  dsimp only at hoften hc hb5 ⊢
  obtain rfl := hc.symm
  refine Ok.bind (stroke_ok N hb5 (by omega)) ?_
  rintro ⟨u, j1, j2, j3⟩ ⟨hu, hc, hb6⟩
  dsimp only at hu hc hb6 ⊢
  obtain rfl := hc.symm
  have e2 := made_l2_p hN (many := many) (often := often) (u := u) (g := 0) (d := x) (W := W) (by omega) (by omega) (by omega) N 0 j2 j3 [] [] (by omega) (by omega) hb6 rfl rfl (fun x h => by cases h) (fun x h => by cases h)
  rw [show ((0 : Nat) : Int) = 0 from rfl] at e2
  refine Ok.bind e2 ?_
  rintro _ ⟨k2, k3, L, R, rfl, hb7, ⟨hL, hR⟩, hl2, hr2⟩
  dsimp only
  have e3 := made_l4_p hN (often := often) (u := many) (g := 0) (d := x) (W := W) (L := L) (R := R) (by omega) (by omega) (by omega) N 0 k2 k3 [] (by omega) (by omega) hb7 rfl (fun x h => by cases h)
  rw [show ((0 : Nat) : Int) = 0 from rfl] at e3
  refine Ok.bind e3 ?_
  rintro _ ⟨l2, l3, F, rfl, hb8, hF, hf2⟩
  dsimp only
  exact Ok.some ⟨⟨by dsimp only; omega, by dsimp only; omega, by dsimp only; omega, by dsimp only; omega, fun r hr => (hl2 r hr).1, fun r hr => (hf2 r hr).1, hR, hW, by dsimp only; omega, hr2, fun r hr => (hl2 r hr).2, fun r hr => (hf2 r hr).2⟩, ⟨by dsimp only; omega, by dsimp only; omega⟩, by dsimp only; omega, rfl, hb8⟩
end
end Go.Proofs.Ythncjilcflilcaa

namespace Go.Proofs.Ythncjilcflilcaa
set_option linter.all false
open Go

section
variable {W : List Int} {s : Int} {L F : List (List Int)} {R : List Int} {A B : Nat → Nat → Int} {N : Nat}
theorem lpair_l1_p (h : Fine W s L F R) {i k : Nat} (hi : i < L.length) (hk : k < F.length) : ∀ (n t : Nat), W.length < n + t → t ≤ W.length →
    lpair_l1 N n k (agP W (L.getD i []) (F.getD k []) t) (slP (L.getD i []) (F.getD k []) t) (L.getD i []) W.length t W s L F R = some (agF W L F i k, slF W L F i k, W, s, L, F, R)
  | 0, t, hn, ht => by omega
  | n + 1, t, hn, ht => by
    unfold lpair_l1
    have hw5 := h.w5
    have ha := h.lw _ (getD_mem (d := []) hi)
    have hb := h.fw _ (getD_mem (d := []) hk)
    by_cases c : t < W.length
    · have ih := lpair_l1_p h hi hk n (t + 1) (by omega) (by omega)
      rw [nat_succ] at ih
      have b1 := agP_bound h.w (L.getD i []) (F.getD k []) (t := t) (by omega)
      have b2 := slP_bound (L.getD i []) (F.getD k []) (t := t) (by omega)
      have b3 := getD_W h.w t
      have s1 : agP W (L.getD i []) (F.getD k []) (t + 1) = agP W (L.getD i []) (F.getD k []) t + agA W (L.getD i []) (F.getD k []) t := rfl
      have s2 : slP (L.getD i []) (F.getD k []) (t + 1) = slP (L.getD i []) (F.getD k []) t + slA (L.getD i []) (F.getD k []) t := rfl
      rw [s1, s2] at ih
      clear s1 s2
      have g1 : (L.getD i [])[((t : Nat) : Int).toNat]? = some ((L.getD i []).getD t 0) := gets (by omega) 0
      have g2 : (F.getD k [])[((t : Nat) : Int).toNat]? = some ((F.getD k []).getD t 0) := gets (by omega) 0
      rw [br_dec (by omega), idx_eq (by omega) g1, idx_eq (by omega) (gets hk []), idx_eq (by omega) g2]
      have hj : ∀ x y, lpair_j1 N (lpair_l1 N n) k x y (L.getD i []) W.length t W s L F R = lpair_l1 N n k x y (L.getD i []) W.length (↑t + 1) W s L F R := fun x y => by
        unfold lpair_j1
        rw [chk_eq (by omega)]
      simp only [hj]
      clear g1 g2
      unfold agA slA at ih
      generalize (L.getD i []).getD t 0 = x at *
      generalize (F.getD k []).getD t 0 = y at *
      generalize agP W (L.getD i []) (F.getD k []) t = p at *
      generalize slP (L.getD i []) (F.getD k []) t = q at *
      by_cases c1 : x = -1
      · rw [if_neg (by omega), if_neg (by omega), Int.add_zero, Int.add_zero] at ih
        rw [br_dec c1, ih]
      by_cases c2 : y = -1
      · rw [if_neg (by omega), if_neg (by omega), Int.add_zero, Int.add_zero] at ih
        rw [br_ndec c1, br_dec c2, ih]
      by_cases c3 : x = y
      · rw [if_pos ⟨c3, by omega⟩, if_neg (by omega), Int.add_zero] at ih
        rw [br_ndec c1, br_ndec c2, br_dec c3, idx_eq (by omega) (gets c 0), chk_eq (by omega), ih]
      · rw [if_neg (by omega), if_pos ⟨by omega, by omega, c3⟩, Int.add_zero] at ih
        rw [br_ndec c1, br_ndec c2, br_ndec c3, chk_eq (by omega), ih]
    · obtain rfl : t = W.length := by omega
      rw [br_ndec (by omega)]
      unfold agF slF
      rw [if_pos ⟨hi, hk⟩, if_pos ⟨hi, hk⟩]
theorem lpair_v (hN : 110 ≤ N) (h : Fine W s L F R) {i k : Nat} (hi : i < L.length) (hk : k < F.length) : lpair_S N W s L F R i k = some (agF W L F i k, canF W s L F i k) := by
  have e := lpair_l1_p (N := N) h hi hk N 0 (by have := h.w5; omega) (by omega)
  unfold lpair_S
  rw [show agP W (L.getD i []) (F.getD k []) 0 = 0 from rfl, show slP (L.getD i []) (F.getD k []) 0 = 0 from rfl, show ((0 : Nat) : Int) = 0 from rfl] at e
  rw [idx_eq (by omega) (gets hi []), h.lw _ (getD_mem hi), e]
  simp only [Option.bind_some]
  unfold canF canT
  by_cases c : 0 < agF W L F i k
  · rw [br_dec c, decide_eq_true c, Bool.true_and]
  · rw [br_ndec c, decide_eq_false c, Bool.false_and]
theorem valJ_snoc (t : Nat → Nat → Int) : ∀ (l : List Int) (i : Nat) (x : Int), valJ t i (l ++ [x]) = valJ t i l + pv t (i + l.length) x
  | [], i, x => by simp [valJ]
  | y :: l, i, x => by
    rw [List.cons_append, valJ, valJ, valJ_snoc t l (i + 1) x, List.length_cons, show i + 1 + l.length = i + (l.length + 1) by omega]; omega
theorem lworth_l1_p (hN : 110 ≤ N) (h : Fine W s L F R) {l : List Int} (hl : l.length ≤ 100) : ∀ (n k : Nat), l.length < n + k → k ≤ l.length → l.take k ∈ joinsL (canF W s L F) F.length (l.take k).length 0 0 →
    ∃ r, lworth_l1 N n l (valJ (agF W L F) 0 (l.take k)) l l.length k W s L F R = some r ∧ match r with
      | .inl _ => l ∉ joinsL (canF W s L F) F.length L.length 0 0
      | .inr (.inl _) => l ∉ joinsL (canF W s L F) F.length L.length 0 0
      | .inr (.inr z) => z = (l, valJ (agF W L F) 0 l, W, s, L, F, R) ∧ l ∈ joinsL (canF W s L F) F.length l.length 0 0
  | 0, k, hn, _, _ => by omega
  | n + 1, k, hn, hk, hp => by
    unfold lworth_l1
    have hl6 := h.l6; have hf6 := h.f6
    by_cases c : k < l.length
    rotate_left
    · rw [br_ndec (by omega)]
      rw [List.take_of_length_le (by omega)] at hp ⊢
      exact ⟨_, rfl, rfl, hp⟩
    have htk : (l.take k).length = k := by simp; omega
    have hb := valJ_bound (t := agF W L F) (agF_bound h) (by omega) (l.take k) 0
    rw [htk] at hb
    have hj : ∀ v : Int, v = valJ (agF W L F) 0 (l.take (k + 1)) → l.take (k + 1) ∈ joinsL (canF W s L F) F.length (l.take (k + 1)).length 0 0 → ∃ r, lworth_j1 N (lworth_l1 N n) l v l l.length k W s L F R = some r ∧ match r with
      | .inl _ => l ∉ joinsL (canF W s L F) F.length L.length 0 0
      | .inr (.inl _) => l ∉ joinsL (canF W s L F) F.length L.length 0 0
      | .inr (.inr z) => z = (l, valJ (agF W L F) 0 l, W, s, L, F, R) ∧ l ∈ joinsL (canF W s L F) F.length l.length 0 0 := fun v hv hp => by
      have ih := lworth_l1_p hN h hl n (k + 1) (by omega) (by omega) hp
      rw [nat_succ, ← hv] at ih
      unfold lworth_j1
      rw [chk_eq (by omega)]
      exact ih
    rw [take_succ' c 0, valJ_snoc, htk, Nat.zero_add] at hj
    have bad : (¬ (l.getD k 0 = -1 ∨ (0 ≤ l.getD k 0 ∧ l.getD k 0 < F.length ∧ k < L.length ∧ ¬ hasB (l.take k) (l.getD k 0) = true ∧ canF W s L F k (l.getD k 0).toNat = true))) → l ∉ joinsL (canF W s L F) F.length L.length 0 0 := fun hbad hm => by
      obtain ⟨m1, m2, _⟩ := mem_joins.1 hm
      refine hbad ?_
      rw [getD_01 c]
      rcases m2.ok k (by omega) with e | ⟨q, e, q1, q2⟩
      · exact .inl e
      · right
        rw [e, Int.toNat_natCast]
        refine ⟨by omega, by omega, by omega, ?_, q2⟩
        rw [hasB_iff]
        intro hin
        obtain ⟨j, hj, e2⟩ := List.getElem_of_mem hin
        have hjk : j < k := by simp at hj; omega
        have e3 : fnJ l j = q := by
          rw [← e2, ← getD_01 (show j < l.length by omega)]
          simp [List.getD, show j < l.length by omega]
        have := m2.inj j k (by omega) (by omega) (by omega) (by rw [e3, e])
        omega
    rw [br_dec (by omega), idx_eq (by omega) (gets c 0)]
    by_cases c1 : l.getD k 0 = -1
    · rw [br_dec c1]
      refine hj _ (by rw [c1, pv_none, Int.add_zero]) ?_
      exact mt_snoc hp (by omega) (by rw [c1]; rfl)
    rw [br_ndec c1]
    by_cases c2 : l.getD k 0 < 0
    · rw [br_dec c2]
      exact ⟨_, rfl, bad (by omega)⟩
    rw [br_ndec c2]
    by_cases c3 : (F.length : Int) ≤ l.getD k 0
    · rw [br_dec c3]
      exact ⟨_, rfl, bad (by omega)⟩
    rw [br_ndec c3]
    by_cases c4 : (L.length : Int) ≤ (k : Int)
    · rw [br_dec c4]
      exact ⟨_, rfl, bad (by omega)⟩
    rw [br_ndec c4, grd_eq (by rw [decide_eq_true_eq]; omega), Int.toNat_natCast, containsi_v (by omega) (by omega)]
    simp only [Option.bind_some]
    cases c5 : hasB (l.take k) (l.getD k 0)
    rotate_left
    · rw [br_true]
      exact ⟨_, rfl, bad (by rintro (e | ⟨_, _, _, e, _⟩); exact c1 e; exact e c5)⟩
    rw [br_false]
    obtain ⟨q, hq⟩ : ∃ q : Nat, l.getD k 0 = q := ⟨(l.getD k 0).toNat, by omega⟩
    have hlp := lpair_v hN h (i := k) (k := q) (by omega) (by omega)
    rw [← hq] at hlp
    rw [hlp]
    simp only [Option.bind_some]
    cases c6 : canF W s L F k q
    · rw [Bool.not_false, br_true]
      exact ⟨_, rfl, bad (by rintro (e | ⟨_, _, _, _, e⟩); exact c1 e; (rw [hq, Int.toNat_natCast, c6] at e; cases e))⟩
    rw [Bool.not_true, br_false]
    have hbk := agF_bound h k q
    rw [chk_eq (by omega)]
    refine hj _ (by rw [hq, pv_some]) ?_
    refine mt_snoc hp (by omega) ?_
    rw [htk, c5, hq, Int.toNat_natCast, c6]; simp
/-- The worth that the law tells. -/
theorem lworth_t (hN : 110 ≤ N) (h : Fine W s L F R) {l : List Int} (hl : l.length ≤ 100) : ∃ r, lworth_S N W s L F R l = some r ∧ (l ∈ joinsL (canF W s L F) F.length L.length 0 0 → r = (valJ (agF W L F) 0 l, true)) ∧ (r.2 = true → l ∈ joinsL (canF W s L F) F.length L.length 0 0) := by
  obtain ⟨r, r1, r2⟩ := lworth_l1_p hN h hl N 0 (by omega) (by omega) (by simp [joinsL])
  rw [List.take_zero, show valJ (agF W L F) 0 [] = 0 from rfl, show ((0 : Nat) : Int) = 0 from rfl] at r1
  unfold lworth_S
  rw [r1]
  simp only [Option.bind_some]
  rcases r with u | u | z
  · exact ⟨_, rfl, fun hm => absurd hm r2, fun h => by cases h⟩
  · exact ⟨_, rfl, fun hm => absurd hm r2, fun h => by cases h⟩
  · obtain ⟨rfl, z2⟩ := r2
    refine ⟨_, rfl, fun hm => ?_, fun hd => ?_⟩
    · rw [decide_eq_true (by rw [(joins_all hm).1])]
    · simp only [decide_eq_true_eq] at hd
      rw [show L.length = l.length by omega]; exact z2
theorem lworth_j (hN : 110 ≤ N) (h : Fine W s L F R) {l : List Int} (hm : l ∈ joinsL (canF W s L F) F.length L.length 0 0) : lworth_S N W s L F R l = some (valJ (agF W L F) 0 l, true) := by
  obtain ⟨r, r1, r2, _⟩ := lworth_t hN h (l := l) (by have := (joins_all hm).1; have := h.l6; omega)
  rw [r1, r2 hm]
/-! ### Joins that are tried -/
theorem rung_l1_p {b : List Int} {u : Nat} (hu : u ≤ 100) : ∀ (n k : Nat) (b2 b3 : Int) (out : List Int), u < n + k → k ≤ u → Bell b b2 → out.length = k → (∀ x ∈ out, 0 ≤ x ∧ x < u) →
    Ok (rung_l1 N n u k b b2 b3 out) fun z => BelR b z.1 z.2.1 ∧ z.2.2.2.length = u ∧ ∀ x ∈ z.2.2.2, 0 ≤ x ∧ x < u
  | 0, k, b2, b3, out, h, _, _, _, _ => by omega
  | n + 1, k, b2, b3, out, h, hk, hb, ho, hx => by
    unfold rung_l1
    refine Ok.brd (fun c => ?_) (fun c => Ok.some ⟨⟨rfl, hb⟩, by dsimp only; omega, hx⟩)
    refine Ok.bind (stroke_ok N hb (by omega)) ?_
    rintro ⟨y, c1, c2, c3⟩ ⟨hy, hc, hb1⟩
    dsimp only at hy hc hb1 ⊢
    obtain rfl := hc.symm
    have hl : (out ++ [(k : Int)]).length = k + 1 := by simp [ho]
    have hm : ∀ x ∈ out ++ [(k : Int)], 0 ≤ x ∧ x < u := fun x hm => by
      rcases List.mem_append.1 hm with hm | hm
      · exact hx x hm
      · simp at hm; omega
    refine Ok.lim (by simp; omega) (Ok.rng (by rw [hl]; omega) (Ok.get (by rw [hl]; simp) (fun a1 _ m1 => ?_)))
    refine Ok.rng (by rw [hl]; omega) (Ok.get (by rw [hl]; omega) (fun a2 _ m2 => ?_))
    refine Ok.rng (by rw [hl]; omega) (Ok.get (by rw [hl]; omega) (fun a3 _ _ => ?_))
    refine Ok.rng (by rw [List.length_set, hl]; omega) (Ok.get (by rw [List.length_set, hl]; simp) (fun a4 _ _ => ?_))
    refine Ok.chk (by omega) ?_
    have := rung_l1_p hu n (k + 1) c2 c3 (((out ++ [(k : Int)]).set y.toNat a1).set (k : Int).toNat a2) (by omega) (by omega) hb1 (by rw [List.length_set, List.length_set, hl]) (fun x hm2 => by
      rcases List.mem_or_eq_of_mem_set hm2 with hm2 | rfl
      · rcases List.mem_or_eq_of_mem_set hm2 with hm2 | rfl
        · exact hm x hm2
        · exact hm _ m1
      · exact hm _ m2)
    rw [nat_succ] at this
    exact this
theorem rung_ok (hN : 110 ≤ N) {b : List Int} {b2 b3 : Int} {u : Nat} (hu : u ≤ 100) (hb : Bell b b2) : Ok (rung_S N u b b2 b3) fun z => (z.1.length = u ∧ ∀ x ∈ z.1, 0 ≤ x ∧ x < u) ∧ BelR b z.2.1 z.2.2.1 := by
  have e := rung_l1_p (N := N) (b := b) hu N 0 b2 b3 [] (by omega) (by omega) hb rfl (fun x h => by cases h)
  rw [show ((0 : Nat) : Int) = 0 from rfl] at e
  unfold rung_S
  rw [show max 0 (u : Int) = u by omega]
  refine Ok.bind e ?_
  rintro ⟨z1, z2, z3, z4⟩ ⟨h1, h2, h3⟩
  exact Ok.some ⟨⟨h2, h3⟩, h1⟩
theorem tried_l1_p {b : List Int} {b2 b3 : Int} {m : Nat} (hm : m ≤ 100) : ∀ (n k : Nat), m < n + k → k ≤ m → tried_l1 N n m k b b2 b3 W s L F R (List.replicate k (-1) ++ List.replicate (m - k) 0) = some (b, b2, b3, W, s, L, F, R, List.replicate m (-1))
  | 0, k, h, _ => by omega
  | n + 1, k, h, hk => by
    unfold tried_l1
    by_cases c : k < m
    · have ih := tried_l1_p (b := b) (b2 := b2) (b3 := b3) hm n (k + 1) (by omega) (by omega)
      rw [nat_succ] at ih
      have hl : (List.replicate k (-1 : Int) ++ List.replicate (m - k) 0).length = m := by simp; omega
      rw [br_dec (by omega), rng_eq (by rw [hl]; omega)]
      simp only [Int.toNat_natCast]
      rw [get_get 0 (by rw [hl]; exact c), chk_eq (by omega), ← ih]
      congr 1
      rw [List.set_append_right _ _ (by simp), List.length_replicate, Nat.sub_self, show m - k = (m - (k + 1)) + 1 by omega, List.replicate_succ, List.set_cons_zero, List.replicate_succ']
      simp
    · obtain rfl : k = m := by omega
      rw [br_ndec (by omega), Nat.sub_self, List.replicate_zero, List.append_nil]
theorem tried_l3_p (hN : 110 ≤ N) (h : Fine W s L F R) {b u : List Int} {u2 u3 : Int} {i : Nat} (hi : i < L.length) {q out : List Int} (hq : q.length ≤ 100) (hqx : ∀ x ∈ q, 0 ≤ x ∧ x < F.length) (ho : out.length ≤ 100) : ∀ (n k : Nat) (b2 b3 : Int), q.length < n + k → k ≤ q.length → Bell b b2 →
    Ok (tried_l3 N n i u u2 u3 q q.length k b b2 b3 W s L F R out) fun z => match z with
      | .inl z => ∃ (y : Nat) (b2' b3' : Int), z = ((i : Int), (y : Int), u, u2, u3, b, b2', b3', W, s, L, F, R, out) ∧ Bell b b2' ∧ y < F.length ∧ canF W s L F i y = true ∧ (y : Int) ∉ out
      | .inr z => ∃ (b2' b3' : Int), z = (u, u2, u3, b, b2', b3', W, s, L, F, R, out) ∧ Bell b b2'
  | 0, k, b2, b3, hn, _, _ => by omega
  | n + 1, k, b2, b3, hn, hk, hb => by
    unfold tried_l3
    have hl6 := h.l6; have hf6 := h.f6
    refine Ok.brd (fun c => ?_) (fun c => Ok.some ⟨b2, b3, rfl, hb⟩)
    refine Ok.idx (by omega) c (fun x _ hx => ?_)
    obtain ⟨y, rfl⟩ : ∃ y : Nat, x = y := ⟨x.toNat, (Int.toNat_of_nonneg (hqx x hx).1).symm⟩
    have hy := (hqx _ hx).2
    have next : ∀ b2 b3 : Int, Bell b b2 → Ok (tried_l3 N n i u u2 u3 q q.length ((k : Int) + 1) b b2 b3 W s L F R out) fun z => match z with
      | .inl z => ∃ (y : Nat) (b2' b3' : Int), z = ((i : Int), (y : Int), u, u2, u3, b, b2', b3', W, s, L, F, R, out) ∧ Bell b b2' ∧ y < F.length ∧ canF W s L F i y = true ∧ (y : Int) ∉ out
      | .inr z => ∃ (b2' b3' : Int), z = (u, u2, u3, b, b2', b3', W, s, L, F, R, out) ∧ Bell b b2' := fun b2 b3 hb => by
      have := tried_l3_p hN h (u := u) (u2 := u2) (u3 := u3) hi hq hqx ho n (k + 1) b2 b3 (by omega) (by omega) hb
      rw [nat_succ] at this
      exact this
    refine Ok.eqb (lpair_v hN h hi (by omega)) (Ok.br (fun c1 => ?_) (fun c1 => Ok.chk (by omega) (next b2 b3 hb)))
    refine Ok.eqb (containsi_v (by omega) (by omega) _) ?_
    cases c2 : hasB out (y : Int)
    rotate_left
    · exact Ok.chk (by omega) (next b2 b3 hb)
    refine Ok.bind (seldom_ok N hb (by omega)) ?_
    rintro ⟨x, d1, d2, d3⟩ ⟨hc, hb1⟩
    dsimp only at hc hb1 ⊢
    obtain rfl := hc.symm
    cases x
    · refine Ok.some ⟨y, d2, d3, rfl, hb1, by omega, c1, fun hm => ?_⟩
      rw [hasB_iff.2 hm] at c2; cases c2
    · exact Ok.chk (by omega) (next d2 d3 hb1)
theorem set_joins {can : Nat → Nat → Bool} {m n i k : Nat} {l : List Int} (h : l ∈ joinsL can m n 0 0) (hi : i < n) (hk : k < m) (hc : can i k = true) (hn : (k : Int) ∉ l) : l.set i k ∈ joinsL can m n 0 0 := by
  obtain ⟨h1, h2, _⟩ := mem_joins.1 h
  refine mem_joins.2 ⟨by simp [h1], ?_, fun k hk => by simp at hk⟩
  have hu : ¬ Usd n (fnJ l) k := by
    rintro ⟨j, hj, e⟩
    refine hn ?_
    rw [← e, ← getD_01 (show j < l.length by omega)]
    exact getD_mem (by omega)
  refine (h2.add (i := i) hk hc hu).congr (fun j hj => ?_)
  unfold upd
  by_cases e : j = i
  · subst e
    simp [fnJ, List.getD, show j < l.length by omega]
  · rw [if_neg e]
    simp [fnJ, List.getD, List.getElem?_set_ne (Ne.symm e)]
theorem tried_l2_p (hN : 110 ≤ N) (h : Fine W s L F R) {b : List Int} {q : List Int} (hq : q.length ≤ 100) (hqx : ∀ x ∈ q, 0 ≤ x ∧ x < L.length) : ∀ (n k : Nat) (b2 b3 : Int) (out : List Int), q.length < n + k → k ≤ q.length → Bell b b2 → out ∈ joinsL (canF W s L F) F.length L.length 0 0 →
    Ok (tried_l2 N n q q.length k b b2 b3 W s L F R out) fun z => BelR b z.1 z.2.1 ∧ z.2.2.2 ∈ joinsL (canF W s L F) F.length L.length 0 0
  | 0, k, b2, b3, out, hn, _, _, _ => by omega
  | n + 1, k, b2, b3, out, hn, hk, hb, ho => by
    unfold tried_l2
    have hl6 := h.l6; have hf6 := h.f6
    have hol := (joins_all ho).1
    refine Ok.brd (fun c => ?_) (fun c => Ok.some ⟨⟨rfl, hb⟩, ho⟩)
    refine Ok.idx (by omega) c (fun x _ hx => ?_)
    obtain ⟨i, rfl⟩ : ∃ i : Nat, x = i := ⟨x.toNat, (Int.toNat_of_nonneg (hqx x hx).1).symm⟩
    have hi := (hqx _ hx).2
    have next : ∀ (b2 b3 : Int) (out : List Int), Bell b b2 → out ∈ joinsL (canF W s L F) F.length L.length 0 0 → Ok (tried_j1 N (tried_l2 N n) q q.length k b b2 b3 W s L F R out) fun z => BelR b z.1 z.2.1 ∧ z.2.2.2 ∈ joinsL (canF W s L F) F.length L.length 0 0 := fun b2 b3 out hb ho => by
      have := tried_l2_p hN h hq hqx n (k + 1) b2 b3 out (by omega) (by omega) hb ho
      rw [nat_succ] at this
      unfold tried_j1
      exact Ok.chk (by omega) this
    refine Ok.bind (rung_ok hN (u := F.length) (by omega) hb) ?_
    rintro ⟨p, d1, d2, d3⟩ ⟨⟨hp1, hp2⟩, hc, hb1⟩
    dsimp only at hp1 hp2 hc hb1 ⊢
    obtain rfl := hc.symm
    have e := tried_l3_p hN h (b := b) (u := q) (u2 := (q.length : Int)) (u3 := (k : Int)) (i := i) (by omega) (q := p) (out := out) (by omega) hp2 (by omega) N 0 d2 d3 (by omega) (by omega) hb1
    rw [show ((0 : Nat) : Int) = 0 from rfl] at e
    refine Ok.bind e (fun z hz => ?_)
    cases z with
    | inl z =>
      obtain ⟨y, b2', b3', rfl, hb2, y1, y2, y3⟩ := hz
      dsimp only
      refine Ok.rng (by omega) (Ok.get (by simp; omega) (fun _ _ _ => ?_))
      exact next b2' b3' _ hb2 (set_joins ho (by omega) y1 y2 y3)
    | inr z =>
      obtain ⟨b2', b3', rfl, hb2⟩ := hz
      exact next b2' b3' _ hb2 ho
theorem none_joins {can : Nat → Nat → Bool} {m n : Nat} : List.replicate n (-1 : Int) ∈ joinsL can m n 0 0 := by
  refine mem_joins.2 ⟨by simp, ⟨fun i hi => ?_, fun i j hi _ _ _ => ?_⟩, fun k hk => by simp at hk⟩
  · left; simp [fnJ, List.getD, hi]
  · simp [fnJ, List.getD, hi]
theorem tried_v (hN : 110 ≤ N) (h : Fine W s L F R) {b : List Int} {b2 b3 : Int} (hb : Bell b b2) : Ok (tried_S N W s L F R b b2 b3) fun z => z.1 ∈ joinsL (canF W s L F) F.length L.length 0 0 ∧ BelR b z.2.1 z.2.2.1 := by
  have hl6 := h.l6
  unfold tried_S
  have e := tried_l1_p (N := N) (W := W) (s := s) (L := L) (F := F) (R := R) (b := b) (b2 := b2) (b3 := b3) (m := L.length) (by omega) N 0 (by omega) (by omega)
  rw [List.replicate_zero, List.nil_append, Nat.sub_zero, show ((0 : Nat) : Int) = 0 from rfl] at e
  rw [grd_eq (lmI_iff.2 (by omega)), Int.toNat_natCast, List.length_replicate]
  refine Ok.eqb e ?_
  dsimp only
  refine Ok.bind (rung_ok hN (u := L.length) (by omega) hb) ?_
  rintro ⟨p, d1, d2, d3⟩ ⟨⟨hp1, hp2⟩, hc, hb1⟩
  dsimp only at hp1 hp2 hc hb1 ⊢
  obtain rfl := hc.symm
  have e2 := tried_l2_p hN h (b := b) (q := p) (by omega) hp2 N 0 d2 d3 _ (by omega) (by omega) hb1 none_joins
  rw [show ((0 : Nat) : Int) = 0 from rfl] at e2
  refine Ok.bind e2 ?_
  rintro ⟨z1, z2, z3, z4⟩ ⟨h1, h2⟩
  exact Ok.some ⟨h2, h1⟩
end
end Go.Proofs.Ythncjilcflilcaa

namespace Go.Proofs.Ythncjilcflilcaa
set_option linter.all false
open Go
theorem awake_v : awake_S 1100 = some true := by kernel_rfl
end Go.Proofs.Ythncjilcflilcaa

namespace Go.Proofs.Ythncjilcflilcaa
set_option linter.all false
open Go

section
variable {W : List Int} {s : Int} {L F : List (List Int)} {R : List Int} {N : Nat}
theorem concat_v {a b : List Int} (hN : 110 ≤ N) (ha : a.length ≤ 1000) (hb : b.length ≤ 1000) : concat_S N [a, b] = some (a ++ b) := by
  obtain ⟨m, rfl⟩ : ∃ m, N = m + 3 := ⟨N - 3, by omega⟩
  have i0 : ([a, b] : List (List Int))[(0 : Int).toNat]? = some a := rfl
  have i1 : ([a, b] : List (List Int))[((0 : Int) + 1).toNat]? = some b := rfl
  have ln : (([a, b] : List (List Int)).length : Int) = 2 := rfl
  have e1 : concat_l1 (m + 3) (m + 3) [a, b] 0 [a, b] (([a, b] : List (List Int)).length : Int) 0 = some ([a, b], (a.length : Int) + b.length) := by
    rw [ln, concat_l1, br_dec (by omega), idx_eq (by omega) i0, chk_eq (by omega), br_ndec (by omega), concat_j1, chk_eq (by omega), concat_l1, br_dec (by omega), idx_eq (by omega) i1, chk_eq (by omega), br_ndec (by omega), concat_j1, chk_eq (by omega), concat_l1, br_ndec (by omega), Int.zero_add]
  have e2 : concat_l2 (m + 3) (m + 3) [a, b] (([a, b] : List (List Int)).length : Int) 0 [] = some (a ++ b) := by
    rw [ln, concat_l2, br_dec (by omega), idx_eq (by omega) i0, lim_eq (by simp; omega), chk_eq (by omega), concat_l2, br_dec (by omega), idx_eq (by omega) i1, lim_eq (by simp; omega), chk_eq (by omega), concat_l2, br_ndec (by omega), List.nil_append]
  unfold concat_S
  rw [e1]
  simp only [Option.bind_some]
  unfold grow_S
  rw [grd_eq (lmI_iff.2 (by omega))]
  simp only [Option.bind_some]
  rw [e2]; rfl
theorem fjoined_l1_p {l a b u q : List Int} {n q2 q3 : Int} (hu : u.length ≤ 1000) (hx : ∀ x ∈ u, 0 ≤ x ∧ x ≤ 999) : ∀ (f k : Nat) (sum : Int), u.length < f + k → k ≤ u.length → 0 ≤ sum ∧ sum ≤ 1000 * k →
    fjoined_l1 N f l n a b sum u u.length k W s L F R q q2 q3 = some (.inr (l, n, a, b, sum + (u.drop k).sum, W, s, L, F, R, q, q2, q3))
  | 0, k, sum, hn, _, _ => by omega
  | f + 1, k, sum, hn, hk, hs => by
    unfold fjoined_l1
    by_cases c : k < u.length
    · have hb := hx _ (getD_mem (d := 0) c)
      have ih := fjoined_l1_p (l := l) (a := a) (b := b) (q := q) (n := n) (q2 := q2) (q3 := q3) hu hx f (k + 1) (sum + u.getD k 0) (by omega) (by omega) (by omega)
      rw [nat_succ] at ih
      rw [br_dec (by omega), idx_eq (by omega) (gets c 0), br_ndec (by omega), br_ndec (by omega), chk_eq (by omega), chk_eq (by omega), ih, drop_cons c 0, List.sum_cons, Int.add_assoc]
    · rw [br_ndec (by omega), List.drop_of_length_le (by omega)]
      simp
theorem fnJ_set {l : List Int} {i : Nat} {x : Int} (hi : i < l.length) : fnJ (l.set i x) = upd (fnJ l) i x := by
  funext j
  unfold upd
  by_cases e : j = i
  · subst e
    simp [fnJ, List.getD, hi]
  · rw [if_neg e]
    simp [fnJ, List.getD, List.getElem?_set_ne (Ne.symm e)]
/-- What isn't joined can't be joined with what isn't. -/
theorem best_full {i k : Nat} (hi : i < L.length) (hk : k < F.length) (hc : canF W s L F i k = true) (hf : (bestL W s L F).getD i 0 = -1) : (k : Int) ∈ bestL W s L F := by
  have hm : bestL W s L F ∈ joinsL (canF W s L F) F.length L.length 0 0 := bl_mem
  have hlen := (joins_all hm).1
  by_cases hn : (k : Int) ∈ bestL W s L F
  · exact hn
  have h1 := best_le (set_joins hm hi hk hc hn)
  have hpos : 0 < agF W L F i k := by
    have : canT (agF W L F) (slF W L F) s i k = true := hc
    unfold canT at this
    rw [Bool.and_eq_true, decide_eq_true_eq] at this
    exact this.1
  have hv : valJ (agF W L F) 0 (bestL W s L F) = bestV W s L F := bl_val
  rw [val_joins (show ((bestL W s L F).set i (k : Int)).length = L.length by simp [hlen]), fnJ_set (by omega), wt_upd hi] at h1
  rw [val_joins hlen] at hv
  have e1 : pv (agF W L F) i (fnJ (bestL W s L F) i) = 0 := by
    rw [← getD_01 (by omega), hf]; rfl
  have e2 : pv (agF W L F) i (k : Int) = agF W L F i k := by
    unfold pv
    rw [if_neg (by omega)]; rfl
  rw [e1, e2] at h1
  omega
theorem fjoined_l3_p (hN : 110 ≤ N) (h : Fine W s L F R) {i : Nat} (hi : i < L.length) {n sum u u2 q2 q3 : Int} {q : List Int} : ∀ (f k : Nat), F.length < f + k → k ≤ F.length →
    fjoined_l3 N f (bestL W s L F) n ((List.range L.length).map (qI W s L F)) ((List.range F.length).map (pK W s L F)) sum i u u2 F.length k W s L F R q q2 q3 = some (.inr (bestL W s L F, n, (List.range L.length).map (qI W s L F), (List.range F.length).map (pK W s L F), sum, u, u2, W, s, L, F, R, q, q2, q3))
  | 0, k, hn, _ => by omega
  | f + 1, k, hn, hk => by
    unfold fjoined_l3
    have hl6 := h.l6; have hf6 := h.f6
    have hm : bestL W s L F ∈ joinsL (canF W s L F) F.length L.length 0 0 := bl_mem
    have hlen := (joins_all hm).1
    by_cases c : k < F.length
    · have ih := fjoined_l3_p hN h hi (n := n) (sum := sum) (u := u) (u2 := u2) (q := q) (q2 := q2) (q3 := q3) f (k + 1) (by omega) (by omega)
      rw [nat_succ] at ih
      have b1 := qI_bound h i
      have b2 := pK_bound h k
      rw [br_dec (by omega), lpair_v hN h hi c]
      simp only [Option.bind_some]
      cases hc : canF W s L F i k with
      | false => rw [br_false, chk_eq (by omega), ih]
      | true =>
        have hq := (foldl_ub (f := fun k => agF W L F i k - pK W s L F k) (mayL (canF W s L F) F.length i) 0).2.1 k (mem_mayL.2 ⟨c, hc⟩)
        have e : qI W s L F i = (mayL (canF W s L F) F.length i).foldl (fun a k => max a (agF W L F i k - pK W s L F k)) 0 := rfl
        rw [br_true, idx_eq (by omega) (gets (by rw [mapR_len]; exact hi) 0), idx_eq (by omega) (gets (by rw [mapR_len]; exact c) 0), mapR_getD hi, mapR_getD c, chk_eq (by omega), br_ndec (by omega), idx_eq (by omega) (gets (by omega) 0)]
        by_cases d : (bestL W s L F).getD i 0 = -1
        · rw [br_dec d, containsi_v (by omega) (by omega)]
          simp only [Option.bind_some]
          rw [hasB_iff.2 (best_full hi c hc d), Bool.not_true, br_false, chk_eq (by omega), ih]
        · rw [br_ndec d, chk_eq (by omega), ih]
    · obtain rfl : k = F.length := by omega
      rw [br_ndec (by omega)]
theorem fjoined_l2_p (hN : 110 ≤ N) (h : Fine W s L F R) {n sum q2 q3 : Int} {q : List Int} : ∀ (f i : Nat), L.length < f + i → i ≤ L.length →
    fjoined_l2 N f (bestL W s L F) n ((List.range L.length).map (qI W s L F)) ((List.range F.length).map (pK W s L F)) sum L.length i W s L F R q q2 q3 = some (.inr (n, sum, W, s, L, F, R, q, q2, q3))
  | 0, i, hn, _ => by omega
  | f + 1, i, hn, hi => by
    unfold fjoined_l2
    have hl6 := h.l6; have hf6 := h.f6
    by_cases c : i < L.length
    · have ih := fjoined_l2_p hN h (n := n) (sum := sum) (q := q) (q2 := q2) (q3 := q3) f (i + 1) (by omega) (by omega)
      rw [nat_succ] at ih
      have e := fjoined_l3_p hN h c (n := n) (sum := sum) (u := (L.length : Int)) (u2 := (i : Int)) (q := q) (q2 := q2) (q3 := q3) N 0 (by omega) (by omega)
      rw [show ((0 : Nat) : Int) = 0 from rfl] at e
      rw [br_dec (by omega), e]
      simp only [Option.bind_some]
      rw [chk_eq (by omega), ih]
    · rw [br_ndec (by omega)]
theorem fjoined_l4_p (hN : 110 ≤ N) (h : Fine W s L F R) {q : List Int} : ∀ (f k : Nat) (q2 q3 : Int), 8 < f + k → k ≤ 8 → Bell q q2 → Ok (fjoined_l4 N f (bestV W s L F) k W s L F R q q2 q3) fun r => r = .inr ()
  | 0, k, q2, q3, hn, _, _ => by omega
  | f + 1, k, q2, q3, hn, hk, hb => by
    unfold fjoined_l4
    refine Ok.brd (fun c => ?_) (fun c => Ok.some rfl)
    refine Ok.bind (tried_v hN h hb) ?_
    rintro ⟨o, d1, d2, d3⟩ ⟨ho, hc, hb1⟩
    dsimp only at ho hc hb1 ⊢
    obtain rfl := hc.symm
    have ih := fjoined_l4_p hN h f (k + 1) d2 d3 (by omega) (by omega) hb1
    rw [nat_succ] at ih
    have hl6 := h.l6
    have hle := best_le ho
    have e1 : lworth__S N W s L F R o = some (valJ (agF W L F) 0 o, 0) := by
      rw [lworth_v hN h.sm (by rw [(joins_all ho).1]; omega), errD_iff.2 h, if_pos (errJ_mt.2 ho)]
    refine Ok.eqb e1 ?_
    dsimp only
    refine Ok.eqb (lworth_j hN h ho) ?_
    dsimp only
    refine Ok.brn (fun hx => absurd rfl hx) (fun _ => ?_)
    rw [Bool.not_true, br_false]
    refine Ok.brn (fun hx => absurd rfl hx) (fun _ => ?_)
    refine Ok.brd (fun e => ?_) (fun _ => Ok.chk (by omega) ih)
    omega
theorem prices_total (h : Fine W s L F R) : ((List.range L.length).map (qI W s L F)).sum + ((List.range F.length).map (pK W s L F)).sum = bestV W s L F := by
  have := shows_prices h
  unfold shR at this
  rw [if_neg (by simp), if_neg (by rw [mapR_len]; simp), if_neg (by rw [mapR_len]; simp)] at this
  split at this
  · exact absurd (Prod.mk.inj this).2 (by decide)
  split at this
  · exact absurd (Prod.mk.inj this).2 (by decide)
  split at this
  · exact absurd (Prod.mk.inj this).2 (by decide)
  exact (Prod.mk.inj this).1
end
theorem fjoined_true {a b : List Int} (h0 : Ty.inB (.sl (.int .u8)) a) (h1 : Ty.inB (.sl (.int .u8)) b) : fjoined_S 1100 a b = some true := by
  have l0 : a.length ≤ 9223372036854775807 := h0.1
  have l1 : b.length ≤ 9223372036854775807 := h1.1
  unfold fjoined_S hang_S
  simp only [Option.bind_some]
  obtain ⟨⟨W, s, L, F, R, c, c2, c3⟩, em, hF, hlen, _, _⟩ := made_v (N := 1100) (b := a) (by omega) (things := 6) (b2 := 0) (b3 := 0) (by omega) ⟨l0, by omega, by omega⟩
  dsimp only at hF hlen
  rw [em]
  simp only [Option.bind_some]
  have hs := hF.sm
  have hl6 := hF.l6; have hf6 := hF.f6
  have d := errD_iff.2 hF
  rw [best_v (by omega) hs, prices_v (by omega) hs, if_pos d, if_pos d]
  simp only [Option.bind_some]
  have m1 : bestL W s L F ∈ joinsL (canF W s L F) F.length L.length 0 0 := bl_mem
  have hv : valJ (agF W L F) 0 (bestL W s L F) = bestV W s L F := bl_val
  rw [check_v (by omega) hs]
  simp only [Option.bind_some]
  rw [br_nd d, br_nd (by first | trivial | rfl), br_nd (by first | trivial | rfl), br_nd (by rw [mapR_len]), br_nd (by rw [mapR_len]), lworth_j (by omega) hF m1]
  simp only [Option.bind_some]
  rw [Bool.not_true, br_false, br_nd hv, concat_v (by omega) (by rw [mapR_len]; omega) (by rw [mapR_len]; omega)]
  simp only [Option.bind_some]
  have hx : ∀ x ∈ (List.range L.length).map (qI W s L F) ++ (List.range F.length).map (pK W s L F), 0 ≤ x ∧ x ≤ 999 := fun x hx => by
    rcases List.mem_append.1 hx with hx | hx
    · obtain ⟨i, _, rfl⟩ := List.mem_map.1 hx
      have := qI_bound hF i; omega
    · obtain ⟨i, _, rfl⟩ := List.mem_map.1 hx
      have := pK_bound hF i; omega
  have hul : ((List.range L.length).map (qI W s L F) ++ (List.range F.length).map (pK W s L F)).length ≤ 12 := by
    rw [List.length_append, mapR_len, mapR_len]; omega
  have e1 := fjoined_l1_p (N := 1100) (W := W) (s := s) (L := L) (F := F) (R := R) (l := bestL W s L F) (n := bestV W s L F) (a := (List.range L.length).map (qI W s L F)) (b := (List.range F.length).map (pK W s L F)) (q := b) (q2 := 0) (q3 := 0) (by omega) hx 1100 0 0 (by omega) (by omega) (by omega)
  rw [show ((0 : Nat) : Int) = 0 from rfl, List.drop_zero, Int.zero_add, List.sum_append, prices_total hF] at e1
  rw [e1]
  simp only [Option.bind_some]
  have e2 := fjoined_l2_p (N := 1100) (by omega) hF (n := bestV W s L F) (sum := bestV W s L F) (q := b) (q2 := 0) (q3 := 0) 1100 0 (by omega) (by omega)
  rw [show ((0 : Nat) : Int) = 0 from rfl] at e2
  rw [e2]
  simp only [Option.bind_some]
  rw [br_nd (by first | trivial | rfl)]
  obtain ⟨r, e3, rfl⟩ := fjoined_l4_p (N := 1100) (by omega) hF (q := b) 1100 0 0 0 (by omega) (by omega) ⟨l1, by omega, by omega⟩
  rw [show ((0 : Nat) : Int) = 0 from rfl] at e3
  rw [e3]
  simp only [Option.bind_some]
  rw [awake_v]; rfl
end Go.Proofs.Ythncjilcflilcaa

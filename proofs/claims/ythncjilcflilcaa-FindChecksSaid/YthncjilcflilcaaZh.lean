/-
  Parts of a proof, put together: FL9.
  Conditions: none.
-/
import Derived.Test.YthncjilcflilcaaZd
import Derived.Test.YthncjilcflilcaaZg
namespace Go.Proofs.Ythncjilcflilcaa
set_option linter.all false
open Go

section
variable {W : List Int} {s : Int} {L F : List (List Int)} {R : List Int} {N : Nat}
theorem agree_v (hN : 110 ≤ N) (h : Sm W L F R) (a b : Int) : agree__S N W s L F R a b = some (if errD W s L F R = 0 then if ¬ (0 ≤ a ∧ a ≤ (L.length : Int) - 1) then (0, 0, false, 1) else if ¬ (0 ≤ b ∧ b ≤ (F.length : Int) - 1) then (0, 0, false, 1) else (agF W L F a.toNat b.toNat, slF W L F a.toNat b.toNat, canF W s L F a.toNat b.toNat, 0) else (0, 0, false, errD W s L F R)) := by
  unfold agree__S
  rw [opened_v hN h]
  by_cases c : errD W s L F R = 0
  rotate_left
  · rw [if_neg c, if_neg c]
    simp only [Option.bind_some]
    rw [br_nnd c]
  have hF := errD_iff.1 c
  have hl6 := hF.l6; have hf6 := hF.f6
  rw [if_pos c, if_pos c]
  simp only [Option.bind_some]
  rw [br_nd (by first | trivial | rfl)]
  unfold dkO
  rw [dlost_v (by omega), dfound_v (by omega)]
  simp only [Option.bind_some]
  by_cases c1 : 0 ≤ a ∧ a ≤ (L.length : Int) - 1
  rotate_left
  · rw [br_nnd c1, if_pos c1]
  rw [br_nd c1, if_neg (not_not_intro c1)]
  by_cases c2 : 0 ≤ b ∧ b ≤ (F.length : Int) - 1
  rotate_left
  · rw [br_nnd c2, if_pos c2]
  rw [br_nd c2, if_neg (not_not_intro c2)]
  obtain ⟨i, rfl⟩ : ∃ i : Nat, a = i := ⟨a.toNat, (Int.toNat_of_nonneg c1.1).symm⟩
  obtain ⟨k, rfl⟩ : ∃ k : Nat, b = k := ⟨b.toNat, (Int.toNat_of_nonneg c2.1).symm⟩
  rw [rng_eq (by omega), rng_eq (by omega)]
  simp only [Int.toNat_natCast]
  rw [get_T (by omega) (by omega), rng_eq (by omega), rng_eq (by omega), get_T2 (by omega) (by omega), can_T (by omega) (by omega)]
  rfl
theorem lmay_v (hN : 110 ≤ N) (h : Sm W L F R) (a : Int) : lmay_S N W s L F R a = some (if errD W s L F R = 0 then if ¬ (0 ≤ a ∧ a ≤ (L.length : Int) - 1) then ([], 1) else (selN (canF W s L F a.toNat) F.length, 0) else ([], errD W s L F R)) := by
  unfold lmay_S
  rw [opened_v hN h]
  by_cases c : errD W s L F R = 0
  rotate_left
  · rw [if_neg c, if_neg c]
    simp only [Option.bind_some]
    rw [br_nnd c]
  have hF := errD_iff.1 c
  have hl6 := hF.l6; have hf6 := hF.f6
  rw [if_pos c, if_pos c]
  simp only [Option.bind_some]
  rw [br_nd (by first | trivial | rfl), show dlost_S N (dkO W s L F R) a = _ from dlost_v (by omega) a]
  simp only [Option.bind_some]
  by_cases c1 : 0 ≤ a ∧ a ≤ (L.length : Int) - 1
  rotate_left
  · rw [br_nnd c1, if_pos c1]
  rw [br_nd c1, if_neg (not_not_intro c1)]
  obtain ⟨i, rfl⟩ : ∃ i : Nat, a = i := ⟨a.toNat, (Int.toNat_of_nonneg c1.1).symm⟩
  rw [show may_S N (dkO W s L F R) (i : Int) = some (dkO W s L F R, dkO W s L F R, (i : Int)) from rfl]
  simp only [Option.bind_some]
  unfold collect_S appseq_S dkO
  rw [mayR_T hf6 (by omega)]
  simp only [Option.map_some, Option.bind_some, Int.toNat_natCast]
  unfold mayE selN mayL
  rw [List.map_map]
  rfl
end
theorem fchecks_true {W : List Int} {s : Int} {L F : List (List Int)} {R : List Int} {a b : Int} (_ : Ty.inB (.pair (.sl (.int .i64)) (.pair (.int .i64) (.pair (.sl (.sl (.int .i64))) (.pair (.sl (.sl (.int .i64))) (.sl (.int .i64)))))) (W, s, L, F, R)) (_ : Ty.inB (.int .i64) a) (_ : Ty.inB (.int .i64) b) : fchecks_S 1100 W s L F R a b = some true := by
  unfold fchecks_S
  rcases great_v (N := 1100) (W := W) (s := s) (L := L) (F := F) (R := R) (by omega) with e | ⟨e, hs⟩
  · rw [e]
    simp only [Option.bind_some]
    rw [br_true, awake_v]
    rfl
  have hl := hs.l; have hf := hs.f
  rw [e]
  simp only [Option.bind_some]
  rw [br_false, copyd_v (by omega) hs]
  simp only [Option.bind_some]
  rw [check_v (by omega) hs, rcheck_v (by omega) hs]
  simp only [Option.bind_some]
  rw [br_nd (by first | trivial | rfl), agree_v (by omega) hs, ragree_v (by omega) hs]
  simp only [Option.bind_some]
  rw [br_nd (by first | trivial | rfl), br_nd (by first | trivial | rfl)]
  rw [beq_self_eq_true, Bool.not_true, br_false, br_nd (by first | trivial | rfl), lmay_v (by omega) hs, rmay_v (by omega) hs]
  simp only [Option.bind_some]
  have lk : ∀ l : List Int, l.length ≤ 100 → likei_S 1100 l l = some true := fun l h => likei_v (by omega) (by omega)
  rw [br_nd (by first | trivial | rfl), lk _ (by
    split
    · split
      · simp
      · have := selN_len (canF W s L F a.toNat) F.length; dsimp only; omega
    · simp)]
  simp only [Option.bind_some]
  rw [Bool.not_true, br_false, claims_v (by omega) hs, rclaims_v (by omega) hs]
  simp only [Option.bind_some]
  rw [br_nd (by first | trivial | rfl), lk _ (by
    split
    · split
      · simp
      · have := selN_len (clm W s L F b.toNat) L.length; dsimp only; unfold claimL; omega
    · simp)]
  simp only [Option.bind_some]
  rw [Bool.not_true, br_false, contests_v (by omega) hs, rcontests_v (by omega) hs]
  simp only [Option.bind_some]
  rw [br_dec (by first | trivial | rfl), lk _ (by
    split
    · have := selN_len (cntB W s L F) F.length; dsimp only; unfold contL; omega
    · simp)]
  simp only [Option.bind_some]
  rw [br_true, same_v (by omega) hs]
  simp only [Option.bind_some]
  rw [br_true, awake_v]
  rfl
end Go.Proofs.Ythncjilcflilcaa

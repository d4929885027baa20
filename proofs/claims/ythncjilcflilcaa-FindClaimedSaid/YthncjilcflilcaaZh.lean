/-
  Parts of a proof, put together: FDk, FAw, FL9, FDe, FDf, FLc.
  Conditions: none.
-/
import Derived.Test.YthncjilcflilcaaZd
import Derived.Test.YthncjilcflilcaaZf
import Derived.Test.YthncjilcflilcaaZg
namespace Go.Proofs.Ythncjilcflilcaa
set_option linter.all false
open Go

section
variable {W : List Int} {s : Int} {L F : List (List Int)} {R : List Int} {A B : Nat → Nat → Int} {N : Nat}
/-- Those of the numbers below n that are so. -/
def selN (p : Nat → Bool) (n : Nat) : List Int := ((List.range n).filter p).map fun (k : Nat) => (k : Int)
theorem selN_succ (p : Nat → Bool) (n : Nat) : selN p (n + 1) = selN p n ++ (if p n = true then [(n : Int)] else []) := by
  unfold selN
  rw [List.range_succ, List.filter_append, List.map_append]
  congr 1
  rw [List.filter_cons]
  split <;> rfl
theorem selN_len (p : Nat → Bool) (n : Nat) : (selN p n).length ≤ n := by
  have := List.length_filter_le p (List.range n)
  simpa [selN] using this
theorem mem_selN {p : Nat → Bool} {n i : Nat} : (i : Int) ∈ selN p n ↔ i < n ∧ p i = true := by
  unfold selN
  rw [List.mem_map]
  constructor
  · rintro ⟨j, hj, e⟩
    rw [List.mem_filter, List.mem_range] at hj
    obtain rfl : j = i := by omega
    exact hj
  · rintro ⟨h1, h2⟩
    exact ⟨i, List.mem_filter.2 ⟨List.mem_range.2 h1, h2⟩, rfl⟩
/-- The most that a lost thing agrees in with one that it can be joined with. -/
def mtI (W : List Int) (s : Int) (L F : List (List Int)) (i : Nat) : Int := (mayL (canF W s L F) F.length i).foldl (fun a k => max a (agF W L F i k)) 0
def clm (W : List Int) (s : Int) (L F : List (List Int)) (k i : Nat) : Bool := canF W s L F i k && decide (agF W L F i k = mtI W s L F i)
def claimL (W : List Int) (s : Int) (L F : List (List Int)) (k : Nat) : List Int := selN (clm W s L F k) L.length
def cntB (W : List Int) (s : Int) (L F : List (List Int)) (k : Nat) : Bool := decide (2 ≤ (claimL W s L F k).length)
def contL (W : List Int) (s : Int) (L F : List (List Int)) : List Int := selN (cntB W s L F) F.length
theorem mtI_le {i k : Nat} (hk : k < F.length) (hc : canF W s L F i k = true) : agF W L F i k ≤ mtI W s L F i :=
  (foldl_ub (f := fun k => agF W L F i k) (mayL (canF W s L F) F.length i) 0).2.1 k (mem_mayL.2 ⟨hk, hc⟩)
theorem dclaims_l2_p (hF : F.length ≤ 6) {i : Nat} (hi : i < 6) {found u u2 u5 : Int} {out : List Int} : ∀ (ks : List Nat) (x : Int), (∀ k ∈ ks, k < F.length) →
    dclaims_l2 N (ks.map fun (j : Nat) => ((j : Int), ())) found u u2 (dkT W s L F R A B) (dkT W s L F R A B) u5 (dkT W s L F R A B) out i x = some (found, u, u2, dkT W s L F R A B, out, (i : Int), ks.foldl (fun a k => max a (A i k)) x)
  | [], x, _ => rfl
  | k :: ks, x, hk => by
    have hk0 := hk k (by simp)
    have ih := dclaims_l2_p hF hi (found := found) (u := u) (u2 := u2) (u5 := u5) (out := out) ks (max x (A i k)) (fun y hy => hk y (by simp [hy]))
    rw [List.map_cons, List.foldl_cons, dclaims_l2, dclaims_l2_b]
    dsimp only
    rw [rng_eq (by omega), rng_eq (by omega)]
    simp only [Int.toNat_natCast]
    rw [get_T hi (by omega), ih]
theorem dclaims_l1_p (h : Fine W s L F R) {k : Nat} (hk : k < F.length) : ∀ (n i : Nat), L.length < n + i → i ≤ L.length →
    dclaims_l1 N n k L.length i (dkO W s L F R) (selN (clm W s L F k) i) = some (claimL W s L F k)
  | 0, i, hn, hi => by omega
  | n + 1, i, hn, hi => by
    unfold dclaims_l1
    have hl6 := h.l6; have hf6 := h.f6
    by_cases c : i < L.length
    · have ih := dclaims_l1_p h hk n (i + 1) (by omega) (by omega)
      rw [nat_succ, selN_succ] at ih
      have hlen := selN_len (clm W s L F k) i
      have em : may_S N (dkO W s L F R) (i : Int) = some (dkO W s L F R, dkO W s L F R, (i : Int)) := rfl
      rw [br_dec (by omega), em]
      simp only [Option.bind_some]
      unfold dkO at ih ⊢
      rw [mayR_T hf6 (by omega)]
      simp only [Option.bind_some]
      unfold mayE
      rw [dclaims_l2_p hf6 (by omega) _ _ (fun k hk => (mem_mayL.1 hk).1)]
      simp only [Option.bind_some]
      rw [can_T (by omega) (by omega)]
      simp only [Option.bind_some]
      unfold dclaims_j1
      cases hc : canT (agF W L F) (slF W L F) s i k with
      | false =>
        have hc : canF W s L F i k = false := hc
        have e : clm W s L F k i = false := by unfold clm; rw [hc]; rfl
        rw [e, if_neg (by simp), List.append_nil] at ih
        rw [br_false, chk_eq (by omega), ih]
      | true =>
        have hc : canF W s L F i k = true := hc
        rw [br_true, rng_eq (by omega), rng_eq (by omega)]
        simp only [Int.toNat_natCast]
        rw [get_T (by omega) (by omega), show (mayL (canT (agF W L F) (slF W L F) s) F.length i).foldl (fun a k => max a (agF W L F i k)) 0 = mtI W s L F i from rfl]
        by_cases d : agF W L F i k = mtI W s L F i
        · have e : clm W s L F k i = true := by unfold clm; rw [hc, decide_eq_true d]; rfl
          rw [e, if_pos rfl] at ih
          rw [br_dec d, lim_eq (by simp; omega), chk_eq (by omega), ih]
        · have e : clm W s L F k i = false := by unfold clm; rw [hc, decide_eq_false d]; rfl
          rw [e, if_neg (by simp), List.append_nil] at ih
          rw [br_ndec d, chk_eq (by omega), ih]
    · obtain rfl : i = L.length := by omega
      rw [br_ndec (by omega)]
      rfl
theorem dclaims_v (hN : 110 ≤ N) (h : Fine W s L F R) {k : Nat} (hk : k < F.length) : dclaims_S N (dkO W s L F R) k = some (claimL W s L F k) := by
  have hl6 := h.l6
  have e := dclaims_l1_p (N := N) h hk N 0 (by omega) (by omega)
  rw [show ((0 : Nat) : Int) = 0 from rfl, show selN (clm W s L F k) 0 = [] from rfl] at e
  unfold dclaims_S
  rw [show (dkO W s L F R).2.2.1 = L from rfl, e]; rfl
theorem claims_v (hN : 110 ≤ N) (h : Sm W L F R) (a : Int) : claims__S N W s L F R a = some (if errD W s L F R = 0 then if ¬ (0 ≤ a ∧ a ≤ (F.length : Int) - 1) then ([], 1) else (claimL W s L F a.toNat, 0) else ([], errD W s L F R)) := by
  unfold claims__S
  rw [opened_v hN h]
  by_cases c : errD W s L F R = 0
  rotate_left
  · rw [if_neg c, if_neg c]
    simp only [Option.bind_some]
    rw [br_nnd c]
  have hF := errD_iff.1 c
  have hf6 := hF.f6
  rw [if_pos c, if_pos c]
  simp only [Option.bind_some]
  rw [br_nd (by first | trivial | rfl), show dfound_S N (dkO W s L F R) a = _ from dfound_v (by omega) a]
  simp only [Option.bind_some]
  by_cases c1 : 0 ≤ a ∧ a ≤ (F.length : Int) - 1
  rotate_left
  · rw [br_nnd c1, if_pos c1]
  obtain ⟨k, rfl⟩ : ∃ k : Nat, a = k := ⟨a.toNat, (Int.toNat_of_nonneg c1.1).symm⟩
  rw [br_nd c1, if_neg (not_not_intro c1), dclaims_v hN hF (by omega)]
  rfl
theorem contests_l1_p (hN : 110 ≤ N) (h : Fine W s L F R) : ∀ (n k : Nat), F.length < n + k → k ≤ F.length →
    contests_l1 N n (dkO W s L F R) F.length k (selN (cntB W s L F) k) = some (contL W s L F)
  | 0, k, hn, hk => by omega
  | n + 1, k, hn, hk => by
    unfold contests_l1
    have hf6 := h.f6
    by_cases c : k < F.length
    · have ih := contests_l1_p hN h n (k + 1) (by omega) (by omega)
      rw [nat_succ, selN_succ] at ih
      have hlen := selN_len (cntB W s L F) k
      rw [br_dec (by omega), dclaims_v hN h c]
      simp only [Option.bind_some]
      unfold contests_j1
      by_cases d : 2 ≤ (claimL W s L F k).length
      · have e : cntB W s L F k = true := decide_eq_true d
        rw [e, if_pos rfl] at ih
        rw [br_dec (by omega), lim_eq (by simp; omega), chk_eq (by omega), ih]
      · have e : cntB W s L F k = false := decide_eq_false d
        rw [e, if_neg (by simp), List.append_nil] at ih
        rw [br_ndec (by omega), chk_eq (by omega), ih]
    · obtain rfl : k = F.length := by omega
      rw [br_ndec (by omega)]
      rfl
theorem contests_v (hN : 110 ≤ N) (h : Sm W L F R) : contests_S N W s L F R = some (if errD W s L F R = 0 then (contL W s L F, 0) else ([], errD W s L F R)) := by
  unfold contests_S
  rw [opened_v hN h]
  by_cases c : errD W s L F R = 0
  rotate_left
  · rw [if_neg c, if_neg c]
    simp only [Option.bind_some]
    rw [br_nnd c]
  have hF := errD_iff.1 c
  have hf6 := hF.f6
  have e := contests_l1_p hN hF N 0 (by omega) (by omega)
  rw [show ((0 : Nat) : Int) = 0 from rfl, show selN (cntB W s L F) 0 = [] from rfl] at e
  rw [if_pos c, if_pos c]
  simp only [Option.bind_some]
  rw [br_nd (by first | trivial | rfl), e]
  rfl
/-! ### The reference -/
end
end Go.Proofs.Ythncjilcflilcaa

namespace Go.Proofs.Ythncjilcflilcaa
set_option linter.all false
open Go
theorem awake_v : awake_S 1100 = some true := by kernel_rfl
end Go.Proofs.Ythncjilcflilcaa

namespace Go.Proofs.Ythncjilcflilcaa
set_option linter.all false
open Go

section
variable {W : List Int} {s : Int} {L F : List (List Int)} {R : List Int} {N : Nat}
theorem lmay_v (hN : 110 ≤ N) (h : Sm W L F R) (a : Int) : lmay_S N W s L F R a = some (if errD W s L F R = 0 then if ¬ (0 ≤ a ∧ a ≤ (L.length : Int) - 1) then ([], 1) else (selN (canF W s L F a.toNat) F.length, 0) else ([], errD W s L F R)) := by
  unfold lmay_S
  rw [opened_v hN h]
  by_cases c : errD W s L F R = 0
  rotate_left
  · rw [if_neg c, if_neg c]
    simp only [Option.bind_some]
    rw [br_nnd c]
  have hF := errD_iff.1 c
  have hl6 := hF.l6; have hf6 := hF.f6
  rw [if_pos c, if_pos c]
  simp only [Option.bind_some]
  rw [br_nd (by first | trivial | rfl), show dlost_S N (dkO W s L F R) a = _ from dlost_v (by omega) a]
  simp only [Option.bind_some]
  by_cases c1 : 0 ≤ a ∧ a ≤ (L.length : Int) - 1
  rotate_left
  · rw [br_nnd c1, if_pos c1]
  rw [br_nd c1, if_neg (not_not_intro c1)]
  obtain ⟨i, rfl⟩ : ∃ i : Nat, a = i := ⟨a.toNat, (Int.toNat_of_nonneg c1.1).symm⟩
  rw [show may_S N (dkO W s L F R) (i : Int) = some (dkO W s L F R, dkO W s L F R, (i : Int)) from rfl]
  simp only [Option.bind_some]
  unfold collect_S appseq_S dkO
  rw [mayR_T hf6 (by omega)]
  simp only [Option.map_some, Option.bind_some, Int.toNat_natCast]
  unfold mayE selN mayL
  rw [List.map_map]
  rfl
end
end Go.Proofs.Ythncjilcflilcaa

namespace Go.Proofs.Ythncjilcflilcaa
set_option linter.all false
open Go
/-! ### Bells -/
theorem wrap32 (x : Int) : 0 ≤ IntKind.u32.wrap x ∧ IntKind.u32.wrap x < 4294967296 := by
  have := wrap_inR .u32 x
  have h1 : IntKind.u32.min = 0 := by decide
  have h2 : IntKind.u32.max = 4294967295 := by decide
  unfold inR at this
  rw [h1, h2] at this
  omega
def Bell (b : List Int) (b2 : Int) : Prop := b.length ≤ 9223372036854775807 ∧ 0 ≤ b2 ∧ b2 ≤ b.length
abbrev BellR (b : List Int) (r : List Int × Int × Int) : Prop := r.1 = b ∧ Bell b r.2.1
theorem and_small (n : Nat) : 0 ≤ IntKind.i64.wrap ((n &&& 65535 : Nat) : Int) ∧ IntKind.i64.wrap ((n &&& 65535 : Nat) : Int) ≤ 65535 := by
  have : n &&& 65535 ≤ 65535 := Nat.and_le_right
  rw [wrap64 (by omega)]
  omega
theorem fdiv_nonneg {x : Int} (h : 0 ≤ x) : 0 ≤ Int.fdiv x (2 ^ 7) := by
  rw [Int.fdiv_eq_ediv_of_nonneg _ (by decide)]
  exact Int.ediv_nonneg h (by decide)
theorem ring_j1_ok (N : Nat) {b : List Int} {b2 b3 : Int} (hb : b.length ≤ 9223372036854775807) (h0 : 0 ≤ b2) (h1 : b2 < b.length ∨ b.length = 0 ∧ b2 = 0) : Ok (ring_j1 N b b2 b3) fun r => (0 ≤ r.1 ∧ r.1 ≤ 65535) ∧ BellR b r.2 := by
  unfold ring_j1
  refine Ok.brd (fun h => ?_) (fun h => ?_)
  · refine Ok.idx h0 (by omega) (fun a _ _ => Ok.chk (by omega) (Ok.grd ?_ (Ok.grd ?_ (Ok.some ?_))))
    · simp only [decide_eq_true_eq]; exact ⟨(wrap32 _).1, fdiv_nonneg (wrap32 _).1⟩
    · simp only [decide_eq_true_eq]; exact ⟨Int.natCast_nonneg _, by decide⟩
    · exact ⟨and_small _, rfl, hb, by dsimp only; omega, by dsimp only; omega⟩
  · refine Ok.grd ?_ (Ok.grd ?_ (Ok.some ?_))
    · simp only [decide_eq_true_eq]; exact ⟨(wrap32 _).1, fdiv_nonneg (wrap32 _).1⟩
    · simp only [decide_eq_true_eq]; exact ⟨Int.natCast_nonneg _, by decide⟩
    · exact ⟨and_small _, rfl, hb, by dsimp only; omega, by dsimp only; omega⟩
theorem ring_ok (N : Nat) {b : List Int} {b2 b3 : Int} (hb : Bell b b2) : Ok (ring_S N b b2 b3) fun r => (0 ≤ r.1 ∧ r.1 ≤ 65535) ∧ BellR b r.2 := by
  obtain ⟨h1, h2, h3⟩ := hb
  unfold ring_S
  refine Ok.brd (fun h => ring_j1_ok N h1 (by omega) (by omega)) (fun h => ring_j1_ok N h1 h2 (by omega))
theorem stroke_ok (N : Nat) {n : Int} {b : List Int} {b2 b3 : Int} (hb : Bell b b2) (hn : -1000000 ≤ n ∧ n ≤ 1000000) : Ok (stroke_S N n b b2 b3) fun r => (0 ≤ r.1 ∧ r.1 ≤ max 0 n) ∧ BellR b r.2 := by
  unfold stroke_S
  refine Ok.bind (ring_ok N hb) (fun r hr => ?_)
  obtain ⟨x, c, c2, c3⟩ := r
  refine Ok.chk (by omega) (Ok.grd (by simp only [Bool.not_eq_true', decide_eq_false_iff_not]; omega) (Ok.some ⟨?_, hr.2⟩))
  obtain ⟨⟨h1, h2⟩, _⟩ := hr
  dsimp only at *
  have hm : 0 < max 1 (n + 1) := by omega
  have := Int.tmod_lt_of_pos x hm
  have := Int.tmod_nonneg (max 1 (n + 1)) h1
  omega
theorem strike_ok (N : Nat) {lo hi : Int} {b : List Int} {b2 b3 : Int} (hb : Bell b b2) (hn : (-1000 ≤ lo ∧ lo ≤ 1000) ∧ -1000 ≤ hi ∧ hi ≤ 1000) : Ok (strike_S N lo hi b b2 b3) fun r => (lo ≤ r.1 ∧ r.1 ≤ max lo hi) ∧ BellR b r.2 := by
  unfold strike_S
  refine Ok.chk (by omega) (Ok.bind (stroke_ok N hb (by omega)) (fun r hr => ?_))
  obtain ⟨x, c, c2, c3⟩ := r
  obtain ⟨h, h2⟩ := hr
  dsimp only at *
  refine Ok.chk (by omega) (Ok.some ⟨by dsimp only; omega, h2⟩)
theorem seldom_ok (N : Nat) {n : Int} {b : List Int} {b2 b3 : Int} (hb : Bell b b2) (hn : -1000 ≤ n ∧ n ≤ 1000) : Ok (seldom_S N n b b2 b3) fun r => BellR b r.2 := by
  unfold seldom_S
  refine Ok.chk (by omega) (Ok.bind (stroke_ok N hb (by omega)) (fun r hr => ?_))
  obtain ⟨x, c, c2, c3⟩ := r
  exact Ok.some hr.2

def BelR (b b' : List Int) (b2 : Int) : Prop := b' = b ∧ Bell b b2
/-! ### Desks -/
section
variable {N : Nat} {b : List Int}
theorem made1_ok {often b2 b3 : Int} (ho : -1000 ≤ often ∧ often ≤ 1000) (hb : Bell b b2) : Ok (made1_S N often b b2 b3) fun r => (-1 ≤ r.1 ∧ r.1 ≤ 5) ∧ BelR b r.2.1 r.2.2.1 := by
  unfold made1_S
  refine Ok.bind (seldom_ok N hb ho) ?_
  rintro ⟨x, c1, c2, c3⟩ ⟨hc, hb1⟩
  dsimp only at hc hb1 ⊢
  obtain rfl := hc.symm
  refine Ok.br (fun _ => Ok.some ⟨by dsimp only; omega, rfl, hb1⟩) (fun _ => ?_)
  refine Ok.bind (stroke_ok N hb1 (by omega)) ?_
  rintro ⟨y, d1, d2, d3⟩ ⟨hy, hc, hb2⟩
  dsimp only at hy hc hb2 ⊢
  obtain rfl := hc.symm
  exact Ok.some ⟨by dsimp only; omega, rfl, hb2⟩
theorem made_l1_p {things u g d : Int} (hu : 0 ≤ u ∧ u ≤ 100) : ∀ (n k : Nat) (b2 b3 : Int) (W : List Int), u < n + k → (k : Int) ≤ u → Bell b b2 → W.length = k → (∀ x ∈ W, 1 ≤ x ∧ x ≤ 9) →
    Ok (made_l1 N n things u k b b2 b3 g d W) fun z => z.1 = things ∧ BelR b z.2.1 z.2.2.1 ∧ z.2.2.2.2.1 = g ∧ z.2.2.2.2.2.1 = d ∧ (z.2.2.2.2.2.2.length : Int) = u ∧ ∀ x ∈ z.2.2.2.2.2.2, 1 ≤ x ∧ x ≤ 9
  | 0, k, b2, b3, W, h, _, _, _, _ => by omega
  | n + 1, k, b2, b3, W, h, hk, hb, hW, hw => by
    unfold made_l1
    refine Ok.brd (fun c => ?_) (fun c => Ok.some ⟨rfl, ⟨rfl, hb⟩, rfl, rfl, by dsimp only; omega, hw⟩)
    refine Ok.bind (strike_ok N hb (by omega)) ?_
    rintro ⟨x, c1, c2, c3⟩ ⟨hx, hc, hb1⟩
    dsimp only at hx hc hb1 ⊢
    obtain rfl := hc.symm
    refine Ok.lim (by simp; omega) (Ok.chk (by omega) ?_)
    have := made_l1_p (things := things) (g := g) (d := d) hu n (k + 1) c2 c3 (W ++ [x]) (by omega) (by omega) hb1 (by simp [hW]) (fun w hm => by
      rcases List.mem_append.1 hm with hm | hm
      · exact hw w hm
      · simp at hm; subst hm; omega)
    rw [nat_succ] at this
    exact this
theorem made_l3_p {many often u u2 u3 g d : Int} {d2 : List Int} {d3 : List (List Int)} {d4 : List Int} (ho : 2 ≤ often ∧ often ≤ 5) (hu : 0 ≤ u3 ∧ u3 ≤ 100) : ∀ (n k : Nat) (b2 b3 : Int) (l : List Int), u3 < n + k → (k : Int) ≤ u3 → Bell b b2 → l.length = k → (∀ x ∈ l, -1 ≤ x ∧ x ≤ 5) →
    Ok (made_l3 N n many often u u2 u3 k b b2 b3 g d l d2 d3 d4) fun z => ∃ b2' b3' l', z = (many, often, u, u2, b, b2', b3', g, d, l', d2, d3, d4) ∧ Bell b b2' ∧ (l'.length : Int) = u3 ∧ ∀ x ∈ l', -1 ≤ x ∧ x ≤ 5
  | 0, k, b2, b3, l, h, _, _, _, _ => by omega
  | n + 1, k, b2, b3, l, h, hk, hb, hW, hw => by
    unfold made_l3
    refine Ok.brd (fun c => ?_) (fun c => Ok.some ⟨b2, b3, l, rfl, hb, by omega, hw⟩)
    refine Ok.bind (made1_ok (by omega) hb) ?_
    rintro ⟨x, c1, c2, c3⟩ ⟨hx, hc, hb1⟩
    dsimp only at hx hc hb1 ⊢
    obtain rfl := hc.symm
    refine Ok.lim (by simp; omega) (Ok.chk (by omega) ?_)
    have := made_l3_p (many := many) (often := often) (u := u) (u2 := u2) (g := g) (d := d) (d2 := d2) (d3 := d3) (d4 := d4) ho hu n (k + 1) c2 c3 (l ++ [x]) (by omega) (by omega) hb1 (by simp [hW]) (fun w hm => by
      rcases List.mem_append.1 hm with hm | hm
      · exact hw w hm
      · simp at hm; subst hm; omega)
    rw [nat_succ] at this
    exact this
theorem made_l5_p {often u u2 u3 g d : Int} {d2 : List Int} {d3 d4 : List (List Int)} {d5 : List Int} (ho : 2 ≤ often ∧ often ≤ 5) (hu : 0 ≤ u3 ∧ u3 ≤ 100) : ∀ (n k : Nat) (b2 b3 : Int) (l : List Int), u3 < n + k → (k : Int) ≤ u3 → Bell b b2 → l.length = k → (∀ x ∈ l, -1 ≤ x ∧ x ≤ 5) →
    Ok (made_l5 N n often u u2 u3 k b b2 b3 g d l d2 d3 d4 d5) fun z => ∃ b2' b3' l', z = (often, u, u2, b, b2', b3', g, d, l', d2, d3, d4, d5) ∧ Bell b b2' ∧ (l'.length : Int) = u3 ∧ ∀ x ∈ l', -1 ≤ x ∧ x ≤ 5
  | 0, k, b2, b3, l, h, _, _, _, _ => by omega
  | n + 1, k, b2, b3, l, h, hk, hb, hW, hw => by
    unfold made_l5
    refine Ok.brd (fun c => ?_) (fun c => Ok.some ⟨b2, b3, l, rfl, hb, by omega, hw⟩)
    refine Ok.bind (made1_ok (by omega) hb) ?_
    rintro ⟨x, c1, c2, c3⟩ ⟨hx, hc, hb1⟩
    dsimp only at hx hc hb1 ⊢
    obtain rfl := hc.symm
    refine Ok.lim (by simp; omega) (Ok.chk (by omega) ?_)
    have := made_l5_p (often := often) (u := u) (u2 := u2) (g := g) (d := d) (d2 := d2) (d3 := d3) (d4 := d4) (d5 := d5) ho hu n (k + 1) c2 c3 (l ++ [x]) (by omega) (by omega) hb1 (by simp [hW]) (fun w hm => by
      rcases List.mem_append.1 hm with hm | hm
      · exact hw w hm
      · simp at hm; subst hm; omega)
    rw [nat_succ] at this
    exact this
/-- Descriptions of so many traits. -/
def okRow (m : Nat) (r : List Int) : Prop := r.length = m ∧ ∀ x ∈ r, -1 ≤ x ∧ x ≤ 5
theorem made_l2_p (hN : 110 ≤ N) {many often u g d : Int} {W : List Int} (hW : W.length ≤ 5) (ho : 2 ≤ often ∧ often ≤ 5) (hu : 0 ≤ u ∧ u ≤ 6) : ∀ (n k : Nat) (b2 b3 : Int) (L : List (List Int)) (R : List Int), u < n + k → (k : Int) ≤ u → Bell b b2 → L.length = k → R.length = k → (∀ r ∈ L, okRow W.length r) → (∀ x ∈ R, 0 ≤ x ∧ x ≤ 99) →
    Ok (made_l2 N n many often u k b b2 b3 g d W L R) fun z => ∃ b2' b3' L' R', z = (many, often, b, b2', b3', g, d, W, L', R') ∧ Bell b b2' ∧ ((L'.length : Int) = u ∧ R'.length = L'.length) ∧ (∀ r ∈ L', okRow W.length r) ∧ ∀ x ∈ R', 0 ≤ x ∧ x ≤ 99
  | 0, k, b2, b3, L, R, h, _, _, _, _, _, _ => by omega
  | n + 1, k, b2, b3, L, R, h, hk, hb, hL, hR, hl, hr => by
    unfold made_l2
    refine Ok.brd (fun c => ?_) (fun c => Ok.some ⟨b2, b3, L, R, rfl, hb, ⟨by omega, by omega⟩, hl, hr⟩)
    have e := made_l3_p (N := N) (many := many) (often := often) (u := u) (u2 := (k : Int)) (u3 := W.length) (g := g) (d := d) (d2 := W) (d3 := L) (d4 := R) ho (by omega) N 0 b2 b3 [] (by omega) (by omega) hb rfl (fun x h => by cases h)
    rw [show ((0 : Nat) : Int) = 0 from rfl] at e
    refine Ok.bind e ?_
    rintro _ ⟨b2', b3', l', rfl, hb1, hl1, hl2⟩
    dsimp only
    refine Ok.lim (by simp; omega) (Ok.bind (stroke_ok N hb1 (by omega)) ?_)
    rintro ⟨y, d1, d2, d3⟩ ⟨hy, hc, hb2⟩
    dsimp only at hy hc hb2 ⊢
    obtain rfl := hc.symm
    refine Ok.lim (by simp; omega) (Ok.chk (by omega) ?_)
    have := made_l2_p hN (many := many) (g := g) (d := d) hW ho hu n (k + 1) d2 d3 (L ++ [l']) (R ++ [y]) (by omega) (by omega) hb2 (by simp [hL]) (by simp [hR]) (fun r hm => by
      rcases List.mem_append.1 hm with hm | hm
      · exact hl r hm
      · simp at hm; subst hm; exact ⟨by omega, hl2⟩) (fun x hm => by
      rcases List.mem_append.1 hm with hm | hm
      · exact hr x hm
      · simp at hm; subst hm; omega)
    rw [nat_succ] at this
    exact this
theorem made_l4_p (hN : 110 ≤ N) {often u g d : Int} {W R : List Int} {L : List (List Int)} (hW : W.length ≤ 5) (ho : 2 ≤ often ∧ often ≤ 5) (hu : 0 ≤ u ∧ u ≤ 6) : ∀ (n k : Nat) (b2 b3 : Int) (F : List (List Int)), u < n + k → (k : Int) ≤ u → Bell b b2 → F.length = k → (∀ r ∈ F, okRow W.length r) →
    Ok (made_l4 N n often u k b b2 b3 g d W L F R) fun z => ∃ b2' b3' F', z = (b, b2', b3', g, d, W, L, F', R) ∧ Bell b b2' ∧ (F'.length : Int) = u ∧ ∀ r ∈ F', okRow W.length r
  | 0, k, b2, b3, F, h, _, _, _, _ => by omega
  | n + 1, k, b2, b3, F, h, hk, hb, hL, hl => by
    unfold made_l4
    refine Ok.brd (fun c => ?_) (fun c => Ok.some ⟨b2, b3, F, rfl, hb, by omega, hl⟩)
    have e := made_l5_p (N := N) (often := often) (u := u) (u2 := (k : Int)) (u3 := W.length) (g := g) (d := d) (d2 := W) (d3 := L) (d4 := F) (d5 := R) ho (by omega) N 0 b2 b3 [] (by omega) (by omega) hb rfl (fun x h => by cases h)
    rw [show ((0 : Nat) : Int) = 0 from rfl] at e
    refine Ok.bind e ?_
    rintro _ ⟨b2', b3', l', rfl, hb1, hl1, hl2⟩
    dsimp only
    refine Ok.lim (by simp; omega) (Ok.chk (by omega) ?_)
    have := made_l4_p hN (g := g) (d := d) (L := L) (R := R) hW ho hu n (k + 1) b2' b3' (F ++ [l']) (by omega) (by omega) hb1 (by simp [hL]) (fun r hm => by
      rcases List.mem_append.1 hm with hm | hm
      · exact hl r hm
      · simp at hm; subst hm; exact ⟨by omega, hl2⟩)
    rw [nat_succ] at this
    exact this
theorem made_v (hN : 110 ≤ N) {things b2 b3 : Int} (ht : 0 ≤ things ∧ things ≤ 6) (hb : Bell b b2) :
    Ok (made_S N things b b2 b3) fun z => Fine z.1 z.2.1 z.2.2.1 z.2.2.2.1 z.2.2.2.2.1 ∧ ((z.2.2.1.length : Int) ≤ things ∧ (z.2.2.2.1.length : Int) ≤ things) ∧ z.2.1 ≤ 2 ∧ BelR b z.2.2.2.2.2.1 z.2.2.2.2.2.2.1 := by
  unfold made_S
  refine Ok.bind (stroke_ok N hb (by omega)) ?_
  rintro ⟨x, c1, c2, c3⟩ ⟨hx, hc, hb1⟩
  dsimp only at hx hc hb1 ⊢
  obtain rfl := hc.symm
  refine Ok.bind (strike_ok N hb1 (by omega)) ?_
  rintro ⟨m, d1, d2, d3⟩ ⟨hm, hc, hb2⟩
  dsimp only at hm hc hb2 ⊢
  obtain rfl := hc.symm
  have e1 := made_l1_p (N := N) (things := things) (g := 0) (d := x) (u := m) (by omega) N 0 d2 d3 [] (by omega) (by omega) hb2 rfl (fun w h => by cases h)
  rw [show ((0 : Nat) : Int) = 0 from rfl] at e1
  refine Ok.bind e1 ?_
  rintro ⟨t', f1, f2, f3, g', x', W⟩ ⟨q1, ⟨q2, hb3⟩, q3, q4, hl, hW⟩
  dsimp only at q1 q2 q3 q4 hb3 hl hW ⊢
  obtain rfl := q1.symm
  obtain rfl := q2.symm
  obtain rfl := q3.symm
  obtain rfl := q4.symm
  refine Ok.bind (stroke_ok N hb3 (by omega)) ?_
  rintro ⟨many, h1, h2, h3⟩ ⟨hmany, hc, hb4⟩
  dsimp only at hmany hc hb4 ⊢
  obtain rfl := hc.symm
  refine Ok.bind (strike_ok N hb4 (by omega)) ?_
  rintro ⟨often, i1, i2, i3⟩ ⟨hoften, hc, hb5⟩
  dsimp only at hoften hc hb5 ⊢
  obtain rfl := hc.symm
  refine Ok.bind (stroke_ok N hb5 (by omega)) ?_
  rintro ⟨u, j1, j2, j3⟩ ⟨hu, hc, hb6⟩
  dsimp only at hu hc hb6 ⊢
  obtain rfl := hc.symm
  have e2 := made_l2_p hN (many := many) (often := often) (u := u) (g := 0) (d := x) (W := W) (by omega) (by omega) (by omega) N 0 j2 j3 [] [] (by omega) (by omega) hb6 rfl rfl (fun x h => by cases h) (fun x h => by cases h)
  rw [show ((0 : Nat) : Int) = 0 from rfl] at e2
  refine Ok.bind e2 ?_
  rintro _ ⟨k2, k3, L, R, rfl, hb7, ⟨hL, hR⟩, hl2, hr2⟩
  dsimp only
  have e3 := made_l4_p hN (often := often) (u := many) (g := 0) (d := x) (W := W) (L := L) (R := R) (by omega) (by omega) (by omega) N 0 k2 k3 [] (by omega) (by omega) hb7 rfl (fun x h => by cases h)
  rw [show ((0 : Nat) : Int) = 0 from rfl] at e3
  refine Ok.bind e3 ?_
  rintro _ ⟨l2, l3, F, rfl, hb8, hF, hf2⟩
  dsimp only
  exact Ok.some ⟨⟨by dsimp only; omega, by dsimp only; omega, by dsimp only; omega, by dsimp only; omega, fun r hr => (hl2 r hr).1, fun r hr => (hf2 r hr).1, hR, hW, by dsimp only; omega, hr2, fun r hr => (hl2 r hr).2, fun r hr => (hf2 r hr).2⟩, ⟨by dsimp only; omega, by dsimp only; omega⟩, by dsimp only; omega, rfl, hb8⟩
end
end Go.Proofs.Ythncjilcflilcaa

namespace Go.Proofs.Ythncjilcflilcaa
set_option linter.all false
open Go

section
variable {W : List Int} {s : Int} {L F : List (List Int)} {R : List Int} {A B : Nat → Nat → Int} {N : Nat}
theorem lpair_l1_p (h : Fine W s L F R) {i k : Nat} (hi : i < L.length) (hk : k < F.length) : ∀ (n t : Nat), W.length < n + t → t ≤ W.length →
    lpair_l1 N n k (agP W (L.getD i []) (F.getD k []) t) (slP (L.getD i []) (F.getD k []) t) (L.getD i []) W.length t W s L F R = some (agF W L F i k, slF W L F i k, W, s, L, F, R)
  | 0, t, hn, ht => by omega
  | n + 1, t, hn, ht => by
    unfold lpair_l1
    have hw5 := h.w5
    have ha := h.lw _ (getD_mem (d := []) hi)
    have hb := h.fw _ (getD_mem (d := []) hk)
    by_cases c : t < W.length
    · have ih := lpair_l1_p h hi hk n (t + 1) (by omega) (by omega)
      rw [nat_succ] at ih
      have b1 := agP_bound h.w (L.getD i []) (F.getD k []) (t := t) (by omega)
      have b2 := slP_bound (L.getD i []) (F.getD k []) (t := t) (by omega)
      have b3 := getD_W h.w t
      have s1 : agP W (L.getD i []) (F.getD k []) (t + 1) = agP W (L.getD i []) (F.getD k []) t + agA W (L.getD i []) (F.getD k []) t := rfl
      have s2 : slP (L.getD i []) (F.getD k []) (t + 1) = slP (L.getD i []) (F.getD k []) t + slA (L.getD i []) (F.getD k []) t := rfl
      rw [s1, s2] at ih
      clear s1 s2
      have g1 : (L.getD i [])[((t : Nat) : Int).toNat]? = some ((L.getD i []).getD t 0) := gets (by omega) 0
      have g2 : (F.getD k [])[((t : Nat) : Int).toNat]? = some ((F.getD k []).getD t 0) := gets (by omega) 0
      rw [br_dec (by omega), idx_eq (by omega) g1, idx_eq (by omega) (gets hk []), idx_eq (by omega) g2]
      have hj : ∀ x y, lpair_j1 N (lpair_l1 N n) k x y (L.getD i []) W.length t W s L F R = lpair_l1 N n k x y (L.getD i []) W.length (↑t + 1) W s L F R := fun x y => by
        unfold lpair_j1
        rw [chk_eq (by omega)]
      simp only [hj]
      clear g1 g2
      unfold agA slA at ih
      generalize (L.getD i []).getD t 0 = x at *
      generalize (F.getD k []).getD t 0 = y at *
      generalize agP W (L.getD i []) (F.getD k []) t = p at *
      generalize slP (L.getD i []) (F.getD k []) t = q at *
      by_cases c1 : x = -1
      · rw [if_neg (by omega), if_neg (by omega), Int.add_zero, Int.add_zero] at ih
        rw [br_dec c1, ih]
      by_cases c2 : y = -1
      · rw [if_neg (by omega), if_neg (by omega), Int.add_zero, Int.add_zero] at ih
        rw [br_ndec c1, br_dec c2, ih]
      by_cases c3 : x = y
      · rw [if_pos ⟨c3, by omega⟩, if_neg (by omega), Int.add_zero] at ih
        rw [br_ndec c1, br_ndec c2, br_dec c3, idx_eq (by omega) (gets c 0), chk_eq (by omega), ih]
      · rw [if_neg (by omega), if_pos ⟨by omega, by omega, c3⟩, Int.add_zero] at ih
        rw [br_ndec c1, br_ndec c2, br_ndec c3, chk_eq (by omega), ih]
    · obtain rfl : t = W.length := by omega
      rw [br_ndec (by omega)]
      unfold agF slF
      rw [if_pos ⟨hi, hk⟩, if_pos ⟨hi, hk⟩]
theorem lpair_v (hN : 110 ≤ N) (h : Fine W s L F R) {i k : Nat} (hi : i < L.length) (hk : k < F.length) : lpair_S N W s L F R i k = some (agF W L F i k, canF W s L F i k) := by
  have e := lpair_l1_p (N := N) h hi hk N 0 (by have := h.w5; omega) (by omega)
  unfold lpair_S
  rw [show agP W (L.getD i []) (F.getD k []) 0 = 0 from rfl, show slP (L.getD i []) (F.getD k []) 0 = 0 from rfl, show ((0 : Nat) : Int) = 0 from rfl] at e
  rw [idx_eq (by omega) (gets hi []), h.lw _ (getD_mem hi), e]
  simp only [Option.bind_some]
  unfold canF canT
  by_cases c : 0 < agF W L F i k
  · rw [br_dec c, decide_eq_true c, Bool.true_and]
  · rw [br_ndec c, decide_eq_false c, Bool.false_and]
/-! ### Joins that are tried -/
end
end Go.Proofs.Ythncjilcflilcaa

namespace Go.Proofs.Ythncjilcflilcaa
set_option linter.all false
open Go

section
variable {W : List Int} {s : Int} {L F : List (List Int)} {R : List Int} {N : Nat}
theorem has_selN {p : Nat → Bool} {n i : Nat} (hi : i < n) : hasB (selN p n) (i : Int) = p i := by
  rw [Bool.eq_iff_iff, hasB_iff, mem_selN]
  exact ⟨fun h => h.2, fun h => ⟨hi, h⟩⟩
/-- The most so far. -/
def mtU (W : List Int) (s : Int) (L F : List (List Int)) (i n : Nat) : Int := ((List.range n).filter (canF W s L F i)).foldl (fun a k => max a (agF W L F i k)) 0
theorem mtU_succ (i n : Nat) : mtU W s L F i (n + 1) = if canF W s L F i n = true then max (mtU W s L F i n) (agF W L F i n) else mtU W s L F i n := by
  unfold mtU
  rw [List.range_succ, List.filter_append, List.foldl_append, List.filter_cons]
  split <;> rfl
theorem mtU_bound (h : Fine W s L F R) (i n : Nat) : 0 ≤ mtU W s L F i n ∧ mtU W s L F i n ≤ 50 := by
  obtain ⟨h1, _, h3⟩ := foldl_ub (f := fun k => agF W L F i k) ((List.range n).filter (canF W s L F i)) 0
  refine ⟨h1, ?_⟩
  unfold mtU
  rcases h3 with h3 | ⟨k, _, e⟩
  · rw [h3]; omega
  · rw [e]; exact (agF_bound h i k).2
theorem mtI_eq (i : Nat) : mtI W s L F i = mtU W s L F i F.length := rfl
/-- How many found things a lost one claims. -/
def cK (W : List Int) (s : Int) (L F : List (List Int)) (i n : Nat) : Nat := ((List.range n).filter fun k => clm W s L F k i).length
theorem cK_succ (i n : Nat) : cK W s L F i (n + 1) = cK W s L F i n + if clm W s L F n i = true then 1 else 0 := by
  unfold cK
  rw [List.range_succ, List.filter_append, List.length_append, List.filter_cons]
  split <;> rfl
theorem cK_le (i n : Nat) : cK W s L F i n ≤ n := by
  have := List.length_filter_le (fun k => clm W s L F k i) (List.range n)
  simpa [cK] using this
theorem cK_zero {i n : Nat} (h : cK W s L F i n = 0) {k : Nat} (hk : k < n) : clm W s L F k i = false := by
  cases e : clm W s L F k i with
  | false => rfl
  | true =>
    have : k ∈ (List.range n).filter fun k => clm W s L F k i := List.mem_filter.2 ⟨List.mem_range.2 hk, e⟩
    rw [List.eq_nil_of_length_eq_zero h] at this
    cases this
theorem fclaimed_l2_p (hN : 110 ≤ N) (h : Fine W s L F R) {i : Nat} (hi : i < L.length) {ct l cl : List Int} {n sum u u2 : Int} {tw : Bool} : ∀ (f k : Nat), F.length < f + k → k ≤ F.length →
    fclaimed_l2 N f ct l n sum tw i (selN (canF W s L F i) F.length) (mtU W s L F i k) u u2 F.length k W s L F R cl = some (.inr (ct, l, n, sum, tw, (i : Int), mtI W s L F i, u, u2, W, s, L, F, R, cl))
  | 0, k, hn, _ => by omega
  | f + 1, k, hn, hk => by
    unfold fclaimed_l2
    have hf6 := h.f6
    by_cases c : k < F.length
    · have ih := fclaimed_l2_p hN h hi (ct := ct) (l := l) (cl := cl) (n := n) (sum := sum) (u := u) (u2 := u2) (tw := tw) f (k + 1) (by omega) (by omega)
      rw [nat_succ, mtU_succ] at ih
      have hlen := selN_len (canF W s L F i) F.length
      rw [br_dec (by omega), lpair_v hN h hi c]
      simp only [Option.bind_some]
      rw [containsi_v (by omega) (by omega), has_selN c]
      simp only [Option.bind_some]
      rw [beq_self_eq_true, Bool.not_true, br_false]
      unfold fclaimed_j1
      cases d : canF W s L F i k with
      | true =>
        rw [d, if_pos rfl] at ih
        rw [br_true, chk_eq (by omega), ih]
      | false =>
        rw [d, if_neg (by simp)] at ih
        rw [br_false, chk_eq (by omega), ih]
    · obtain rfl : k = F.length := by omega
      rw [br_ndec (by omega)]
      rfl
theorem claims_f (hN : 110 ≤ N) (h : Fine W s L F R) {k : Nat} (hk : k < F.length) : claims__S N W s L F R k = some (claimL W s L F k, 0) := by
  rw [claims_v hN h.sm, if_pos (errD_iff.2 h), if_neg (by omega)]
  rfl
theorem claimL_len (k : Nat) : (claimL W s L F k).length ≤ L.length := selN_len _ _
theorem fclaimed_l3_p (hN : 110 ≤ N) (h : Fine W s L F R) {i : Nat} (hi : i < L.length) {ct l C : List Int} (hC : C.length = L.length) {n sum u u2 : Int} {tw : Bool} : ∀ (f k : Nat), F.length < f + k → k ≤ F.length →
    fclaimed_l3 N f ct l n sum tw i (mtI W s L F i) u u2 F.length k W s L F R (C.set i (cK W s L F i k : Nat)) = some (.inr (ct, l, n, sum, tw, (i : Int), u, u2, W, s, L, F, R, C.set i (cK W s L F i F.length : Nat)))
  | 0, k, hn, _ => by omega
  | f + 1, k, hn, hk => by
    unfold fclaimed_l3
    have hf6 := h.f6; have hl6 := h.l6
    by_cases c : k < F.length
    · have ih := fclaimed_l3_p hN h hi (ct := ct) (l := l) hC (n := n) (sum := sum) (u := u) (u2 := u2) (tw := tw) f (k + 1) (by omega) (by omega)
      rw [nat_succ, cK_succ] at ih
      have hlen := claimL_len (W := W) (s := s) (L := L) (F := F) k
      have hck := cK_le (W := W) (s := s) (L := L) (F := F) i k
      have hsl : (C.set i ((cK W s L F i k : Nat) : Int)).length = L.length := by rw [List.length_set, hC]
      rw [br_dec (by omega), lpair_v hN h hi c]
      simp only [Option.bind_some]
      rw [claims_f hN h c]
      simp only [Option.bind_some]
      rw [br_nd (by first | trivial | rfl), containsi_v (by omega) (by omega), show hasB (claimL W s L F k) (i : Int) = clm W s L F k i from has_selN hi]
      simp only [Option.bind_some]
      unfold fclaimed_j2
      cases d : canF W s L F i k with
      | false =>
        have e : clm W s L F k i = false := by unfold clm; rw [d]; rfl
        rw [e, if_neg (by simp), Nat.add_zero] at ih
        rw [e, br_false, show (!(false == false)) = false from rfl, br_false, br_false, chk_eq (by omega), ih]
      | true =>
        have e : clm W s L F k i = decide (agF W L F i k = mtI W s L F i) := by unfold clm; rw [d, Bool.true_and]
        rw [e] at ih
        rw [e, br_true, beq_self_eq_true, Bool.not_true, br_false, br_true]
        by_cases e2 : agF W L F i k = mtI W s L F i
        · rw [decide_eq_true e2, if_pos rfl] at ih
          rw [br_dec e2, rng_eq (by rw [hsl]; omega)]
          simp only [Int.toNat_natCast]
          rw [get_get 0 (by rw [hsl]; exact hi), getD_set_self _ _ _ _ (by omega), chk_eq (by omega), rng_eq (by rw [hsl]; omega), get_get 0 (by rw [hsl]; exact hi), List.set_set, chk_eq (by omega)]
          rw [nat_succ] at ih
          exact ih
        · rw [decide_eq_false e2, if_neg (by simp), Nat.add_zero] at ih
          rw [br_ndec e2, chk_eq (by omega), ih]
    · obtain rfl : k = F.length := by omega
      rw [br_ndec (by omega)]
/-- The numbers of claims so far. -/
def cL (W : List Int) (s : Int) (L F : List (List Int)) (i : Nat) : List Int := (List.range L.length).map fun j => if j < i then ((cK W s L F j F.length : Nat) : Int) else 0
theorem cL_len (i : Nat) : (cL W s L F i).length = L.length := by simp [cL]
theorem cL_get {i j : Nat} (hj : j < L.length) : (cL W s L F i).getD j 0 = if j < i then ((cK W s L F j F.length : Nat) : Int) else 0 := by simp [cL, List.getD_eq_getElem?_getD, hj]
theorem cL_zero : cL W s L F 0 = List.replicate L.length 0 := by
  unfold cL
  refine List.ext_getElem (by simp) fun j h1 h2 => by simp
theorem cL_self (i : Nat) : cL W s L F i = (cL W s L F i).set i ((cK W s L F i 0 : Nat) : Int) := by
  refine List.ext_getElem (by simp) fun j h1 h2 => ?_
  rw [List.getElem_set]
  split
  · rename_i e
    subst e
    simp [cL, cK]
  · rfl
theorem cL_succ (i : Nat) : (cL W s L F i).set i ((cK W s L F i F.length : Nat) : Int) = cL W s L F (i + 1) := by
  refine List.ext_getElem (by simp [cL]) fun j h1 h2 => ?_
  rw [List.getElem_set]
  simp only [cL, List.getElem_map, List.getElem_range]
  by_cases e : i = j
  · subst e
    rw [if_pos rfl, if_pos (by omega)]
  · rw [if_neg e]
    by_cases e2 : j < i
    · rw [if_pos e2, if_pos (by omega)]
    · rw [if_neg e2, if_neg (by omega)]
def twI (W : List Int) (s : Int) (L F : List (List Int)) (i : Nat) : Bool := (List.range i).any fun j => decide (1 < cK W s L F j F.length)
theorem twI_succ (i : Nat) : twI W s L F (i + 1) = (twI W s L F i || decide (1 < cK W s L F i F.length)) := by
  unfold twI
  rw [List.range_succ, List.any_append]
  simp
theorem lmay_f (hN : 110 ≤ N) (h : Fine W s L F R) {i : Nat} (hi : i < L.length) : lmay_S N W s L F R i = some (selN (canF W s L F i) F.length, 0) := by
  rw [lmay_v hN h.sm, if_pos (errD_iff.2 h), if_neg (by omega)]
  rfl
theorem sumT_bound (h : Fine W s L F R) : ∀ i : Nat, i ≤ 100 → 0 ≤ sumN (mtI W s L F) i ∧ sumN (mtI W s L F) i ≤ 50 * i
  | 0, _ => by simp [sumN]
  | i + 1, hi => by
    have h1 := sumT_bound h i (by omega)
    have h2 := mtU_bound h i F.length
    rw [sumN, mtI_eq]
    omega
theorem fclaimed_l1_p (hN : 110 ≤ N) (h : Fine W s L F R) {ct l : List Int} {n : Int} : ∀ (f i : Nat), L.length < f + i → i ≤ L.length →
    fclaimed_l1 N f ct l n (sumN (mtI W s L F) i) (twI W s L F i) L.length i W s L F R (cL W s L F i) = some (.inr (.inr (.inr (ct, l, n, sumN (mtI W s L F) L.length, twI W s L F L.length, W, s, L, F, R, cL W s L F L.length))))
  | 0, i, hn, _ => by omega
  | f + 1, i, hn, hi => by
    unfold fclaimed_l1
    have hf6 := h.f6; have hl6 := h.l6
    by_cases c : i < L.length
    · have ih := fclaimed_l1_p hN h (ct := ct) (l := l) (n := n) f (i + 1) (by omega) (by omega)
      rw [nat_succ] at ih
      have b1 := sumT_bound h i (by omega)
      have b2 := mtU_bound h i F.length
      rw [← mtI_eq] at b2
      have e2 := fclaimed_l2_p hN h c (ct := ct) (l := l) (cl := cL W s L F i) (n := n) (sum := sumN (mtI W s L F) i) (u := (L.length : Int)) (u2 := (i : Int)) (tw := twI W s L F i) N 0 (by omega) (by omega)
      rw [show ((0 : Nat) : Int) = 0 from rfl, show mtU W s L F i 0 = 0 from rfl] at e2
      have e3 := fclaimed_l3_p hN h c (ct := ct) (l := l) (C := cL W s L F i) (cL_len i) (n := n) (sum := sumN (mtI W s L F) i + mtI W s L F i) (u := (L.length : Int)) (u2 := (i : Int)) (tw := twI W s L F i) N 0 (by omega) (by omega)
      rw [← cL_self, cL_succ, show ((0 : Nat) : Int) = 0 from rfl] at e3
      rw [br_dec (by omega), lmay_f hN h c]
      simp only [Option.bind_some]
      rw [br_nd (by first | trivial | rfl), e2]
      simp only [Option.bind_some]
      rw [chk_eq (by omega), e3]
      simp only [Option.bind_some]
      rw [show sumN (mtI W s L F) (i + 1) = sumN (mtI W s L F) i + mtI W s L F i from rfl, twI_succ] at ih
      cases d : twI W s L F i with
      | true =>
        rw [d, Bool.true_or] at ih
        rw [br_true, chk_eq (by omega), ih]
      | false =>
        rw [d, Bool.false_or] at ih
        rw [br_false, rng_eq (by rw [cL_len]; omega)]
        simp only [Int.toNat_natCast]
        rw [get_get 0 (by rw [cL_len]; exact c), cL_get c, if_pos (by omega), chk_eq (by omega)]
        rw [show (decide ((1 : Int) < ((cK W s L F i F.length : Nat) : Int))) = decide (1 < cK W s L F i F.length) by
          by_cases e : 1 < cK W s L F i F.length
          · rw [decide_eq_true e, decide_eq_true (by omega)]
          · rw [decide_eq_false e, decide_eq_false (by omega)], ih]
    · obtain rfl : i = L.length := by omega
      rw [br_ndec (by omega)]
theorem fclaimed_l4_p (hN : 110 ≤ N) (h : Fine W s L F R) {l cl : List Int} {n sum : Int} {tw : Bool} : ∀ (f k : Nat), F.length < f + k → k ≤ F.length →
    fclaimed_l4 N f (contL W s L F) l n sum tw F.length k W s L F R cl = some (.inr (contL W s L F, l, n, sum, tw, W, s, L, F, R, cl))
  | 0, k, hn, _ => by omega
  | f + 1, k, hn, hk => by
    unfold fclaimed_l4
    have hf6 := h.f6
    by_cases c : k < F.length
    · have ih := fclaimed_l4_p hN h (l := l) (cl := cl) (n := n) (sum := sum) (tw := tw) f (k + 1) (by omega) (by omega)
      rw [nat_succ] at ih
      have hlen := selN_len (cntB W s L F) F.length
      have hlen2 : (contL W s L F).length ≤ F.length := hlen
      rw [br_dec (by omega), claims_f hN h c]
      simp only [Option.bind_some]
      rw [br_nd (by first | trivial | rfl), containsi_v (by omega) (by omega), show hasB (contL W s L F) (k : Int) = cntB W s L F k from has_selN c]
      simp only [Option.bind_some]
      have e : (decide ((1 : Int) < ((claimL W s L F k).length : Int))) = cntB W s L F k := by
        unfold cntB
        by_cases e : 2 ≤ (claimL W s L F k).length
        · rw [decide_eq_true e, decide_eq_true (by omega)]
        · rw [decide_eq_false e, decide_eq_false (by omega)]
      rw [e, beq_self_eq_true, Bool.not_true, br_false, chk_eq (by omega), ih]
    · rw [br_ndec (by omega)]
theorem pv_le (h : Fine W s L F R) {l : List Int} (hm : l ∈ joinsL (canF W s L F) F.length L.length 0 0) : ∀ i, i < L.length → pv (agF W L F) i (fnJ l i) ≤ mtI W s L F i := by
  intro i hi
  obtain ⟨_, h2, _⟩ := mem_joins.1 hm
  have b := mtU_bound h i F.length
  rw [← mtI_eq] at b
  rcases h2.ok i hi with e | ⟨k, e, hk, hc⟩
  · rw [e]; unfold pv; rw [if_pos rfl]; omega
  · rw [e]; unfold pv
    rw [if_neg (by omega), Int.toNat_natCast]
    exact mtI_le hk hc
theorem best_claims (h : Fine W s L F R) : bestV W s L F ≤ sumN (mtI W s L F) L.length := by
  have hm : bestL W s L F ∈ joinsL (canF W s L F) F.length L.length 0 0 := bl_mem
  have hv : valJ (agF W L F) 0 (bestL W s L F) = bestV W s L F := bl_val
  rw [val_joins (joins_all hm).1] at hv
  rw [← hv]
  exact sumN_le (pv_le h hm)
theorem two_mem {α : Type} {l : List α} {a b : α} (ha : a ∈ l) (hb : b ∈ l) (hne : a ≠ b) : 2 ≤ l.length := by
  match l with
  | [] => cases ha
  | [x] =>
    simp at ha hb
    exact absurd (ha.trans hb.symm) hne
  | _ :: _ :: l => simp
/-- All get what they claim. -/
theorem claims_best (h : Fine W s L F R) (hct : contL W s L F = []) : bestV W s L F = sumN (mtI W s L F) L.length := by
  refine Int.le_antisymm (best_claims h) ?_
  have hex : ∀ i, ∃ x : Int, (x = -1 ∧ mtI W s L F i = 0) ∨ ∃ k : Nat, x = k ∧ k < F.length ∧ clm W s L F k i = true := by
    intro i
    rcases (foldl_ub (f := fun k => agF W L F i k) (mayL (canF W s L F) F.length i) 0).2.2 with e | ⟨k, hk, e⟩
    · exact ⟨-1, .inl ⟨rfl, e⟩⟩
    · obtain ⟨k1, k2⟩ := mem_mayL.1 hk
      refine ⟨k, .inr ⟨k, rfl, k1, ?_⟩⟩
      have e : mtI W s L F i = agF W L F i k := e
      unfold clm
      rw [k2, e, decide_eq_true rfl]; rfl
  obtain ⟨J, hJ⟩ := Classical.axiomOfChoice hex
  have hlen : ((List.range L.length).map J).length = L.length := by simp
  have hfn : ∀ i, i < L.length → fnJ ((List.range L.length).map J) i = J i := fun i hi => by simp [fnJ, List.getD_eq_getElem?_getD, hi]
  have hm : (List.range L.length).map J ∈ joinsL (canF W s L F) F.length L.length 0 0 := by
    refine mem_joins.2 ⟨hlen, ⟨fun i hi => ?_, fun i j hi hj hne e => ?_⟩, fun k hk => by simp at hk⟩
    · rw [hfn i hi]
      rcases hJ i with ⟨e, _⟩ | ⟨k, e, hk, hc⟩
      · exact .inl e
      · unfold clm at hc
        rw [Bool.and_eq_true] at hc
        exact .inr ⟨k, e, hk, hc.1⟩
    · rw [hfn i hi, hfn j hj] at e
      rw [hfn i hi]
      rcases hJ i with ⟨e1, _⟩ | ⟨k, e1, hk, hc⟩
      · exact e1
      · rcases hJ j with ⟨e2, _⟩ | ⟨k2, e2, hk2, hc2⟩
        · rw [e, e2]
        · exfalso
          obtain rfl : k = k2 := by omega
          have h2 : 2 ≤ (claimL W s L F k).length := two_mem (a := (i : Int)) (b := (j : Int)) (mem_selN.2 ⟨hi, hc⟩) (mem_selN.2 ⟨hj, hc2⟩) (by omega)
          have : (k : Int) ∈ contL W s L F := mem_selN.2 ⟨hk, decide_eq_true h2⟩
          rw [hct] at this
          cases this
  have hle := best_le hm
  rw [val_joins hlen] at hle
  refine Int.le_trans ?_ hle
  refine Int.le_of_eq (sumN_congr fun i hi => ?_)
  rw [hfn i hi]
  unfold pv
  rcases hJ i with ⟨e, e2⟩ | ⟨k, e, hk, hc⟩
  · rw [if_pos e, e2]
  · unfold clm at hc
    rw [Bool.and_eq_true, decide_eq_true_eq] at hc
    rw [if_neg (by omega), e, Int.toNat_natCast, hc.2]
theorem best_clm (h : Fine W s L F R) (hct : contL W s L F = []) {i : Nat} (hi : i < L.length) : fnJ (bestL W s L F) i = -1 ∨ ∃ k : Nat, fnJ (bestL W s L F) i = k ∧ k < F.length ∧ clm W s L F k i = true := by
  have hm : bestL W s L F ∈ joinsL (canF W s L F) F.length L.length 0 0 := bl_mem
  have hv : valJ (agF W L F) 0 (bestL W s L F) = bestV W s L F := bl_val
  rw [val_joins (joins_all hm).1, claims_best h hct] at hv
  have ht := sumN_tight (pv_le h hm) (Int.le_of_eq hv.symm) i hi
  obtain ⟨_, h2, _⟩ := mem_joins.1 hm
  rcases h2.ok i hi with e | ⟨k, e, hk, hc⟩
  · exact .inl e
  · refine .inr ⟨k, e, hk, ?_⟩
    rw [e] at ht
    unfold pv at ht
    rw [if_neg (by omega), Int.toNat_natCast] at ht
    unfold clm
    rw [hc, ht, decide_eq_true rfl]; rfl
theorem fclaimed_l5_p (hN : 110 ≤ N) (h : Fine W s L F R) (hct : contL W s L F = []) : ∀ (f i : Nat), L.length < f + i → i ≤ L.length →
    fclaimed_l5 N f (bestL W s L F) (bestL W s L F).length i W s L F R (cL W s L F L.length) = some (.inr (.inr ()))
  | 0, i, hn, _ => by omega
  | f + 1, i, hn, hi => by
    unfold fclaimed_l5
    have hf6 := h.f6; have hl6 := h.l6
    have hm : bestL W s L F ∈ joinsL (canF W s L F) F.length L.length 0 0 := bl_mem
    have hlen := (joins_all hm).1
    by_cases c : i < L.length
    · have hj : fclaimed_j3 N (fclaimed_l5 N f) (bestL W s L F) (bestL W s L F).length i W s L F R (cL W s L F L.length) = some (.inr (.inr ())) := by
        have ih := fclaimed_l5_p hN h hct f (i + 1) (by omega) (by omega)
        rw [nat_succ] at ih
        unfold fclaimed_j3
        rw [chk_eq (by omega), ih]
      rw [br_dec (by omega), idx_eq (by omega) (gets (by omega) 0), rng_eq (by rw [cL_len]; omega)]
      simp only [Int.toNat_natCast]
      rw [get_get 0 (by rw [cL_len]; exact c), cL_get c, if_pos c, getD_01 (by omega)]
      rcases best_clm h hct c with e | ⟨k, e, hk, hc⟩
      · rw [e]
        by_cases d : (((cK W s L F i F.length : Nat) : Int)) = 0
        · rw [br_dec d, br_nd (by first | trivial | rfl), br_dec (by first | trivial | rfl), hj]
        · rw [br_ndec d, br_dec (by first | trivial | rfl), hj]
      · have hcl := claimL_len (W := W) (s := s) (L := L) (F := F) k
        have d : ¬ ((cK W s L F i F.length : Nat) : Int) = 0 := fun d => by
          have := cK_zero (W := W) (s := s) (L := L) (F := F) (i := i) (n := F.length) (by omega) hk
          rw [hc] at this; cases this
        rw [br_ndec d, e, br_ndec (show ¬ ((k : Int) = -1) by omega), claims_f hN h hk]
        simp only [Option.bind_some]
        rw [br_nd (by first | trivial | rfl), containsi_v (by omega) (by omega), show hasB (claimL W s L F k) (i : Int) = clm W s L F k i from has_selN c, hc]
        simp only [Option.bind_some]
        rw [Bool.not_true, br_false, hj]
    · rw [br_ndec (by omega)]
end
theorem fclaimed_true {a : List Int} (h0 : Ty.inB (.sl (.int .u8)) a) : fclaimed_S 1100 a = some true := by
  have l0 : a.length ≤ 9223372036854775807 := h0.1
  have aw : ((awake_S 1100).bind fun x => some x) = some true := by rw [awake_v]; rfl
  unfold fclaimed_S hang_S
  simp only [Option.bind_some]
  obtain ⟨⟨W, s, L, F, R, c, c2, c3⟩, em, hF, hlen, _, _⟩ := made_v (N := 1100) (b := a) (by omega) (things := 6) (b2 := 0) (b3 := 0) (by omega) ⟨l0, by omega, by omega⟩
  dsimp only at hF hlen
  rw [em]
  simp only [Option.bind_some]
  have hs := hF.sm
  have hl6 := hF.l6; have hf6 := hF.f6
  have d := errD_iff.2 hF
  have m1 : bestL W s L F ∈ joinsL (canF W s L F) F.length L.length 0 0 := bl_mem
  have hlen1 := (joins_all m1).1
  rw [contests_v (by omega) hs, if_pos d]
  simp only [Option.bind_some]
  rw [best_v (by omega) hs, if_pos d]
  simp only [Option.bind_some]
  rw [br_nd (by first | trivial | rfl), br_nd (by first | trivial | rfl), br_nd (by rw [hlen1]), grd_eq (lmI_iff.2 (by omega))]
  have e1 := fclaimed_l1_p (N := 1100) (by omega) hF (ct := contL W s L F) (l := bestL W s L F) (n := bestV W s L F) 1100 0 (by omega) (by omega)
  rw [show ((0 : Nat) : Int) = 0 from rfl, show sumN (mtI W s L F) 0 = 0 from rfl, show twI W s L F 0 = false from rfl, cL_zero] at e1
  simp only [Int.toNat_natCast]
  rw [e1]
  simp only [Option.bind_some]
  have e4 := fclaimed_l4_p (N := 1100) (by omega) hF (l := bestL W s L F) (cl := cL W s L F L.length) (n := bestV W s L F) (sum := sumN (mtI W s L F) L.length) (tw := twI W s L F L.length) 1100 0 (by omega) (by omega)
  rw [show ((0 : Nat) : Int) = 0 from rfl] at e4
  rw [e4]
  simp only [Option.bind_some]
  have hle := best_claims hF
  rw [br_ndec (by omega)]
  by_cases hct : contL W s L F = []
  · have e5 := fclaimed_l5_p (N := 1100) (by omega) hF hct 1100 0 (by omega) (by omega)
    rw [show ((0 : Nat) : Int) = 0 from rfl] at e5
    have h0 : ((contL W s L F).length : Int) = 0 := by rw [hct]; rfl
    rw [br_dec h0, br_nd (claims_best hF hct), br_dec h0]
    cases twI W s L F L.length with
    | true => rw [Bool.not_true, br_false]; exact aw
    | false =>
      rw [Bool.not_false, br_true, e5]
      exact aw
  · have h0 : ¬ ((contL W s L F).length : Int) = 0 := fun h => hct (List.eq_nil_of_length_eq_zero (by omega))
    rw [br_ndec h0, br_ndec h0]
    exact aw
end Go.Proofs.Ythncjilcflilcaa

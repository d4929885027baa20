/-
  Parts of a proof, put together: FD7, FD8, FD9, FDa, FDb, FDj, FAw, FLd, FLe.
  Conditions: none.
-/
import Derived.Test.YthncjilcflilcaaZd
import Derived.Test.YthncjilcflilcaaZf
import Derived.Test.YthncjilcflilcaaZg
namespace Go.Proofs.Ythncjilcflilcaa
set_option linter.all false
open Go

/-- All lists of numbers from -1 up to below m. -/
def rowX (m : Nat) (r : List Int) : List (List Int) := (List.range (m + 1)).map fun (k : Nat) => r ++ [(k : Int) - 1]
def listsR (m : Nat) : Nat → List (List Int)
  | 0 => [[]]
  | n + 1 => (listsR m n).flatMap (rowX m)
theorem mem_listsR {m : Nat} : ∀ {n : Nat} {l : List Int}, l ∈ listsR m n ↔ l.length = n ∧ ∀ x ∈ l, -1 ≤ x ∧ x ≤ (m : Int) - 1
  | 0, l => by
    simp only [listsR, List.mem_singleton]
    constructor
    · rintro rfl; exact ⟨rfl, fun x hx => by cases hx⟩
    · rintro ⟨h, _⟩; exact List.eq_nil_of_length_eq_zero h
  | n + 1, l => by
    simp only [listsR, rowX, List.mem_flatMap, List.mem_map, List.mem_range]
    constructor
    · rintro ⟨r, hr, k, hk, rfl⟩
      obtain ⟨h1, h2⟩ := mem_listsR.1 hr
      refine ⟨by simp [h1], fun x hx => ?_⟩
      rcases List.mem_append.1 hx with hx | hx
      · exact h2 x hx
      · simp only [List.mem_singleton] at hx; omega
    · rintro ⟨h1, h2⟩
      have hne : l ≠ [] := fun e => by subst e; simp at h1
      have hlast := h2 _ (List.getLast_mem hne)
      refine ⟨l.dropLast, mem_listsR.2 ⟨by simp [h1], fun x hx => h2 x ((List.dropLast_sublist l).subset hx)⟩, (l.getLast hne + 1).toNat, by omega, ?_⟩
      rw [show (((l.getLast hne + 1).toNat : Nat) : Int) - 1 = l.getLast hne by omega]
      exact List.dropLast_concat_getLast hne
theorem nodup_listsR (m : Nat) : ∀ n : Nat, (listsR m n).Nodup
  | 0 => by simp [listsR]
  | n + 1 => by
    unfold listsR
    have key : ∀ l : List (List Int), l.Nodup → (l.flatMap (rowX m)).Nodup := by
      intro l hl
      induction l with
      | nil => simp
      | cons a l ih =>
        rw [List.nodup_cons] at hl
        rw [List.flatMap_cons, List.nodup_append]
        refine ⟨?_, ih hl.2, ?_⟩
        · unfold rowX List.Nodup
          rw [List.pairwise_map]
          refine List.Pairwise.imp ?_ List.nodup_range
          intro x y hxy e
          have := List.append_cancel_left e
          simp only [List.cons.injEq, and_true] at this
          omega
        · intro x hx y hy e
          subst e
          simp only [rowX, List.mem_map, List.mem_flatMap] at hx hy
          obtain ⟨k, _, rfl⟩ := hx
          obtain ⟨b, hb, j, _, e⟩ := hy
          have := (List.append_inj' e rfl).1
          subst this
          exact hl.1 hb
    exact key _ (nodup_listsR m n)
section
variable {N : Nat}
end
/-! ### Joins without an error -/
theorem getD_01 {l : List Int} {i : Nat} (h : i < l.length) : l.getD i 0 = fnJ l i := by simp [fnJ, List.getD, h]
theorem errJ_mt {n m : Nat} {can : Nat → Nat → Bool} {l : List Int} : errJ 0 n m can l = 0 ↔ l ∈ joinsL can m n 0 0 := by
  rw [mem_joinsL, okJ_mt]
  constructor
  · intro h
    obtain ⟨_, h1, h2, h3, h4⟩ := errJ_fine h
    rw [alI_iff] at h3 h4
    refine ⟨h1, ⟨fun i hi => ?_, fun i j hi hj hij he => ?_⟩, fun k hk => by simp at hk⟩
    · have hx := List.all_eq_true.1 h2 _ (getD_mem (d := 0) hi)
      unfold inm at hx
      rw [decide_eq_true_eq, getD_01 hi] at hx
      have hc := h4 i hi
      unfold cnI at hc
      rw [Bool.or_eq_true, decide_eq_true_eq, getD_01 hi] at hc
      rcases hc with hc | hc
      · exact .inl hc
      · by_cases e : fnJ l i = -1
        · exact .inl e
        · exact .inr ⟨(fnJ l i).toNat, by omega, by omega, hc⟩
    · have key : ∀ i j, i < j → j < l.length → fnJ l i = fnJ l j → fnJ l j = -1 := fun i j hij hj he => by
        have hd := h3 j hj
        unfold dupI at hd
        rw [Bool.or_eq_true, decide_eq_true_eq, getD_01 hj, Bool.not_eq_true', ← Bool.not_eq_true, hasB_iff] at hd
        rcases hd with hd | hd
        · exact hd
        · refine absurd ?_ hd
          rw [← he, ← getD_01 (show i < l.length by omega)]
          exact List.mem_iff_getElem.2 ⟨i, by simp; omega, by simp [List.getD, show i < l.length by omega]⟩
      rcases Nat.lt_or_gt_of_ne hij with h | h
      · rw [he]; exact key i j h hj he
      · exact key j i h hi he.symm
  · rintro ⟨hl, h1, _⟩
    have hb : l.all (inm m) = true := by
      rw [List.all_eq_true]
      intro x hx
      obtain ⟨i, hi, rfl⟩ := List.getElem_of_mem hx
      have e : l[i] = fnJ l i := by simp [fnJ, List.getD, hi]
      unfold inm
      rw [decide_eq_true_eq, e]
      rcases h1.ok i hi with h | ⟨k, h, hk, _⟩ <;> omega
    have hd : alI (dupI l) l.length = true := by
      rw [alI_iff]
      intro j hj
      unfold dupI
      rw [Bool.or_eq_true, decide_eq_true_eq, getD_01 hj, Bool.not_eq_true', ← Bool.not_eq_true, hasB_iff]
      by_cases e : fnJ l j = -1
      · exact .inl e
      · refine .inr fun hm => ?_
        obtain ⟨i, hi, he⟩ := List.getElem_of_mem hm
        simp only [List.length_take] at hi
        have hij : i < j := by omega
        refine e (h1.inj j i hj (by omega) (by omega) ?_)
        rw [← he, ← getD_01 (show i < l.length by omega)]
        simp [List.getD, show i < l.length by omega]
    have hc : alI (cnI can l) l.length = true := by
      rw [alI_iff]
      intro i hi
      unfold cnI
      rw [Bool.or_eq_true, decide_eq_true_eq, getD_01 hi]
      rcases h1.ok i hi with h | ⟨k, h, _, hc⟩
      · exact .inl h
      · right; rw [h, Int.toNat_natCast]; exact hc
    unfold errJ
    rw [if_neg (by simp), if_neg (by omega), hb, hd, hc]
    simp
section
variable {W : List Int} {s : Int} {L F : List (List Int)} {R : List Int} {A B : Nat → Nat → Int} {N : Nat}
/-- All joins. -/
def allR (W : List Int) (s : Int) (L F : List (List Int)) : List (List Int) := (listsR F.length L.length).filter fun l => decide (errJ 0 L.length F.length (canF W s L F) l = 0)
theorem mem_allR {l : List Int} : l ∈ allR W s L F ↔ l ∈ joinsL (canF W s L F) F.length L.length 0 0 := by
  unfold allR
  rw [List.mem_filter, decide_eq_true_eq]
  constructor
  · exact fun h => errJ_mt.1 h.2
  · intro h
    have he := errJ_mt.2 h
    refine ⟨mem_listsR.2 ?_, he⟩
    obtain ⟨_, h1, h2, _⟩ := errJ_fine he
    refine ⟨h1, fun x hx => ?_⟩
    have := List.all_eq_true.1 h2 x hx
    unfold inm at this
    rwa [decide_eq_true_eq] at this
theorem nodup_allR : (allR W s L F).Nodup := List.Pairwise.filter _ (nodup_listsR _ _)
/-- The greatest worth, and in how many ways. -/
def bestV (W : List Int) (s : Int) (L F : List (List Int)) : Int := (rsR (canF W s L F) (agF W L F) F.length L.length 0 0).2.1
def bestN (W : List Int) (s : Int) (L F : List (List Int)) : Int := (rsR (canF W s L F) (agF W L F) F.length L.length 0 0).2.2
/-- All best joins. -/
def bestR (W : List Int) (s : Int) (L F : List (List Int)) : List (List Int) := (allR W s L F).filter fun l => decide (valJ (agF W L F) 0 l = bestV W s L F)
theorem bl_mem {t : Nat → Nat → Int} : blR (canF W s L F) t F.length L.length 0 0 ∈ joinsL (canF W s L F) F.length L.length 0 0 := by
  obtain ⟨q1, q2, _⟩ := bl_best (can := canF W s L F) (t := t) (m := F.length) L.length 0 0
  exact mem_joinsL.2 ⟨q2, q1⟩
theorem bl_val : valJ (agF W L F) 0 (blR (canF W s L F) (agF W L F) F.length L.length 0 0) = bestV W s L F := (bl_best (can := canF W s L F) (t := agF W L F) (m := F.length) L.length 0 0).2.2
theorem bestR_len : ((bestR W s L F).length : Int) = bestN W s L F := by
  have h := (rs_bst (can := canF W s L F) (t := agF W L F) (m := F.length) L.length 0 0).ways
  unfold bestN
  rw [← h]
  unfold bestR
  rw [← List.countP_eq_length_filter]
  congr 1
  exact countP_same nodup_allR (nodup_joinsL _ _ _) (fun x => mem_allR) (fun x _ => rfl)
theorem mem_bestR {l : List Int} : l ∈ bestR W s L F ↔ l ∈ joinsL (canF W s L F) F.length L.length 0 0 ∧ valJ (agF W L F) 0 l = bestV W s L F := by
  unfold bestR
  rw [List.mem_filter, mem_allR, decide_eq_true_eq]
end
end Go.Proofs.Ythncjilcflilcaa

namespace Go.Proofs.Ythncjilcflilcaa
set_option linter.all false
open Go

section
variable {W : List Int} {s : Int} {L F : List (List Int)} {R : List Int} {A B : Nat → Nat → Int} {N : Nat}
/-! ### Rewards -/
/-! ### Prices -/
end
end Go.Proofs.Ythncjilcflilcaa

namespace Go.Proofs.Ythncjilcflilcaa
set_option linter.all false
open Go

section
variable {N : Nat}
end
section
variable {W : List Int} {s : Int} {L F : List (List Int)} {R : List Int} {A B : Nat → Nat → Int} {N : Nat}
end
end Go.Proofs.Ythncjilcflilcaa

namespace Go.Proofs.Ythncjilcflilcaa
set_option linter.all false
open Go

section
variable {W : List Int} {s : Int} {L F : List (List Int)} {R : List Int} {A B : Nat → Nat → Int} {N : Nat}
/-! ### The reference -/
end
end Go.Proofs.Ythncjilcflilcaa

namespace Go.Proofs.Ythncjilcflilcaa
set_option linter.all false
open Go

section
variable {W : List Int} {s : Int} {L F : List (List Int)} {R : List Int} {A B : Nat → Nat → Int} {N : Nat}
theorem bestR_pos : 0 < (bestR W s L F).length := List.length_pos_of_mem (mem_bestR.2 ⟨bl_mem, bl_val⟩)
/-! ### What is spare -/
end
end Go.Proofs.Ythncjilcflilcaa

namespace Go.Proofs.Ythncjilcflilcaa
set_option linter.all false
open Go

section
variable {W : List Int} {s : Int} {L F : List (List Int)} {R : List Int} {N : Nat}
/-- The found things with a value more. -/
def setF (F : List (List Int)) (k t : Nat) (v : Int) : List (List Int) := F.set k ((F.getD k []).set t v)
theorem setF_len (k t : Nat) (v : Int) : (setF F k t v).length = F.length := by simp [setF]
theorem setF_mem {k t : Nat} {v : Int} : ∀ r ∈ setF F k t v, r ∈ F ∨ r = (F.getD k []).set t v := fun r hr => List.mem_or_eq_of_mem_set hr
theorem Fine.setF (h : Fine W s L F R) {k t : Nat} {v : Int} (hk : k < F.length) (hv : 0 ≤ v ∧ v ≤ 5) : Fine W s L (Proofs.Ythncjilcflilcaa.setF F k t v) R := by
  have hm := getD_mem (d := []) hk
  have hl := setF_len (F := F) k t v
  have hf := h.f6
  refine ⟨h.w1, h.w5, h.l6, by omega, h.lw, fun x hx => ?_, h.rl, h.w, h.s, h.r, h.lv, fun r hr x hx => ?_⟩
  · rcases setF_mem x hx with hx | rfl
    · exact h.fw x hx
    · rw [List.length_set]; exact h.fw _ hm
  · rcases setF_mem r hr with hr | rfl
    · exact h.fv r hr x hx
    · rcases List.mem_or_eq_of_mem_set hx with hx | rfl
      · exact h.fv _ hm x hx
      · omega
theorem clone_v {l : List Int} (hl : l.length ≤ 1000000) : clone_S N l = some l := by
  unfold clone_S
  rw [lim_eq hl]
theorem copied {α : Type} (l : List α) (d : α) : l.take (min l.length (List.replicate (l.length : Int).toNat d).length) ++ (List.replicate (l.length : Int).toNat d).drop (min l.length (List.replicate (l.length : Int).toNat d).length) = l := by simp
theorem known_v (h : Fine W s L F R) {k t : Nat} (hk : k < F.length) (ht : t < W.length) (v : Int) : known_S N W s L F R k t v = some (W, s, L, setF F k t v, R) := by
  have h1 := h.w1; have h2 := h.w5; have h3 := h.l6; have h4 := h.f6; have h5 := h.rl
  have hr := h.fw _ (getD_mem (d := []) hk)
  have hne : ∀ r : List Int, r.length = W.length → r ≠ [] ∧ r.length ≤ 1000000 := fun r e => ⟨fun e2 => by subst e2; simp at e; omega, by omega⟩
  unfold known_S
  rw [clone_v (by omega)]
  simp only [Option.bind_some]
  rw [grd_eq (lmI_iff.2 (by omega)), grd_eq (lmI_iff.2 (by omega)), clone_v (by omega)]
  simp only [Option.bind_some]
  rw [copied, copied]
  unfold known_j1 known_j2
  rw [if_pos ⟨⟨by omega, by omega, by simp only [Int.toNat_natCast]; omega⟩, fun r hr => hne r (h.lw r hr), fun r hr => hne r (h.fw r hr)⟩]
  simp only [Int.toNat_natCast]
  rfl
theorem with_v (hN : 110 ≤ N) (h : Sm W L F R) (a t v : Int) : with__S N W s L F R a t v = some (if errD W s L F R = 0 then if ¬ (0 ≤ a ∧ a ≤ (F.length : Int) - 1) then ([], 0, [], [], [], 1) else if ¬ (0 ≤ t ∧ t ≤ (W.length : Int) - 1) then ([], 0, [], [], [], 1) else
    if ¬ (F.getD a.toNat []).getD t.toNat 0 = -1 then ([], 0, [], [], [], 5) else if ¬ (0 ≤ v ∧ v ≤ 5) then ([], 0, [], [], [], 3) else (W, s, L, setF F a.toNat t.toNat v, R, 0) else ([], 0, [], [], [], errD W s L F R)) := by
  unfold with__S
  rw [opened_v hN h]
  by_cases c : errD W s L F R = 0
  rotate_left
  · rw [if_neg c, if_neg c]
    simp only [Option.bind_some]
    rw [br_nnd c]
  have hF := errD_iff.1 c
  have h1 := hF.w1; have h2 := hF.w5; have h4 := hF.f6
  rw [if_pos c, if_pos c]
  simp only [Option.bind_some]
  rw [br_nd (by first | trivial | rfl)]
  unfold dkO
  rw [dfound_v (by omega)]
  simp only [Option.bind_some]
  by_cases c1 : 0 ≤ a ∧ a ≤ (F.length : Int) - 1
  rotate_left
  · rw [br_nnd c1, if_pos c1]
  rw [br_nd c1, if_neg (not_not_intro c1), chk_eq (by omega), in_v]
  simp only [Option.bind_some]
  by_cases c2 : 0 ≤ t ∧ t ≤ (W.length : Int) - 1
  rotate_left
  · rw [br_nnd c2, if_pos c2]
  rw [br_nd c2, if_neg (not_not_intro c2)]
  obtain ⟨k, rfl⟩ : ∃ k : Nat, a = k := ⟨a.toNat, (Int.toNat_of_nonneg c1.1).symm⟩
  obtain ⟨t, rfl⟩ : ∃ k : Nat, t = k := ⟨t.toNat, (Int.toNat_of_nonneg c2.1).symm⟩
  have hk : k < F.length := by omega
  have ht : t < W.length := by omega
  have hr := hF.fw _ (getD_mem (d := []) hk)
  simp only [Int.toNat_natCast]
  rw [idx_eq (by omega) (gets hk []), idx_eq (by omega) (gets (by omega) 0)]
  by_cases c3 : (F.getD k []).getD t 0 = -1
  rotate_left
  · rw [br_nnd c3, if_pos c3]
  rw [br_nd c3, if_neg (not_not_intro c3), in_v]
  simp only [Option.bind_some]
  by_cases c4 : 0 ≤ v ∧ v ≤ 5
  rotate_left
  · rw [br_nnd c4, if_pos c4]
  rw [br_nd c4, if_neg (not_not_intro c4), known_v hF hk ht]
  rfl
/-- The greatest of some numbers. -/
def maxN (f : Nat → Int) : Nat → Int
  | 0 => 0
  | n + 1 => max (maxN f n) (f n)
theorem maxN_le {f : Nat → Int} : ∀ {n i : Nat}, i < n → f i ≤ maxN f n
  | 0, i, h => by omega
  | n + 1, i, h => by
    unfold maxN
    by_cases e : i = n
    · subst e; omega
    · have := maxN_le (f := f) (n := n) (i := i) (by omega); omega
/-- How many ways there are to join best, with a value more; at most, whatever it is. -/
def wK (W : List Int) (s : Int) (L F : List (List Int)) (k t : Nat) (v : Nat) : Int := bestN W s L (setF F k t v)
def mK (W : List Int) (s : Int) (L F : List (List Int)) (k t : Nat) : Int := maxN (wK W s L F k t) 6
theorem bestN_pos : 0 < bestN W s L F := by rw [← bestR_len]; have := bestR_pos (W := W) (s := s) (L := L) (F := F); omega
theorem mK_pos {k t : Nat} : 0 < mK W s L F k t := by
  have := maxN_le (f := wK W s L F k t) (n := 6) (i := 0) (by omega)
  have h2 : 0 < wK W s L F k t 0 := bestN_pos
  unfold mK; omega
/-- A trait that isn't known. -/
def opn (F : List (List Int)) (k t : Nat) : Prop := k < F.length ∧ t < (F.getD k []).length ∧ (F.getD k []).getD t 0 = -1
def lexL (k t k2 t2 : Nat) : Prop := k < k2 ∨ (k = k2 ∧ t < t2)
/-- What is told of the traits ahead of one. -/
def AskI (W : List Int) (s : Int) (L F : List (List Int)) (k0 t0 : Nat) (fo tr mo : Int) : Prop :=
  (fo = 0 ∧ tr = 0 ∧ mo = 0 ∧ ∀ k t, opn F k t → ¬ lexL k t k0 t0) ∨
  (∃ f r : Nat, fo = f ∧ tr = r ∧ opn F f r ∧ lexL f r k0 t0 ∧ mo = mK W s L F f r ∧ ∀ k t, opn F k t → lexL k t k0 t0 → mo ≤ mK W s L F k t ∧ (mK W s L F k t = mo → ¬ lexL k t f r))
theorem AskI.row {k t : Nat} {fo tr mo : Int} (h : AskI W s L F k t fo tr mo) (ht : (F.getD k []).length ≤ t) : AskI W s L F (k + 1) 0 fo tr mo := by
  have key : ∀ a b, opn F a b → lexL a b (k + 1) 0 → lexL a b k t := fun a b h1 h2 => by
    rcases h2 with h2 | ⟨rfl, h2⟩
    · by_cases e : a = k
      · subst e; exact .inr ⟨rfl, by have := h1.2.1; omega⟩
      · exact .inl (by omega)
    · omega
  rcases h with ⟨h1, h2, h3, h4⟩ | ⟨f, r, h1, h2, h3, h4, h5, h6⟩
  · exact .inl ⟨h1, h2, h3, fun a b ha hb => h4 a b ha (key a b ha hb)⟩
  · exact .inr ⟨f, r, h1, h2, h3, .inl (by rcases h4 with h | h <;> omega), h5, fun a b ha hb => h6 a b ha (key a b ha hb)⟩
theorem AskI.take {k t : Nat} {fo tr mo : Int} (h : AskI W s L F k t fo tr mo) (ho : opn F k t) (hm : mo = 0 ∨ mK W s L F k t < mo) : AskI W s L F k (t + 1) k t (mK W s L F k t) := by
  refine .inr ⟨k, t, rfl, rfl, ho, .inr ⟨rfl, by omega⟩, rfl, fun a b ha hb => ?_⟩
  have hq := mK_pos (W := W) (s := s) (L := L) (F := F) (k := k) (t := t)
  by_cases e : lexL a b k t
  · rcases h with ⟨h1, h2, h3, h4⟩ | ⟨f, r, h1, h2, h3, h4, h5, h6⟩
    · exact absurd e (h4 a b ha)
    · have h7 := h6 a b ha e
      have h8 := mK_pos (W := W) (s := s) (L := L) (F := F) (k := f) (t := r)
      exact ⟨by omega, fun e2 => by omega⟩
  · have : a = k ∧ b = t := by
      rcases hb with hb | ⟨rfl, hb⟩
      · exact absurd (.inl hb) e
      · refine ⟨rfl, ?_⟩
        by_cases e2 : b = t
        · exact e2
        · exact absurd (.inr ⟨rfl, by omega⟩) e
    obtain ⟨rfl, rfl⟩ := this
    exact ⟨Int.le_refl _, fun _ => e⟩
/-- What should be asked for. -/
def AskR (W : List Int) (s : Int) (L F : List (List Int)) (r : Int × Int × Int × Int) : Prop :=
  (r = (0, 0, 0, 6) ∧ ∀ k t, ¬ opn F k t) ∨
  (∃ f t : Nat, r = (↑f, ↑t, mK W s L F f t, 0) ∧ opn F f t ∧ ∀ k x, opn F k x → mK W s L F f t ≤ mK W s L F k x ∧ (mK W s L F k x = mK W s L F f t → ¬ lexL k x f t))
theorem AskR.eq {r q : Int × Int × Int × Int} (h : AskR W s L F r) (h2 : AskR W s L F q) : r = q := by
  rcases h with ⟨rfl, h⟩ | ⟨f, t, rfl, ho, hm⟩
  · rcases h2 with ⟨rfl, _⟩ | ⟨f2, t2, rfl, ho2, _⟩
    · rfl
    · exact absurd ho2 (h _ _)
  · rcases h2 with ⟨rfl, h2⟩ | ⟨f2, t2, rfl, ho2, hm2⟩
    · exact absurd ho (h2 _ _)
    · have a := hm _ _ ho2
      have b := hm2 _ _ ho
      have e : mK W s L F f t = mK W s L F f2 t2 := by omega
      have a2 := a.2 e.symm
      have b2 := b.2 e
      have : f = f2 ∧ t = t2 := by unfold lexL at a2 b2; omega
      obtain ⟨rfl, rfl⟩ := this
      rfl
end
end Go.Proofs.Ythncjilcflilcaa

namespace Go.Proofs.Ythncjilcflilcaa
set_option linter.all false
open Go
theorem awake_v : awake_S 1100 = some true := by kernel_rfl
end Go.Proofs.Ythncjilcflilcaa

namespace Go.Proofs.Ythncjilcflilcaa
set_option linter.all false
open Go

section
variable {W : List Int} {s : Int} {L F : List (List Int)} {R : List Int} {N : Nat}
theorem rwith_v (hN : 110 ≤ N) (h : Sm W L F R) (a t v : Int) : rwith_S N W s L F R a t v = some (if errD W s L F R = 0 then if ¬ (0 ≤ a ∧ a ≤ (F.length : Int) - 1) then ([], 0, [], [], [], 1) else if ¬ (0 ≤ t ∧ t ≤ (W.length : Int) - 1) then ([], 0, [], [], [], 1) else
    if ¬ (F.getD a.toNat []).getD t.toNat 0 = -1 then ([], 0, [], [], [], 5) else if ¬ (0 ≤ v ∧ v ≤ 5) then ([], 0, [], [], [], 3) else (W, s, L, setF F a.toNat t.toNat v, R, 0) else ([], 0, [], [], [], errD W s L F R)) := by
  unfold rwith_S
  rw [rcheck_v hN h]
  simp only [Option.bind_some]
  by_cases c : errD W s L F R = 0
  rotate_left
  · rw [if_neg c, br_nnd c]
  have hF := errD_iff.1 c
  have h1 := hF.w1; have h2 := hF.w5; have h4 := hF.f6
  rw [if_pos c, br_nd c, chk_eq (by omega), off_v]
  simp only [Option.bind_some]
  by_cases c1 : 0 ≤ a ∧ a ≤ (F.length : Int) - 1
  rotate_left
  · rw [br_nnd c1, if_pos c1]
  rw [br_nd c1, if_neg (not_not_intro c1), chk_eq (by omega), off_v]
  simp only [Option.bind_some]
  by_cases c2 : 0 ≤ t ∧ t ≤ (W.length : Int) - 1
  rotate_left
  · rw [br_nnd c2, if_pos c2]
  rw [br_nd c2, if_neg (not_not_intro c2)]
  obtain ⟨k, rfl⟩ : ∃ k : Nat, a = k := ⟨a.toNat, (Int.toNat_of_nonneg c1.1).symm⟩
  obtain ⟨t, rfl⟩ : ∃ k : Nat, t = k := ⟨t.toNat, (Int.toNat_of_nonneg c2.1).symm⟩
  have hk : k < F.length := by omega
  have ht : t < W.length := by omega
  have hm := getD_mem (d := []) hk
  have hr := hF.fw _ hm
  have hv := hF.fv _ hm _ (getD_mem (d := 0) (show t < (F.getD k []).length by omega))
  simp only [Int.toNat_natCast]
  rw [idx_eq (by omega) (gets hk []), idx_eq (by omega) (gets (by omega) 0)]
  by_cases c3 : (F.getD k []).getD t 0 = -1
  rotate_left
  · rw [br_dec (by omega), if_pos c3]
  rw [br_ndec (by omega), if_neg (not_not_intro c3), off_v]
  simp only [Option.bind_some]
  by_cases c4 : 0 ≤ v ∧ v ≤ 5
  rotate_left
  · rw [br_nnd c4, if_pos c4]
  have hne : ∀ r : List Int, r.length = W.length → r ≠ [] ∧ r.length ≤ 1000000 := fun r e => ⟨fun e2 => by subst e2; simp at e; omega, by omega⟩
  rw [br_nd c4, if_neg (not_not_intro c4)]
  unfold rwith_j1 rwith_j2
  rw [if_pos ⟨⟨by omega, by omega, by simp only [Int.toNat_natCast]; omega⟩, by omega, fun r hr => hne r (hF.fw r hr)⟩]
  simp only [Int.toNat_natCast]
  rfl
end
end Go.Proofs.Ythncjilcflilcaa

namespace Go.Proofs.Ythncjilcflilcaa
set_option linter.all false
open Go

section
variable {W : List Int} {s : Int} {L F : List (List Int)} {R : List Int} {N : Nat}
theorem clonew_v {l : List Int} (hl : l.length ≤ 1000000) : clonew_S N l = some l := by
  unfold clonew_S
  rw [lim_eq hl]
theorem knownp_v (h : Fine W s L F R) (f t v : Int) : knownp_S N W s L F R f t v = some (f, t, v, 0, s, W, L, F, R) := by
  have h1 := h.w1; have h2 := h.w5; have h3 := h.l6; have h4 := h.f6; have h5 := h.rl
  unfold knownp_S
  rw [clonew_v (by omega)]
  simp only [Option.bind_some]
  rw [grd_eq (lmI_iff.2 (by omega)), grd_eq (lmI_iff.2 (by omega)), clonew_v (by omega)]
  simp only [Option.bind_some]
  rw [copied, copied]
  rfl
theorem withp_v (hN : 110 ≤ N) (h : Fine W s L F R) {k t : Nat} {v : Int} (hk : k < F.length) (ht : t < W.length) (c3 : (F.getD k []).getD t 0 = -1) (c4 : 0 ≤ v ∧ v ≤ 5) : withp_S N W s L F R k t v = some ((k : Int), (t : Int), v, W, s, L, F, R, 0) := by
  unfold withp_S
  have h1 := h.w1; have h2 := h.w5; have h4 := h.f6
  have hr := h.fw _ (getD_mem (d := []) hk)
  rw [opened_f hN h]
  simp only [Option.bind_some]
  rw [br_nd (by first | trivial | rfl)]
  unfold dkO
  rw [dfound_v (by omega)]
  simp only [Option.bind_some]
  rw [br_nd (by omega), chk_eq (by omega), in_v]
  simp only [Option.bind_some]
  rw [br_nd (by omega), idx_eq (by omega) (gets hk []), idx_eq (by omega) (gets (by omega) 0), br_nd c3, in_v]
  simp only [Option.bind_some]
  rw [br_nd c4]
  rfl
theorem fw_ok (hN : 110 ≤ N) (h : Sm W L F R) (f t v : Int) : ∃ r, with__S N W s L F R f t v = some r ∧ rwith_S N W s L F R f t v = some r ∧ same_S N r.1 r.2.1 r.2.2.1 r.2.2.2.1 r.2.2.2.2.1 r.1 r.2.1 r.2.2.1 r.2.2.2.1 r.2.2.2.2.1 = some true ∧ fwOK N W s L F R f t v r := by
  have zero : ∀ e : Int, same_S N ([] : List Int) 0 ([] : List (List Int)) ([] : List (List Int)) ([] : List Int) [] 0 [] [] [] = some true := fun _ => same_v hN ⟨by simp, by simp, by simp, by simp, fun _ h => (by cases h), fun _ h => (by cases h)⟩
  rw [with_v hN h, rwith_v hN h]
  by_cases c : errD W s L F R = 0
  rotate_left
  · rw [if_neg c]
    exact ⟨_, rfl, rfl, zero 0, .inl ⟨rfl, rfl, rfl, rfl, rfl⟩⟩
  have hF := errD_iff.1 c
  have h1 := hF.w1; have h2 := hF.w5; have h4 := hF.f6; have h3 := hF.l6
  rw [if_pos c]
  by_cases c1 : 0 ≤ f ∧ f ≤ (F.length : Int) - 1
  rotate_left
  · rw [if_pos c1]
    exact ⟨_, rfl, rfl, zero 0, .inl ⟨rfl, rfl, rfl, rfl, rfl⟩⟩
  rw [if_neg (not_not_intro c1)]
  by_cases c2 : 0 ≤ t ∧ t ≤ (W.length : Int) - 1
  rotate_left
  · rw [if_pos c2]
    exact ⟨_, rfl, rfl, zero 0, .inl ⟨rfl, rfl, rfl, rfl, rfl⟩⟩
  rw [if_neg (not_not_intro c2)]
  obtain ⟨k, rfl⟩ : ∃ k : Nat, f = k := ⟨f.toNat, (Int.toNat_of_nonneg c1.1).symm⟩
  obtain ⟨u, rfl⟩ : ∃ k : Nat, t = k := ⟨t.toNat, (Int.toNat_of_nonneg c2.1).symm⟩
  have hk : k < F.length := by omega
  have ht : u < W.length := by omega
  have hr := hF.fw _ (getD_mem (d := []) hk)
  have hne : ∀ r : List Int, r.length = W.length → r ≠ [] ∧ r.length ≤ 1000000 := fun r e => ⟨fun e2 => by subst e2; simp at e; omega, by omega⟩
  simp only [Int.toNat_natCast]
  by_cases c3 : (F.getD k []).getD u 0 = -1
  rotate_left
  · rw [if_pos c3]
    exact ⟨_, rfl, rfl, zero 0, .inl ⟨rfl, rfl, rfl, rfl, rfl⟩⟩
  rw [if_neg (not_not_intro c3)]
  by_cases c4 : 0 ≤ v ∧ v ≤ 5
  rotate_left
  · rw [if_pos c4]
    exact ⟨_, rfl, rfl, zero 0, .inl ⟨rfl, rfl, rfl, rfl, rfl⟩⟩
  rw [if_neg (not_not_intro c4)]
  have hF2 : Fine W s L (setF F k u v) R := hF.setF hk c4
  exact ⟨_, rfl, rfl, same_v hN hF2.sm, .inr ⟨k, u, rfl, rfl, rfl, withp_v hN hF hk ht c3 c4, knownp_v hF _ _ _, fun r hr => hne r (hF.lw r hr), fun r hr => hne r (hF.fw r hr), hk, by omega⟩⟩
end
theorem fwith_true {W : List Int} {s : Int} {L F : List (List Int)} {R : List Int} {f t v : Int} (_ : Ty.inB (.pair (.sl (.int .i64)) (.pair (.int .i64) (.pair (.sl (.sl (.int .i64))) (.pair (.sl (.sl (.int .i64))) (.sl (.int .i64)))))) (W, s, L, F, R)) (_ : Ty.inB (.int .i64) f) (_ : Ty.inB (.int .i64) t) (_ : Ty.inB (.int .i64) v) : fwith_S 1100 W s L F R f t v = some true := by
  have aw : ((awake_S 1100).bind fun x => some x) = some true := by rw [awake_v]; rfl
  unfold fwith_S
  rcases great_v (N := 1100) (W := W) (s := s) (L := L) (F := F) (R := R) (by omega) with e | ⟨e, hs⟩
  · rw [e]
    simp only [Option.bind_some]
    rw [br_true]; exact aw
  rw [e]
  simp only [Option.bind_some]
  rw [br_false, copyd_v (by omega) hs]
  simp only [Option.bind_some]
  obtain ⟨r, h1, h2, h3, h4⟩ := fw_ok (N := 1100) (s := s) (by omega) hs f t v
  unfold fwith_j1
  rw [h1, h2]
  simp only [Option.bind_some]
  rw [if_pos ⟨rfl, h3, h4⟩]
  unfold fwith_j2
  rw [same_v (by omega) hs]
  simp only [Option.bind_some]
  rw [br_true]; exact aw
end Go.Proofs.Ythncjilcflilcaa

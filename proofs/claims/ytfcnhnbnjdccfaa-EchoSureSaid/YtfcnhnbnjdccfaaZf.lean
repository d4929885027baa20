/-
  Parts of a proof, put together: Pl4, Pl5, Pl6, Pl7, Pl8, Pl9, Pl10, Pl11, E4, Pl12, InB, Pl13, Pl14, Pl15, E6, Pl19, Pl20, Pl21, Pl22.
  Conditions: none.
-/
import Derived.Test.YtfcnhnbnjdccfaaZa
import Derived.Test.YtfcnhnbnjdccfaaZe
namespace Go.Proofs.Ytfcnhnbnjdccfaa
set_option linter.all false
open Go

/-! ### The most words that can be told behind a place, and in how many ways -/
def wT (side w : Int) : Int := if 0 ≤ w ∧ side ≠ 3 then w + 1 else w
theorem wT_bnd {side w n : Int} (h : -1 ≤ w ∧ w ≤ n) : -1 ≤ wT side w ∧ wT side w ≤ n + 1 := by unfold wT; split <;> omega
def stepT (may : Nat → Int × Int → Bool) (h : Nat) (t : At3 → Int × Int) (best : Int × Int) (m : Mv) : Int × Int :=
  if may h m.1 = true then (if best.1 < wT m.1.1 (t m.2).1 then (wT m.1.1 (t m.2).1, (t m.2).2) else if wT m.1.1 (t m.2).1 = best.1 then (best.1, best.2 + (t m.2).2) else best) else best
def tvx (may : Nat → Int × Int → Bool) (H A B : List Int) : Nat → At3 → Int × Int
  | 0, _ => (0, 1)
  | n + 1, x => (movesL A B (H.getD x.1 0) x).foldl (stepT may x.1 (tvx may H A B n)) (-1, 0)
def tv (may : Nat → Int × Int → Bool) (H A B : List Int) (x : At3) : Int × Int := tvx may H A B (H.length - x.1) x
theorem standsL_len (l : List Int) (w : Int) (k : Nat) : (standsL l w k).length ≤ l.length := by
  unfold standsL
  have := List.length_filter_le (fun j => l.getD j 0 == w) (List.range' k (l.length - k))
  rw [List.length_range'] at this
  omega
theorem movesL_len (A B : List Int) (w : Int) (x : At3) : (movesL A B w x).length ≤ 1 + A.length + B.length := by
  simp only [movesL, List.length_cons, List.length_append, List.length_map]
  have := standsL_len A w x.2.1
  have := standsL_len B w x.2.2
  omega
theorem movesL_ok {A B : List Int} {w : Int} {x : At3} (ha : x.2.1 ≤ A.length) (hb : x.2.2 ≤ B.length) {m : Mv} (h : m ∈ movesL A B w x) : m.2.1 = x.1 + 1 ∧ m.2.2.1 ≤ A.length ∧ m.2.2.2 ≤ B.length := by
  simp only [movesL, List.mem_cons, List.mem_append, List.mem_map] at h
  rcases h with rfl | ⟨j, hj, rfl⟩ | ⟨j, hj, rfl⟩
  · exact ⟨rfl, ha, hb⟩
  · have := mem_standsL.1 hj; exact ⟨rfl, by dsimp only; omega, hb⟩
  · have := mem_standsL.1 hj; exact ⟨rfl, ha, by dsimp only; omega⟩
/-- How great they can be. -/
def Bnd13 (n : Nat) (v : Int × Int) : Prop := -1 ≤ v.1 ∧ v.1 ≤ n ∧ 0 ≤ v.2 ∧ v.2 ≤ ((13 ^ n : Nat) : Int)
def Bst (n c : Nat) (v : Int × Int) : Prop := -1 ≤ v.1 ∧ v.1 ≤ ((n + 1 : Nat) : Int) ∧ 0 ≤ v.2 ∧ v.2 ≤ ((c * 13 ^ n : Nat) : Int)
theorem stepT_bnd {may : Nat → Int × Int → Bool} {h n c : Nat} {t : At3 → Int × Int} {m : Mv} {best : Int × Int} (ht : Bnd13 n (t m.2)) (hb : Bst n c best) : Bst n (c + 1) (stepT may h t best m) := by
  obtain ⟨h1, h2, h3, h4⟩ := ht
  obtain ⟨b1, b2, b3, b4⟩ := hb
  have e : (((c + 1) * 13 ^ n : Nat) : Int) = ((c * 13 ^ n : Nat) : Int) + ((13 ^ n : Nat) : Int) := by rw [Nat.succ_mul]; simp
  have p1 : (0 : Int) ≤ ((c * 13 ^ n : Nat) : Int) := Int.natCast_nonneg _
  unfold Bst
  rw [e]
  have hw := wT_bnd (side := m.1.1) ⟨h1, h2⟩
  unfold stepT
  generalize ((c * 13 ^ n : Nat) : Int) = P at *
  generalize ((13 ^ n : Nat) : Int) = R at *
  generalize wT m.1.1 (t m.2).1 = W at *
  by_cases c1 : may h m.1 = true
  · rw [if_pos c1]
    by_cases c2 : best.1 < W
    · rw [if_pos c2]; exact ⟨hw.1, by dsimp only; omega, h3, by dsimp only; omega⟩
    · rw [if_neg c2]
      by_cases c3 : W = best.1
      · rw [if_pos c3]; exact ⟨b1, b2, by dsimp only; omega, by dsimp only; omega⟩
      · rw [if_neg c3]; exact ⟨b1, b2, b3, by omega⟩
  · rw [if_neg c1]; exact ⟨b1, b2, b3, by omega⟩
theorem fold_bnd {may : Nat → Int × Int → Bool} {h n : Nat} {t : At3 → Int × Int} (ht : ∀ y, Bnd13 n (t y)) : ∀ (ms : List Mv) (c : Nat) (best : Int × Int), Bst n c best → Bst n (c + ms.length) (ms.foldl (stepT may h t) best)
  | [], c, best, hb => hb
  | m :: ms, c, best, hb => by
    have := fold_bnd (may := may) (h := h) ht ms (c + 1) _ (stepT_bnd (may := may) (h := h) (m := m) (ht m.2) hb)
    rw [List.length_cons, show c + (ms.length + 1) = c + 1 + ms.length by omega]
    exact this
theorem tvx_bnd (may : Nat → Int × Int → Bool) {H A B : List Int} (hA : A.length ≤ 6) (hB : B.length ≤ 6) : ∀ (n : Nat) (x : At3), Bnd13 n (tvx may H A B n x)
  | 0, x => by simp [tvx, Bnd13]
  | n + 1, x => by
    have := fold_bnd (may := may) (h := x.1) (t := tvx may H A B n) (tvx_bnd may hA hB n) (movesL A B (H.getD x.1 0) x) 0 (-1, 0) (by refine ⟨?_, ?_, ?_, ?_⟩ <;> simp; omega)
    simp only [Nat.zero_add] at this
    obtain ⟨h1, h2, h3, h4⟩ := this
    refine ⟨h1, h2, h3, Int.le_trans h4 ?_⟩
    have := movesL_len A B (H.getD x.1 0) x
    have h5 : (movesL A B (H.getD x.1 0) x).length * 13 ^ n ≤ 13 * 13 ^ n := Nat.mul_le_mul_right _ (by omega)
    rw [Nat.pow_succ, Nat.mul_comm (13 ^ n) 13]
    exact Int.ofNat_le.2 h5
theorem pow13 {n : Nat} (h : n ≤ 10) : 13 ^ n ≤ 137858491849 := Nat.le_trans (Nat.pow_le_pow_right (by decide) h) (by decide)

/-! ### The memory -/
abbrev Memo := List ((Int × (Int × Int)) × (Int × Int))
abbrev Desk := (List (List Int)) × ((List Int) × (Int × ((List Int) × (List Int))))
def MapOK (may : Nat → Int × Int → Bool) (H A B : List Int) (m : Memo) : Prop := ∀ e ∈ m, ∃ x : At3, e = ((((x.1 : Nat) : Int), ((x.2.1 : Nat) : Int), ((x.2.2 : Nat) : Int)), tv may H A B x)
theorem MapOK.nil (may : Nat → Int × Int → Bool) (H A B : List Int) : MapOK may H A B [] := fun _ h => by cases h
theorem MapOK.cons {may : Nat → Int × Int → Bool} {H A B : List Int} {m : Memo} (h : MapOK may H A B m) (x : At3) : MapOK may H A B (((((x.1 : Nat) : Int), ((x.2.1 : Nat) : Int), ((x.2.2 : Nat) : Int)), tv may H A B x) :: m) := fun e he => by
  rcases List.mem_cons.1 he with rfl | he
  · exact ⟨x, rfl⟩
  · exact h e he
theorem MapOK.find {may : Nat → Int × Int → Bool} {H A B : List Int} {m : Memo} (h : MapOK may H A B m) (x : At3) {e : (Int × (Int × Int)) × (Int × Int)} (he : m.find? (fun y => Ty.beq (.pair (.int .i64) (.pair (.int .i64) (.int .i64))) y.1 (((x.1 : Nat) : Int), ((x.2.1 : Nat) : Int), ((x.2.2 : Nat) : Int))) = some e) : e.2 = tv may H A B x := by
  obtain ⟨y, rfl⟩ := h e (List.mem_of_find?_eq_some he)
  have := List.find?_some he
  have := (beq_iff_ (y := .pair (.int .i64) (.pair (.int .i64) (.int .i64))) rfl).1 this
  simp only [Prod.mk.injEq] at this
  have e : y = x := by
    obtain ⟨a, b, c⟩ := x
    obtain ⟨a', b', c'⟩ := y
    dsimp only at this
    simp only [Prod.mk.injEq]; omega
  rw [e]
end Go.Proofs.Ytfcnhnbnjdccfaa

namespace Go.Proofs.Ytfcnhnbnjdccfaa
set_option linter.all false
open Go

def mayA : Nat → Int × Int → Bool := fun _ _ => true
section
variable {N : Nat} {T : List (List Int)} {H A B : List Int} {f : Int}
theorem resta_l1_p {self : Int → Int → Int → Desk → Desk → Memo → Option (Int × Int × Desk × Memo)} {h n : Nat} (hH : n ≤ 9) (hA : A.length ≤ 6) (hB : B.length ≤ 6) {u : Int × Int × Int} {u2 : Desk} {x x2 x3 g3 g4 : Int}
    (hself : ∀ (y : At3) (m : Memo), y.1 = h + 1 → y.2.1 ≤ A.length → y.2.2 ≤ B.length → MapOK mayA H A B m → ∃ m', self y.1 y.2.1 y.2.2 (T, H, f, A, B) (T, H, f, A, B) m = some ((tvx mayA H A B n y).1, (tvx mayA H A B n y).2, (T, H, f, A, B), m') ∧ MapOK mayA H A B m') :
    ∀ (ms : List Mv) (m : Memo) (c : Nat) (best : Int × Int), (∀ mv ∈ ms, mv.2.1 = h + 1 ∧ mv.2.2.1 ≤ A.length ∧ mv.2.2.2 ≤ B.length) → MapOK mayA H A B m → Bst n c best → c + ms.length ≤ 13 →
      ∃ m', resta_l1 N self (ms.map movP) u u2 (T, H, f, A, B) m x x2 x3 g3 g4 best.1 best.2 = some ((T, H, f, A, B), m', x, x2, x3, g3, g4, (ms.foldl (stepT mayA h (tvx mayA H A B n)) best).1, (ms.foldl (stepT mayA h (tvx mayA H A B n)) best).2) ∧ MapOK mayA H A B m'
  | [], m, c, best, _, hm, _, _ => ⟨m, rfl, hm⟩
  | mv :: ms, m, c, best, hv, hm, hb, hc => by
    obtain ⟨hv1, hv2, hv3⟩ := hv mv (by simp)
    obtain ⟨m1, he, hm1⟩ := hself mv.2 m hv1 hv2 hv3 hm
    have ht := tvx_bnd mayA (H := H) hA hB n mv.2
    have hb' := stepT_bnd (may := mayA) (h := h) (t := tvx mayA H A B n) (m := mv) ht hb
    obtain ⟨m2, h2, hm2⟩ := resta_l1_p (u := u) (u2 := u2) (x := x) (x2 := x2) (x3 := x3) (g3 := g3) (g4 := g4) hH hA hB hself ms m1 (c + 1) _ (fun v hv' => hv v (by simp [hv'])) hm1 hb' (by simp only [List.length_cons] at hc; omega)
    refine ⟨m2, ?_, hm2⟩
    rw [List.map_cons, List.foldl_cons, ← h2]
    have hp := pow13 (n := n) (by omega)
    have hbb : (((c + 1) * 13 ^ n : Nat) : Int) ≤ 13 * 137858491849 := by
      have : (c + 1) * 13 ^ n ≤ 13 * 137858491849 := Nat.mul_le_mul (by simp only [List.length_cons] at hc; omega) hp
      omega
    have hb2 : best.2 + (tvx mayA H A B n mv.2).2 ≤ 13 * 137858491849 := by
      have e : (((c + 1) * 13 ^ n : Nat) : Int) = ((c * 13 ^ n : Nat) : Int) + ((13 ^ n : Nat) : Int) := by rw [Nat.succ_mul]; simp
      have := hb.2.2.2
      have := ht.2.2.2
      omega
    have h0 := hb.2.2.1
    have h1 := ht.2.2.1
    have hn1 := ht.1
    have hn2 := ht.2.1
    simp only [resta_l1, resta_l1_b, movP, all1_S, Option.bind_some, Bool.not_true, br_false]
    rw [he]
    have hst : stepT mayA h (tvx mayA H A B n) best mv = (if best.1 < wT mv.1.1 (tvx mayA H A B n mv.2).1 then (wT mv.1.1 (tvx mayA H A B n mv.2).1, (tvx mayA H A B n mv.2).2) else if wT mv.1.1 (tvx mayA H A B n mv.2).1 = best.1 then (best.1, best.2 + (tvx mayA H A B n mv.2).2) else best) := by
      unfold stepT; exact if_pos rfl
    rw [hst]
    simp only [Option.bind_some, wT]
    clear hst h2 he hb' hself
    generalize tvx mayA H A B n mv.2 = t at *
    obtain ⟨tw, ty⟩ := t
    obtain ⟨bw, by_⟩ := best
    simp only at *
    by_cases c1 : 0 ≤ tw
    · rw [br_dec c1]
      by_cases c2 : mv.1.1 = 3
      · refine (br_nd c2).trans ?_
        have c2' : ¬ (0 ≤ tw ∧ mv.1.1 ≠ 3) := fun h => h.2 c2
        rw [if_neg c2']
        by_cases c3 : bw < tw
        · rw [br_dec c3, if_pos c3]
        · rw [br_ndec c3, if_neg c3]
          by_cases c4 : tw = bw
          · rw [br_dec c4, if_pos c4, chk_eq (by omega)]
          · rw [br_ndec c4, if_neg c4]
      · refine (br_nnd c2).trans ?_
        have c2' : 0 ≤ tw ∧ mv.1.1 ≠ 3 := ⟨c1, c2⟩
        rw [chk_eq (by omega), if_pos c2']
        by_cases c3 : bw < tw + 1
        · rw [br_dec c3, if_pos c3]
        · rw [br_ndec c3, if_neg c3]
          by_cases c4 : tw + 1 = bw
          · rw [br_dec c4, if_pos c4, chk_eq (by omega)]
          · rw [br_ndec c4, if_neg c4]
    · have c2' : ¬ (0 ≤ tw ∧ mv.1.1 ≠ 3) := fun h => c1 h.1
      rw [br_ndec c1, if_neg c2']
      by_cases c3 : bw < tw
      · rw [br_dec c3, if_pos c3]
      · rw [br_ndec c3, if_neg c3]
        by_cases c4 : tw = bw
        · rw [br_dec c4, if_pos c4, chk_eq (by omega)]
        · rw [br_ndec c4, if_neg c4]
theorem resta_R_p (hH : H.length ≤ 10) (hA : A.length ≤ 6) (hB : B.length ≤ 6) : ∀ (fu : Nat) (x : At3) (m : Memo), H.length < fu + x.1 → x.1 ≤ H.length → x.2.1 ≤ A.length → x.2.2 ≤ B.length → MapOK mayA H A B m →
    ∃ m', resta_R N fu x.1 x.2.1 x.2.2 (T, H, f, A, B) (T, H, f, A, B) m = some ((tv mayA H A B x).1, (tv mayA H A B x).2, (T, H, f, A, B), m') ∧ MapOK mayA H A B m'
  | 0, x, m, h, h1, _, _, _ => by omega
  | fu + 1, x, m, h, hx, ha, hb, hm => by
    show ∃ m', resta_S N (resta_R N fu) x.1 x.2.1 x.2.2 (T, H, f, A, B) (T, H, f, A, B) m = _ ∧ _
    unfold resta_S
    by_cases c1 : x.1 = H.length
    · rw [br_dec (by dsimp only; omega)]
      refine ⟨m, ?_, hm⟩
      simp [tv, tvx, c1]
    · rw [br_ndec (by dsimp only; omega)]
      cases hf : m.find? (fun y => Ty.beq (.pair (.int .i64) (.pair (.int .i64) (.int .i64))) y.1 (((x.1 : Nat) : Int), ((x.2.1 : Nat) : Int), ((x.2.2 : Nat) : Int))) with
      | some e =>
        have := hm.find x hf
        refine ⟨m, ?_, hm⟩
        simp [br, this]
      | none =>
        simp only [Option.isSome_none, br_false, next_S, Option.bind_some]
        have hnx : nextR (((x.1 : Nat) : Int), ((x.2.1 : Nat) : Int), ((x.2.2 : Nat) : Int)) (T, H, f, A, B) = some ((movesL A B (H.getD x.1 0) x).map movP) := by
          unfold nextR
          rw [if_pos (by dsimp only; omega)]
          simp only [Int.toNat_natCast]
        rw [hnx]
        simp only [Option.bind_some]
        obtain ⟨n, hn⟩ : ∃ n, H.length - x.1 = n + 1 := ⟨H.length - x.1 - 1, by omega⟩
        obtain ⟨m1, h2, hm1⟩ := resta_l1_p (N := N) (T := T) (f := f) (self := resta_R N fu) (h := x.1) (n := n) (u := (((x.1 : Nat) : Int), ((x.2.1 : Nat) : Int), ((x.2.2 : Nat) : Int))) (u2 := (T, H, f, A, B)) (x := x.1) (x2 := x.2.1) (x3 := x.2.2) (g3 := 0) (g4 := 0) (by omega) hA hB (fun y m' hy hya hyb hm' => by
          have := resta_R_p hH hA hB fu y m' (by omega) (by omega) hya hyb hm'
          rw [show tv mayA H A B y = tvx mayA H A B n y by unfold tv; rw [show H.length - y.1 = n by omega]] at this
          exact this) (movesL A B (H.getD x.1 0) x) m 0 (-1, 0) (fun mv hv => movesL_ok ha hb hv) hm (by refine ⟨?_, ?_, ?_, ?_⟩ <;> simp; omega) (by have := movesL_len A B (H.getD x.1 0) x; omega)
        have e : (movesL A B (H.getD x.1 0) x).foldl (stepT mayA x.1 (tvx mayA H A B n)) (-1, 0) = tv mayA H A B x := by
          unfold tv; rw [hn, tvx]
        rw [e] at h2
        rw [h2]
        exact ⟨_, rfl, hm1.cons x⟩
theorem firsta_v (hN : 12 ≤ N) (hH : H.length ≤ 10) (hA : A.length ≤ 6) (hB : B.length ≤ 6) : firsta_S N (T, H, f, A, B) = some (tv mayA H A B (0, 0, 0)) := by
  unfold firsta_S restsa_S restsa_j1
  obtain ⟨m, h, hm⟩ := resta_R_p (N := N) (T := T) (f := f) hH hA hB N (0, 0, 0) [] (by dsimp only; omega) (by dsimp only; omega) (by dsimp only; omega) (by dsimp only; omega) (MapOK.nil _ _ _ _)
  simp only [Int.natCast_zero] at h
  rw [h]
  simp [Ty.beq]
end
end Go.Proofs.Ytfcnhnbnjdccfaa

namespace Go.Proofs.Ytfcnhnbnjdccfaa
set_option linter.all false
open Go

section
variable {N : Nat}
/-! ### Echoes that are made -/
theorem made_l2_p {words heard many u u2 u3 g x : Int} {b : List Int} {x2 : List (List Int)} (hm : 0 ≤ many ∧ many ≤ 4) (h3 : u3 ≤ 100) : ∀ (n : Nat) (u4 b2 b3 : Int) (l : List Int), (u3 - u4).toNat < n → 0 ≤ u4 → u4 ≤ u3 → Bell b b2 → InR 0 many l → (l.length : Int) = u4 →
    ∃ b2' b3' l', made_l2 N n words heard many u u2 u3 u4 b b2 b3 g x l x2 = some (words, heard, many, u, u2, b, b2', b3', g, x, l', x2) ∧ Bell b b2' ∧ InR 0 many l' ∧ (l'.length : Int) = u3
  | 0, u4, b2, b3, l, h, _, _, _, _, _ => by omega
  | n + 1, u4, b2, b3, l, h, h0, h1, hb, hl, hlen => by
    unfold made_l2
    by_cases c : u4 < u3
    · rw [br_dec c]
      obtain ⟨⟨y, b', y2, y3⟩, e, hy, hb', hbl⟩ := stroke_ok N (n := many) (b3 := b3) hb (by omega)
      dsimp only at hb' hbl hy
      subst hb'
      rw [e]
      simp only [Option.bind_some]
      rw [lim_eq (by simp; omega), chk_eq (by omega)]
      exact made_l2_p hm h3 n (u4 + 1) y2 y3 _ (by omega) (by omega) (by omega) hbl (hl.append (by omega)) (by simp; omega)
    · rw [br_ndec c]
      exact ⟨b2, b3, l, rfl, hb, hl, by omega⟩
/-- Texts of some words, of some numbers. -/
def Txt (many wo : Int) (T : List (List Int)) : Prop := ∀ t ∈ T, InR 0 many t ∧ 1 ≤ t.length ∧ (t.length : Int) ≤ wo
theorem made_l1_p {words heard many u g x : Int} {b : List Int} (hN : 110 ≤ N) (hm : 0 ≤ many ∧ many ≤ 4) (hw : 1 ≤ words ∧ words ≤ 100) (hu : u ≤ 100) : ∀ (n : Nat) (u2 b2 b3 : Int) (T : List (List Int)), (u - u2).toNat < n → 0 ≤ u2 → u2 ≤ u → Bell b b2 → Txt many words T → (T.length : Int) = u2 →
    ∃ b2' b3' T', made_l1 N n words heard many u u2 b b2 b3 g x T = some (heard, many, b, b2', b3', g, x, T') ∧ Bell b b2' ∧ Txt many words T' ∧ (T'.length : Int) = u
  | 0, u2, b2, b3, T, h, _, _, _, _, _ => by omega
  | n + 1, u2, b2, b3, T, h, h0, h1, hb, hT, hlen => by
    unfold made_l1
    by_cases c : u2 < u
    · rw [br_dec c]
      obtain ⟨⟨y, b', y2, y3⟩, e, hy, hb', hbl⟩ := strike_ok N (lo := 1) (hi := words) (b3 := b3) hb (by omega)
      dsimp only at hb' hbl hy
      subst hb'
      rw [e]
      simp only [Option.bind_some]
      obtain ⟨b2', b3', l', e2, hb2, hl, hl2⟩ := made_l2_p (N := N) (words := words) (heard := heard) (u := u) (u2 := u2) (u3 := y) (g := g) (x := x) (x2 := T) hm (by omega) N 0 y2 y3 [] (by omega) (by omega) (by omega) hbl InR.nil (by simp)
      rw [e2]
      simp only [Option.bind_some]
      rw [lim_eq (by simp; omega), chk_eq (by omega)]
      refine made_l1_p hN hm hw hu n (u2 + 1) b2' b3' _ (by omega) (by omega) (by omega) hb2 (fun t ht => ?_) (by simp; omega)
      rcases List.mem_append.1 ht with ht | ht
      · exact hT t ht
      · simp at ht; subst ht; exact ⟨hl, by omega, by omega⟩
    · rw [br_ndec c]
      exact ⟨b2, b3, T, rfl, hb, hT, by omega⟩
theorem made_l3_p {heard many g x : Int} {b : List Int} {T : List (List Int)} (hm : 0 ≤ many ∧ many ≤ 4) (hh : 0 ≤ heard ∧ heard ≤ 100) : ∀ (n : Nat) (b2 b3 : Int) (p q H : List Int), p.length + q.length < n → p.length + q.length ≤ 1000 → InR 0 many p → InR 0 many q → Bell b b2 → InR 0 many H → (H.length : Int) ≤ heard →
    ∃ b2' b3' H', made_l3 N n heard many b b2 b3 g x p q T H = some (b, b2', b3', g, x, T, H') ∧ Bell b b2' ∧ InR 0 many H' ∧ (H'.length : Int) ≤ heard
  | 0, b2, b3, p, q, H, h, _, _, _, _, _, _ => by omega
  | n + 1, b2, b3, p, q, H, h, h1, hp, hq, hb, hH, hl => by
    unfold made_l3
    rw [chk_eq (by omega)]
    by_cases c : 0 < (p.length : Int) + (q.length : Int)
    · rw [br_dec c]
      by_cases c2 : (H.length : Int) < heard
      · rw [br_dec c2]
        -- one word of p or q goes
        have rcp : ∀ (y2 y3 : Int) (H2 : List Int), 0 < p.length → Bell b y2 → InR 0 many H2 → (H2.length : Int) ≤ heard → ∃ b2' b3' H', made_l3 N n heard many b y2 y3 g x (p.drop 1) q T H2 = some (b, b2', b3', g, x, T, H') ∧ Bell b b2' ∧ InR 0 many H' ∧ (H'.length : Int) ≤ heard := fun y2 y3 H2 h0 hb2 hH2 hl2 =>
          made_l3_p hm hh n y2 y3 (p.drop 1) q H2 (by rw [List.length_drop]; omega) (by rw [List.length_drop]; omega) (hp.drop 1) hq hb2 hH2 hl2
        have rcq : ∀ (y2 y3 : Int) (H2 : List Int), 0 < q.length → Bell b y2 → InR 0 many H2 → (H2.length : Int) ≤ heard → ∃ b2' b3' H', made_l3 N n heard many b y2 y3 g x p (q.drop 1) T H2 = some (b, b2', b3', g, x, T, H') ∧ Bell b b2' ∧ InR 0 many H' ∧ (H'.length : Int) ≤ heard := fun y2 y3 H2 h0 hb2 hH2 hl2 =>
          made_l3_p hm hh n y2 y3 p (q.drop 1) H2 (by rw [List.length_drop]; omega) (by rw [List.length_drop]; omega) hp (hq.drop 1) hb2 hH2 hl2
        have g1 : ∀ l : List Int, 0 < l.length → decide ((0 : Int) ≤ 1 ∧ 1 ≤ (l.length : Int)) = true := fun l hl => by simp; omega
        have tail : ∀ (fr : List Int) (rec : Int → Int → List Int → Option (List Int × Int × Int × Int × Int × List (List Int) × List Int)) (y2 y3 : Int) (H2 : List Int), 0 < fr.length → InR 0 many fr → Bell b y2 → InR 0 many H2 → (H2.length : Int) ≤ heard →
            (∀ (y2 y3 : Int) (H2 : List Int), Bell b y2 → InR 0 many H2 → (H2.length : Int) ≤ heard → ∃ b2' b3' H', rec y2 y3 H2 = some (b, b2', b3', g, x, T, H') ∧ Bell b b2' ∧ InR 0 many H' ∧ (H'.length : Int) ≤ heard) →
            ∃ b2' b3' H', ((seldom_S N 5 b y2 y3).bind fun (x_59, y_60, y_61, y_62) => br (!x_59) (br (decide ((H2.length : Int) < heard)) (idx fr 0 fun x_63 => lim (H2.length + [x_63].length) <| grd (decide ((0 : Int) ≤ 1 ∧ 1 ≤ (fr.length : Int))) <| rec y_61 y_62 (H2 ++ [x_63])) (grd (decide ((0 : Int) ≤ 1 ∧ 1 ≤ (fr.length : Int))) <| rec y_61 y_62 H2)) (grd (decide ((0 : Int) ≤ 1 ∧ 1 ≤ (fr.length : Int))) <| rec y_61 y_62 H2)) = some (b, b2', b3', g, x, T, H') ∧ Bell b b2' ∧ InR 0 many H' ∧ (H'.length : Int) ≤ heard := by
          intro fr rec y2 y3 H2 hfr hfi hb2 hH2 hl2 hrec
          obtain ⟨⟨s, b', z2, z3⟩, e, hb', hbl⟩ := seldom_ok N (n := 5) (b3 := y3) hb2 (by omega)
          dsimp only at hb' hbl
          rw [e]
          simp only [Option.bind_some]
          cases s with
          | true => simp only [Bool.not_true, br_false]; rw [grd_eq (g1 fr hfr)]; exact hrec z2 z3 H2 hbl hH2 hl2
          | false =>
            simp only [Bool.not_false, br_true]
            by_cases c3 : (H2.length : Int) < heard
            · rw [br_dec c3, idx_get 0 (by omega) (by omega), lim_eq (by simp; omega), grd_eq (g1 fr hfr)]
              exact hrec z2 z3 _ hbl (hH2.append (hfi _ (getD_mem (by omega)))) (by simp; omega)
            · rw [br_ndec c3, grd_eq (g1 fr hfr)]; exact hrec z2 z3 H2 hbl hH2 hl2
        have j1 : ∀ (y2 y3 : Int) (H2 : List Int), Bell b y2 → InR 0 many H2 → (H2.length : Int) ≤ heard → ∃ b2' b3' H', made_j1 N (made_l3 N n) heard many b y2 y3 g x p q T H2 = some (b, b2', b3', g, x, T, H') ∧ Bell b b2' ∧ InR 0 many H' ∧ (H'.length : Int) ≤ heard := by
          intro y2 y3 H2 hb2 hH2 hl2
          unfold made_j1
          have tq : ∀ y2 y3, Bell b y2 → 0 < q.length → _ := fun y2 y3 hb2 h0 => tail q (fun y2 y3 H2 => made_l3 N n heard many b y2 y3 g x p (q.drop 1) T H2) y2 y3 H2 h0 hq hb2 hH2 hl2 (fun y2 y3 H2 => rcq y2 y3 H2 h0)
          have tp : ∀ y2 y3, Bell b y2 → 0 < p.length → _ := fun y2 y3 hb2 h0 => tail p (fun y2 y3 H2 => made_l3 N n heard many b y2 y3 g x (p.drop 1) q T H2) y2 y3 H2 h0 hp hb2 hH2 hl2 (fun y2 y3 H2 => rcp y2 y3 H2 h0)
          have bb : ∀ (k : Int), -1000 ≤ k ∧ k ≤ 1000 → ∀ y2 y3, Bell b y2 → ∃ s z2 z3, seldom_S N k b y2 y3 = some (s, b, z2, z3) ∧ Bell b z2 := fun k hk y2 y3 hb2 => by
            obtain ⟨⟨s, b', z2, z3⟩, e, hb', hbl⟩ := seldom_ok N (n := k) (b3 := y3) hb2 hk
            dsimp only at hb' hbl
            subst hb'
            exact ⟨s, z2, z3, e, hbl⟩
          by_cases d1 : (p.length : Int) = 0
          · rw [br_dec d1]
            obtain ⟨s, z2, z3, e, hbl⟩ := bb 5 (by omega) y2 y3 hb2
            have := tq y2 y3 hb2 (by omega)
            rw [e] at this ⊢
            exact this
          · rw [br_ndec d1]
            by_cases d2 : 0 < (q.length : Int)
            · rw [br_dec d2]
              obtain ⟨s, z2, z3, e, hbl⟩ := bb 2 (by omega) y2 y3 hb2
              rw [e]
              simp only [Option.bind_some]
              obtain ⟨s', z2', z3', e', hbl'⟩ := bb 5 (by omega) z2 z3 hbl
              cases s with
              | true =>
                rw [br_true]
                have := tq z2 z3 hbl (by omega)
                rw [e'] at this ⊢
                exact this
              | false =>
                rw [br_false]
                have := tp z2 z3 hbl (by omega)
                rw [e'] at this ⊢
                exact this
            · rw [br_ndec d2]
              obtain ⟨s, z2, z3, e, hbl⟩ := bb 5 (by omega) y2 y3 hb2
              have := tp y2 y3 hb2 (by omega)
              rw [e] at this ⊢
              exact this
        obtain ⟨⟨s, b', z2, z3⟩, e, hb', hbl⟩ := seldom_ok N (n := 8) (b3 := b3) hb (by omega)
        dsimp only at hb' hbl
        subst hb'
        rw [e]
        simp only [Option.bind_some]
        cases s with
        | false => rw [br_false]; exact j1 z2 z3 H hbl hH hl
        | true =>
          rw [br_true]
          obtain ⟨⟨y, b', y2, y3⟩, e, hy, hb', hbl'⟩ := stroke_ok N (n := many) (b3 := z3) hbl (by omega)
          dsimp only at hb' hbl' hy
          subst hb'
          rw [e]
          simp only [Option.bind_some]
          rw [lim_eq (by simp; omega)]
          exact j1 y2 y3 _ hbl' (hH.append (by omega)) (by simp; omega)
      · rw [br_ndec c2]; exact ⟨b2, b3, H, rfl, hb, hH, hl⟩
    · rw [br_ndec c]; exact ⟨b2, b3, H, rfl, hb, hH, hl⟩
theorem made_p (hN : 1100 ≤ N) {tx wo he : Int} (h1 : 1 ≤ tx ∧ tx ≤ 100) (h2 : 1 ≤ wo ∧ wo ≤ 100) (h3 : 0 ≤ he ∧ he ≤ 100) {b : List Int} {b2 b3 : Int} (hb : Bell b b2) :
    ∃ T H f b2' b3', made_S N tx wo he b b2 b3 = some (T, H, f, b, b2', b3') ∧ Bell b b2' ∧ Txt 4 wo T ∧ (1 ≤ (T.length : Int) ∧ (T.length : Int) ≤ tx) ∧ InR 0 4 H ∧ (H.length : Int) ≤ he ∧ 0 ≤ f ∧ f ≤ 4 := by
  unfold made_S
  obtain ⟨⟨f, b', y2, y3⟩, e, hf, hb', hbl⟩ := stroke_ok N (n := 4) (b3 := b3) hb (by omega)
  dsimp only at hb' hbl hf
  subst hb'
  rw [e]; simp only [Option.bind_some]
  obtain ⟨⟨many, b', y2, y3⟩, e, hm, hb', hbl⟩ := strike_ok N (lo := 1) (hi := 4) (b3 := y3) hbl (by omega)
  dsimp only at hb' hbl hm
  subst hb'
  rw [e]; simp only [Option.bind_some]
  obtain ⟨⟨u, b', y2, y3⟩, e, hu, hb', hbl⟩ := strike_ok N (lo := 1) (hi := tx) (b3 := y3) hbl (by omega)
  dsimp only at hb' hbl hu
  subst hb'
  rw [e]; simp only [Option.bind_some]
  obtain ⟨z2, z3, T, e, hbl, hT, hTl⟩ := made_l1_p (N := N) (words := wo) (heard := he) (many := many) (u := u) (g := 0) (x := f) (by omega) (by omega) h2 (by omega) N 0 y2 y3 [] (by omega) (by omega) (by omega) hbl (fun _ h => by cases h) (by simp)
  rw [e]; simp only [Option.bind_some]
  rw [chk_eq (by omega)]
  obtain ⟨⟨i, b', y2, y3⟩, e, hi, hb', hbl⟩ := stroke_ok N (n := (T.length : Int) - 1) (b3 := z3) hbl (by omega)
  dsimp only at hb' hbl hi
  subst hb'
  rw [e]; simp only [Option.bind_some]
  rw [rng_eq (by omega), get_get [] (by omega), chk_eq (by omega)]
  obtain ⟨⟨k, b', y2, y3⟩, e, hk, hb', hbl⟩ := stroke_ok N (n := (T.length : Int) - 1) (b3 := y3) hbl (by omega)
  dsimp only at hb' hbl hk
  subst hb'
  rw [e]; simp only [Option.bind_some]
  rw [rng_eq (by omega), get_get [] (by omega)]
  have hp := hT (T.getD i.toNat []) (getD_mem (by omega))
  have hq := hT (T.getD k.toNat []) (getD_mem (by omega))
  obtain ⟨z2, z3, H, e, hbl, hH, hHl⟩ := made_l3_p (N := N) (heard := he) (many := many) (g := 0) (x := f) (T := T) (by omega) h3 N y2 y3 (T.getD i.toNat []) (T.getD k.toNat []) [] (by omega) (by omega) hp.1 hq.1 hbl InR.nil (by simp; omega)
  rw [e]; simp only [Option.bind_some]
  exact ⟨T, H, f, z2, z3, rfl, hbl, fun t ht => ⟨(hT t ht).1.mono (by omega) (by omega), (hT t ht).2⟩, by omega, hH.mono (by omega) (by omega), hHl, by omega, by omega⟩
end
end Go.Proofs.Ytfcnhnbnjdccfaa

namespace Go.Proofs.Ytfcnhnbnjdccfaa
set_option linter.all false
open Go

section
variable {N : Nat} {T : List (List Int)} {H : List Int} {f : Int}
def leastV (H A B : List Int) : Int := (A.length : Int) + B.length + H.length - 2 * (tv mayA H A B (0, 0, 0)).1
theorem tv_bnd (may : Nat → Int × Int → Bool) {H A B : List Int} (hA : A.length ≤ 6) (hB : B.length ≤ 6) : -1 ≤ (tv may H A B (0, 0, 0)).1 ∧ (tv may H A B (0, 0, 0)).1 ≤ H.length := by
  have := tvx_bnd may (H := H) hA hB (H.length - 0) (0, 0, 0)
  exact ⟨this.1, this.2.1⟩
theorem dfaults_v {A B : List Int} {t : Int} (hH : H.length ≤ 10) (hA : A.length ≤ 6) (hB : B.length ≤ 6) (ht : -1 ≤ t ∧ t ≤ 10) : dfaults_S N (T, H, f, A, B) t = some ((A.length : Int) + B.length + H.length - 2 * t) := by
  unfold dfaults_S
  rw [chk_eq (by dsimp only; omega), chk_eq (by dsimp only; omega), chk_eq (by omega), chk_eq (by dsimp only; omega)]
theorem least_v (hN : 20 ≤ N) (h : Fine T H f) {a b : Int} (ha : 0 ≤ a ∧ a < T.length) (hb : 0 ≤ b ∧ b < T.length) : least_S N T H f a b = some (leastV H (T.getD a.toNat []) (T.getD b.toNat []), 0) := by
  unfold least_S
  obtain ⟨_, _, _, e⟩ := opened_good hN (h.open ha hb)
  rw [e]
  have la := h.l (T.getD a.toNat []) (getD_mem (by omega))
  have lb := h.l (T.getD b.toNat []) (getD_mem (by omega))
  have hH := h.h
  simp only [Option.bind_some, decide_true, Bool.not_true, br_false, all_S]
  rw [firsta_v (by omega) h.h la.2 lb.2]
  simp only [Option.bind_some]
  have := tv_bnd mayA (H := H) la.2 lb.2
  rw [dfaults_v h.h la.2 lb.2 (by omega)]
  rfl
/-! ### Pairs -/
/-! ### Confused texts -/
/-! ### Lists -/
end
end Go.Proofs.Ytfcnhnbnjdccfaa

namespace Go.Proofs.Ytfcnhnbnjdccfaa
set_option linter.all false
open Go

section
variable {N : Nat}
theorem Fine.of_txt {T : List (List Int)} {H : List Int} {f wo : Int} (h : Txt 4 wo T) (hw : wo ≤ 6) (hn : 1 ≤ (T.length : Int) ∧ (T.length : Int) ≤ 4) (hH : InR 0 4 H) (hl : (H.length : Int) ≤ 10) (hf : 0 ≤ f ∧ f ≤ 8) : Fine T H f :=
  ⟨by omega, by omega, fun x hx => by have := h x hx; omega, fun x hx => (h x hx).1.mono (by omega) (by omega), hH.mono (by omega) (by omega), hf⟩
theorem awake_v : awake_S 1100 = some true := by kernel_rfl
end
end Go.Proofs.Ytfcnhnbnjdccfaa

namespace Go.Proofs.Ytfcnhnbnjdccfaa
set_option linter.all false
open Go

/-! ### The greatest of several -/
theorem stepT_fst (h : Nat) (t : At3 → Int × Int) (best : Int × Int) (m : Mv) : (stepT mayA h t best m).1 = max best.1 (wT m.1.1 (t m.2).1) := by
  have : stepT mayA h t best m = (if best.1 < wT m.1.1 (t m.2).1 then (wT m.1.1 (t m.2).1, (t m.2).2) else if wT m.1.1 (t m.2).1 = best.1 then (best.1, best.2 + (t m.2).2) else best) := by unfold stepT; exact if_pos rfl
  rw [this]
  split
  · first | omega | (dsimp only; omega)
  · split <;> first | omega | (dsimp only; omega)
theorem fold_ge {h : Nat} {t : At3 → Int × Int} : ∀ (ms : List Mv) (best : Int × Int), best.1 ≤ (ms.foldl (stepT mayA h t) best).1 ∧ ∀ m ∈ ms, wT m.1.1 (t m.2).1 ≤ (ms.foldl (stepT mayA h t) best).1
  | [], best => ⟨Int.le_refl _, fun _ h => by cases h⟩
  | m :: ms, best => by
    obtain ⟨h1, h2⟩ := fold_ge (h := h) (t := t) ms (stepT mayA h t best m)
    rw [stepT_fst] at h1
    rw [List.foldl_cons]
    refine ⟨by omega, fun m' hm => ?_⟩
    rcases List.mem_cons.1 hm with rfl | hm
    · omega
    · exact h2 m' hm
/-! ### All words are told -/
inductive Told (H A B : List Int) : Nat → Nat → Nat → Prop
  | done (i k : Nat) : Told H A B H.length i k
  | ta {h i k j : Nat} (hh : h < H.length) (hij : i ≤ j) (hj : j < A.length) (e : A.getD j 0 = H.getD h 0) (t : Told H A B (h + 1) (j + 1) k) : Told H A B h i k
  | tb {h i k j : Nat} (hh : h < H.length) (hij : k ≤ j) (hj : j < B.length) (e : B.getD j 0 = H.getD h 0) (t : Told H A B (h + 1) i (j + 1)) : Told H A B h i k
theorem Told.mono {H A B : List Int} {h i k : Nat} (t : Told H A B h i k) : ∀ (i' k' : Nat), i' ≤ i → k' ≤ k → Told H A B h i' k' := by
  induction t with
  | done i k => intro i' k' _ _; exact .done i' k'
  | ta hh hij hj e _ ih => intro i' k' h1 h2; exact .ta hh (Nat.le_trans h1 hij) hj e (ih _ _ (Nat.le_refl _) h2)
  | tb hh hij hj e _ ih => intro i' k' h1 h2; exact .tb hh (Nat.le_trans h2 hij) hj e (ih _ _ h1 (Nat.le_refl _))
theorem Told.tv {H A B : List Int} {h i k : Nat} (t : Told H A B h i k) : ∀ n, H.length = h + n → (n : Int) ≤ (tvx mayA H A B n (h, i, k)).1 := by
  induction t with
  | done i k => intro n hn; have : n = 0 := by omega
                subst this; simp [tvx]
  | @ta h i k j hh hij hj e t ih =>
    intro n hn
    obtain ⟨n, rfl⟩ : ∃ m, n = m + 1 := ⟨n - 1, by omega⟩
    have := ih n (by omega)
    have g := (fold_ge (h := h) (t := tvx mayA H A B n) (movesL A B (H.getD h 0) (h, i, k)) (-1, 0)).2 ((1, (j : Int)), (h + 1, j + 1, k)) (by
      simp only [movesL, List.mem_cons, List.mem_append, List.mem_map]
      exact .inr (.inl ⟨j, mem_standsL.2 ⟨hij, hj, e⟩, rfl⟩))
    rw [tvx]
    dsimp only
    dsimp only [wT] at g
    rw [if_pos ⟨by omega, by decide⟩] at g
    omega
  | @tb h i k j hh hij hj e t ih =>
    intro n hn
    obtain ⟨n, rfl⟩ : ∃ m, n = m + 1 := ⟨n - 1, by omega⟩
    have := ih n (by omega)
    have g := (fold_ge (h := h) (t := tvx mayA H A B n) (movesL A B (H.getD h 0) (h, i, k)) (-1, 0)).2 ((2, (j : Int)), (h + 1, i, j + 1)) (by
      simp only [movesL, List.mem_cons, List.mem_append, List.mem_map]
      exact .inr (.inr ⟨j, mem_standsL.2 ⟨hij, hj, e⟩, rfl⟩))
    rw [tvx]
    dsimp only
    dsimp only [wT] at g
    rw [if_pos ⟨by omega, by decide⟩] at g
    omega
/-- Two texts run into each other, with words lost. -/
inductive Shuf : List Int → List Int → List Int → Prop
  | nil : Shuf [] [] []
  | skipA {S a b : List Int} (w : Int) (s : Shuf S a b) : Shuf S (w :: a) b
  | skipB {S a b : List Int} (w : Int) (s : Shuf S a b) : Shuf S a (w :: b)
  | takeA {S a b : List Int} (w : Int) (s : Shuf S a b) : Shuf (w :: S) (w :: a) b
  | takeB {S a b : List Int} (w : Int) (s : Shuf S a b) : Shuf (w :: S) a (w :: b)
theorem drop_step {l : List Int} {i : Nat} {w : Int} {r : List Int} (h : l.drop i = w :: r) : i < l.length ∧ l.getD i 0 = w ∧ l.drop (i + 1) = r := by
  have hi : i < l.length := by
    rcases Nat.lt_or_ge i l.length with h1 | h1
    · exact h1
    · rw [List.drop_of_length_le h1] at h; cases h
  rw [drop_cons hi] at h
  simp only [List.cons.injEq] at h
  exact ⟨hi, h.1, h.2⟩
theorem Shuf.told {H A B S a b : List Int} (s : Shuf S a b) : ∀ (h i k : Nat), h ≤ H.length → H.drop h = S → A.drop i = a → B.drop k = b → Told H A B h i k := by
  induction s with
  | nil =>
    intro h i k hh hS _ _
    have : h = H.length := by
      have := congrArg List.length hS
      rw [List.length_drop] at this
      simp at this; omega
    subst this; exact .done i k
  | skipA w s ih => intro h i k hh hS ha hb; obtain ⟨_, _, h3⟩ := drop_step ha; exact (ih h (i + 1) k hh hS h3 hb).mono _ _ (by omega) (Nat.le_refl _)
  | skipB w s ih => intro h i k hh hS ha hb; obtain ⟨_, _, h3⟩ := drop_step hb; exact (ih h i (k + 1) hh hS ha h3).mono _ _ (Nat.le_refl _) (by omega)
  | takeA w s ih =>
    intro h i k hh hS ha hb
    obtain ⟨h1, h2, h3⟩ := drop_step ha
    obtain ⟨g1, g2, g3⟩ := drop_step hS
    exact .ta g1 (Nat.le_refl _) h1 (by rw [h2, g2]) (ih (h + 1) (i + 1) k (by omega) g3 h3 hb)
  | takeB w s ih =>
    intro h i k hh hS ha hb
    obtain ⟨h1, h2, h3⟩ := drop_step hb
    obtain ⟨g1, g2, g3⟩ := drop_step hS
    exact .tb g1 (Nat.le_refl _) h1 (by rw [h2, g2]) (ih (h + 1) i (k + 1) (by omega) g3 ha h3)
theorem Shuf.len {S a b : List Int} (s : Shuf S a b) : S.length ≤ a.length + b.length := by
  induction s <;> simp only [List.length_cons, List.length_nil] at * <;> omega
theorem Shuf.least {S a b : List Int} (s : Shuf S a b) (ha : a.length ≤ 6) (hb : b.length ≤ 6) : leastV S a b = (a.length : Int) + b.length - S.length := by
  have t := (s.told (H := S) (A := a) (B := b) 0 0 0 (Nat.zero_le _) rfl rfl rfl).tv S.length (by omega)
  have := tv_bnd mayA (H := S) ha hb
  unfold leastV
  have e : (tvx mayA S a b S.length (0, 0, 0)).1 = (Proofs.Ytfcnhnbnjdccfaa.tv mayA S a b (0, 0, 0)).1 := rfl
  omega
end Go.Proofs.Ytfcnhnbnjdccfaa

namespace Go.Proofs.Ytfcnhnbnjdccfaa
set_option linter.all false
open Go

section
variable {N : Nat} {T : List (List Int)} {H : List Int} {f : Int}
theorem indexi_gen (N : Nat) (v : Int) : ∀ (n : Nat) (s : List Int) (u u2 : Int), indexi_l1 N n s v u u2 = ixL (fun x => some (decide (v = x))) n s u u2
  | 0, _, _, _ => rfl
  | n + 1, s, u, u2 => by simp only [indexi_l1, ixL, indexi_gen N v n, Option.bind_some]
end
end Go.Proofs.Ytfcnhnbnjdccfaa

namespace Go.Proofs.Ytfcnhnbnjdccfaa
set_option linter.all false
open Go

/-- Words of two texts are told in what was heard, between noise. -/
inductive Rd : List Int → List Int → List Int → Prop
  | nil : Rd [] [] []
  | noise (w : Int) {H a b : List Int} (s : Rd H a b) : Rd (w :: H) a b
  | ta (w : Int) {H a b : List Int} (s : Rd H a b) : Rd (w :: H) (w :: a) b
  | tb (w : Int) {H a b : List Int} (s : Rd H a b) : Rd (w :: H) a (w :: b)
theorem Rd.none : ∀ H : List Int, Rd H [] []
  | [] => .nil
  | w :: H => .noise w (Rd.none H)
theorem Rd.sub {H a b : List Int} (s : Rd H a b) : ∀ a' b' : List Int, a'.Sublist a → b'.Sublist b → Rd H a' b' := by
  induction s with
  | nil => intro a' b' ha hb; rw [List.sublist_nil.1 ha, List.sublist_nil.1 hb]; exact .nil
  | noise w s ih => intro a' b' ha hb; exact .noise w (ih a' b' ha hb)
  | ta w s ih =>
    intro a' b' ha hb
    cases ha with
    | cons _ h => exact .noise w (ih a' b' h hb)
    | cons_cons _ h => exact .ta w (ih _ b' h hb)
  | tb w s ih =>
    intro a' b' ha hb
    cases hb with
    | cons _ h => exact .noise w (ih a' b' ha h)
    | cons_cons _ h => exact .tb w (ih a' _ ha h)
theorem sub_at {A a : List Int} {w : Int} : ∀ (n i : Nat), A.length = i + n → (w :: a).Sublist (A.drop i) → ∃ j, i ≤ j ∧ j < A.length ∧ A.getD j 0 = w ∧ a.Sublist (A.drop (j + 1))
  | 0, i, h, hs => by rw [List.drop_of_length_le (by omega)] at hs; cases hs
  | n + 1, i, h, hs => by
    rw [drop_cons (by omega)] at hs
    cases hs with
    | cons _ h' =>
      obtain ⟨j, h1, h2, h3, h4⟩ := sub_at n (i + 1) (by omega) h'
      exact ⟨j, by omega, h2, h3, h4⟩
    | cons_cons _ h' => exact ⟨i, Nat.le_refl _, by omega, rfl, h'⟩
theorem tvx_ge (H A B : List Int) : ∀ (n h i k : Nat) (a b : List Int), H.length = h + n → Rd (H.drop h) a b → a.Sublist (A.drop i) → b.Sublist (B.drop k) → ((a.length : Int) + b.length) ≤ (tvx mayA H A B n (h, i, k)).1
  | 0, h, i, k, a, b, hn, s, _, _ => by
    rw [List.drop_of_length_le (by omega)] at s
    cases s; simp [tvx]
  | n + 1, h, i, k, a, b, hn, s, ha, hb => by
    rw [drop_cons (by omega)] at s
    have g := (fold_ge (h := h) (t := tvx mayA H A B n) (movesL A B (H.getD h 0) (h, i, k)) (-1, 0)).2
    rw [tvx]
    dsimp only
    cases s with
    | noise _ s =>
      have := tvx_ge H A B n (h + 1) i k a b (by omega) s ha hb
      have g1 := g ((3, 0), (h + 1, i, k)) (by simp [movesL])
      have e : ∀ w : Int, wT 3 w = w := fun w => by simp [wT]
      dsimp only at g1
      rw [e] at g1
      omega
    | ta _ s =>
      obtain ⟨j, h1, h2, h3, h4⟩ := sub_at (A.length - i) i (by have := ha.length_le; simp at this; omega) ha
      have := tvx_ge H A B n (h + 1) (j + 1) k _ b (by omega) s h4 hb
      have g1 := g ((1, (j : Int)), (h + 1, j + 1, k)) (by
        simp only [movesL, List.mem_cons, List.mem_append, List.mem_map]
        exact .inr (.inl ⟨j, mem_standsL.2 ⟨h1, h2, h3⟩, rfl⟩))
      dsimp only [wT] at g1
      rw [if_pos ⟨by omega, by decide⟩] at g1
      simp only [List.length_cons]
      omega
    | tb _ s =>
      obtain ⟨j, h1, h2, h3, h4⟩ := sub_at (B.length - k) k (by have := hb.length_le; simp at this; omega) hb
      have := tvx_ge H A B n (h + 1) i (j + 1) a _ (by omega) s ha h4
      have g1 := g ((2, (j : Int)), (h + 1, i, j + 1)) (by
        simp only [movesL, List.mem_cons, List.mem_append, List.mem_map]
        exact .inr (.inr ⟨j, mem_standsL.2 ⟨h1, h2, h3⟩, rfl⟩))
      dsimp only [wT] at g1
      rw [if_pos ⟨by omega, by decide⟩] at g1
      simp only [List.length_cons]
      omega
theorem fold_has {h : Nat} {t : At3 → Int × Int} : ∀ (ms : List Mv) (best : Int × Int), (ms.foldl (stepT mayA h t) best).1 = best.1 ∨ ∃ m ∈ ms, (ms.foldl (stepT mayA h t) best).1 = wT m.1.1 (t m.2).1
  | [], best => .inl rfl
  | m :: ms, best => by
    rw [List.foldl_cons]
    rcases fold_has (h := h) (t := t) ms (stepT mayA h t best m) with h1 | ⟨m', hm, h1⟩
    · rw [stepT_fst] at h1
      rcases Int.le_total best.1 (wT m.1.1 (t m.2).1) with h2 | h2
      · exact .inr ⟨m, by simp, by omega⟩
      · exact .inl (by omega)
    · exact .inr ⟨m', by simp [hm], h1⟩
theorem tvx_nonneg (H A B : List Int) {n h i k : Nat} (hn : H.length = h + n) : 0 ≤ (tvx mayA H A B n (h, i, k)).1 := by
  have := tvx_ge H A B n h i k [] [] hn (Rd.none _) (List.nil_sublist _) (List.nil_sublist _)
  simpa using this
end Go.Proofs.Ytfcnhnbnjdccfaa

namespace Go.Proofs.Ytfcnhnbnjdccfaa
set_option linter.all false
open Go

def lfaults_j1 (N : Nat) (rec : (List (Int × Int)) → (List Int) → (List Int) → Int → Int → Int → (List (Int × Int)) → Int → Int → (List (List Int)) → (List Int) → Int → Option ((Unit) ⊕ ((Unit) ⊕ ((List (Int × Int)) × Int × List (List Int) × List Int × Int)))) (l : List (Int × Int)) (a : List Int) (b : List Int) (n : Int) (i : Int) (k : Int) (u : List (Int × Int)) (u2 : Int) (u3 : Int) (x : List (List Int)) (x2 : List Int) (x3 : Int) : Option ((Unit) ⊕ ((Unit) ⊕ ((List (Int × Int)) × Int × List (List Int) × List Int × Int))) :=
  chk (u3 + 1) <|
  rec l a b n i k u u2 (u3 + 1) x x2 x3
def lfaults_l1 (N : Nat) : Nat → (List (Int × Int)) → (List Int) → (List Int) → Int → Int → Int → (List (Int × Int)) → Int → Int → (List (List Int)) → (List Int) → Int → Option ((Unit) ⊕ ((Unit) ⊕ ((List (Int × Int)) × Int × List (List Int) × List Int × Int)))
  | 0, _, _, _, _, _, _, _, _, _, _, _, _ => none
  | n_ + 1, l, a, b, n, i, k, u, u2, u3, x, x2, x3 =>
    br (decide (u3 < u2))
      (idx u u3 fun x_3 =>
      br (decide ((x2.length : Int) ≤ u3))
        (some (.inl ()))
        (br (decide (x_3.1 = 3) && decide (x_3.2 = 0))
          (chk (n + 1) <|
          lfaults_j1 N (lfaults_l1 N n_) l a b (n + 1) i k u u2 u3 x x2 x3)
          (br (decide (x_3.1 = 1))
            (br (decide (i ≤ x_3.2))
              (br (decide (x_3.2 < (a.length : Int)))
                (idx a x_3.2 fun x_4 =>
                idx x2 u3 fun x_5 =>
                br (decide (x_4 = x_5))
                  (chk (n - 1) <|
                  chk (x_3.2 + 1) <|
                  lfaults_j1 N (lfaults_l1 N n_) l a b (n - 1) (x_3.2 + 1) k u u2 u3 x x2 x3)
                  (br (decide (x_3.1 = 2))
                    (br (decide (k ≤ x_3.2))
                      (br (decide (x_3.2 < (b.length : Int)))
                        (idx b x_3.2 fun x_6 =>
                        idx x2 u3 fun x_7 =>
                        br (decide (x_6 = x_7))
                          (chk (n - 1) <|
                          chk (x_3.2 + 1) <|
                          lfaults_j1 N (lfaults_l1 N n_) l a b (n - 1) i (x_3.2 + 1) u u2 u3 x x2 x3)
                          (some (.inr (.inl ()))))
                        (some (.inr (.inl ()))))
                      (some (.inr (.inl ()))))
                    (some (.inr (.inl ())))))
                (br (decide (x_3.1 = 2))
                  (br (decide (k ≤ x_3.2))
                    (br (decide (x_3.2 < (b.length : Int)))
                      (idx b x_3.2 fun x_8 =>
                      idx x2 u3 fun x_9 =>
                      br (decide (x_8 = x_9))
                        (chk (n - 1) <|
                        chk (x_3.2 + 1) <|
                        lfaults_j1 N (lfaults_l1 N n_) l a b (n - 1) i (x_3.2 + 1) u u2 u3 x x2 x3)
                        (some (.inr (.inl ()))))
                      (some (.inr (.inl ()))))
                    (some (.inr (.inl ()))))
                  (some (.inr (.inl ())))))
              (br (decide (x_3.1 = 2))
                (br (decide (k ≤ x_3.2))
                  (br (decide (x_3.2 < (b.length : Int)))
                    (idx b x_3.2 fun x_10 =>
                    idx x2 u3 fun x_11 =>
                    br (decide (x_10 = x_11))
                      (chk (n - 1) <|
                      chk (x_3.2 + 1) <|
                      lfaults_j1 N (lfaults_l1 N n_) l a b (n - 1) i (x_3.2 + 1) u u2 u3 x x2 x3)
                      (some (.inr (.inl ()))))
                    (some (.inr (.inl ()))))
                  (some (.inr (.inl ()))))
                (some (.inr (.inl ())))))
            (br (decide (x_3.1 = 2))
              (br (decide (k ≤ x_3.2))
                (br (decide (x_3.2 < (b.length : Int)))
                  (idx b x_3.2 fun x_12 =>
                  idx x2 u3 fun x_13 =>
                  br (decide (x_12 = x_13))
                    (chk (n - 1) <|
                    chk (x_3.2 + 1) <|
                    lfaults_j1 N (lfaults_l1 N n_) l a b (n - 1) i (x_3.2 + 1) u u2 u3 x x2 x3)
                    (some (.inr (.inl ()))))
                  (some (.inr (.inl ()))))
                (some (.inr (.inl ()))))
              (some (.inr (.inl ())))))))
      (some (.inr (.inr (l, n, x, x2, x3))))
def lfaults_S (N : Nat) (x : List (List Int)) (x2 : List Int) (x3 : Int) (p : Int) (p2 : Int) (l : List (Int × Int)) : Option (Int × Bool) :=
  idx x p fun x_1 =>
  idx x p2 fun x_2 =>
  chk ((x_1.length : Int) + (x_2.length : Int)) <|
  (lfaults_l1 N N l x_1 x_2 ((x_1.length : Int) + (x_2.length : Int)) 0 0 l (l.length : Int) 0 x x2 x3).bind fun e => match e with
  | .inl _ =>
    some (0, false)
  | .inr (.inl _) =>
    some (0, false)
  | .inr (.inr (l_14, n_15, x_16, x2_17, x3_18)) =>
    some (n_15, (decide ((l_14.length : Int) = (x2_17.length : Int))))
noncomputable def lfaults_sp (N : Nat) : List Spec := []
theorem lfaults_all (N : Nat) : AllP (SpecOK Try.prog) (lfaults_sp N) := trivial
noncomputable def lfaults_c : Code := (Try.f36.body).getD .skip
noncomputable abbrev lfaults_B : Body := { c := lfaults_c, n := 129, res := [.tmp 6, .tmp 7], outs := [⟨[.i .i64, .b], []⟩], m0 := 0 }
abbrev lfaults_rt : altD lfaults_B.outs → Option (Int × Bool) := fun r => some (r.1.1, r.1.2.1)
abbrev lfaults_l1_at : List PI := [.c [1, 1, 1, 0, 1, 0, 0, 0], .c [1, 1, 1, 0, 1, 0, 0, 1], .l [1, 1, 1, 0, 1, 0, 0], .b 0, .c [1, 1, 1, 1]]
abbrev lfaults_l1_st : Sta := ⟨[2, 3, 8, 9, 10, 11, 12, 32, 33, 34], ⟨[.sl (.pair (.int .i64) (.int .i64)), .own 0 0, .sl (.int .i64), .sl (.int .i64), .i .i64, .i .i64, .i .i64, .sl (.pair (.int .i64) (.int .i64)), .i .i64, .i .i64], [.segs [.sl (.sl (.int .i64)), .sl (.int .i64), .i .i64]]⟩⟩
abbrev lfaults_l1_h (rec : (List (Int × Int)) → (List Int) → (List Int) → Int → Int → Int → (List (Int × Int)) → Int → Int → (List (List Int)) → (List Int) → Int → Option ((Unit) ⊕ ((Unit) ⊕ ((List (Int × Int)) × Int × List (List Int) × List Int × Int)))) : Leaf ((Unit) ⊕ ((Unit) ⊕ ((List (Int × Int)) × Int × List (List Int) × List Int × Int))) := ⟨lfaults_l1_at, lfaults_l1_st, fun p => rec p.1.1 p.1.2.2.1 p.1.2.2.2.1 p.1.2.2.2.2.1 p.1.2.2.2.2.2.1 p.1.2.2.2.2.2.2.1 p.1.2.2.2.2.2.2.2.1 p.1.2.2.2.2.2.2.2.2.1 p.1.2.2.2.2.2.2.2.2.2.1 p.2.1.1 p.2.1.2.1 p.2.1.2.2.1⟩
abbrev lfaults_l1_e0 : Leaf ((Unit) ⊕ ((Unit) ⊕ ((List (Int × Int)) × Int × List (List Int) × List Int × Int))) := ⟨[.c [1, 1, 1, 0, 1, 0, 0, 1, 1, 0, 0, 1, 0, 1, 0, 0], .c [1, 1, 1, 0, 1, 0, 0, 1, 1, 0, 0, 1, 0, 1, 0, 1], .b 2, .b 1, .c [1, 1, 1, 0, 1, 0, 0, 1, 1, 1], .l [1, 1, 1, 0, 1, 0, 0], .b 0, .c [1, 1, 1, 1]], ⟨[], ⟨[], []⟩⟩, fun p => some (.inl ())⟩
abbrev lfaults_l1_e1 : Leaf ((Unit) ⊕ ((Unit) ⊕ ((List (Int × Int)) × Int × List (List Int) × List Int × Int))) := ⟨[.c [1, 1, 1, 0, 1, 0, 0, 1, 1, 0, 0, 1, 0, 1, 1, 1, 1, 1, 1, 1, 1, 0], .c [1, 1, 1, 0, 1, 0, 0, 1, 1, 0, 0, 1, 0, 1, 1, 1, 1, 1, 1, 1, 1, 1], .b 2, .b 1, .c [1, 1, 1, 0, 1, 0, 0, 1, 1, 1], .l [1, 1, 1, 0, 1, 0, 0], .b 0, .c [1, 1, 1, 1]], ⟨[], ⟨[], []⟩⟩, fun p => some (.inr (.inl ()))⟩
abbrev lfaults_l1_e2 : Leaf ((Unit) ⊕ ((Unit) ⊕ ((List (Int × Int)) × Int × List (List Int) × List Int × Int))) := ⟨[.c [1, 1, 1, 1, 0], .c [1, 1, 1, 1, 1]], ⟨[2, 3, 10], ⟨[.sl (.pair (.int .i64) (.int .i64)), .own 0 0, .i .i64], [.segs [.sl (.sl (.int .i64)), .sl (.int .i64), .i .i64]]⟩⟩, fun p => some (.inr (.inr (p.1.1, p.1.2.2.1, p.2.1.1, p.2.1.2.1, p.2.1.2.2.1)))⟩
abbrev lfaults_j1_at : List PI := [.c [1, 1, 1, 0, 1, 0, 0, 1, 1, 1], .l [1, 1, 1, 0, 1, 0, 0], .b 0, .c [1, 1, 1, 1]]
abbrev lfaults_j1_st : Sta := ⟨[2, 3, 8, 9, 10, 11, 12, 32, 33, 34], ⟨[.sl (.pair (.int .i64) (.int .i64)), .own 0 0, .sl (.int .i64), .sl (.int .i64), .i .i64, .i .i64, .i .i64, .sl (.pair (.int .i64) (.int .i64)), .i .i64, .i .i64], [.segs [.sl (.sl (.int .i64)), .sl (.int .i64), .i .i64]]⟩⟩
abbrev lfaults_j1_k (N : Nat) (rec : (List (Int × Int)) → (List Int) → (List Int) → Int → Int → Int → (List (Int × Int)) → Int → Int → (List (List Int)) → (List Int) → Int → Option ((Unit) ⊕ ((Unit) ⊕ ((List (Int × Int)) × Int × List (List Int) × List Int × Int)))) : Leaf ((Unit) ⊕ ((Unit) ⊕ ((List (Int × Int)) × Int × List (List Int) × List Int × Int))) := ⟨lfaults_j1_at, lfaults_j1_st, fun p => lfaults_j1 N rec p.1.1 p.1.2.2.1 p.1.2.2.2.1 p.1.2.2.2.2.1 p.1.2.2.2.2.2.1 p.1.2.2.2.2.2.2.1 p.1.2.2.2.2.2.2.2.1 p.1.2.2.2.2.2.2.2.2.1 p.1.2.2.2.2.2.2.2.2.2.1 p.2.1.1 p.2.1.2.1 p.2.1.2.2.1⟩
theorem lfaults_j1_eq (N : Nat) (rec : (List (Int × Int)) → (List Int) → (List Int) → Int → Int → Int → (List (Int × Int)) → Int → Int → (List (List Int)) → (List Int) → Int → Option ((Unit) ⊕ ((Unit) ⊕ ((List (Int × Int)) × Int × List (List Int) × List Int × Int)))) (l : List (Int × Int)) (a : List Int) (b : List Int) (n : Int) (i : Int) (k : Int) (u : List (Int × Int)) (u2 : Int) (u3 : Int) (x : List (List Int)) (x2 : List Int) (x3 : Int) : ev (Z := (Unit) ⊕ ((Unit) ⊕ ((List (Int × Int)) × Int × List (List Int) × List Int × Int))) Try.prog (lfaults_sp N) lfaults_B [] [lfaults_l1_h rec, lfaults_l1_e0, lfaults_l1_e1, lfaults_l1_e2] none 400 true lfaults_j1_at (stL lfaults_j1_st ((l, (), a, b, n, i, k, u, u2, u3, ()), ((x, x2, x3, ()), ()))) (stH lfaults_j1_st ((l, (), a, b, n, i, k, u, u2, u3, ()), ((x, x2, x3, ()), ()))) = lfaults_j1 N rec l a b n i k u u2 u3 x x2 x3 := by kernel_rfl
theorem lfaults_j1_lf (N : Nat) (rec : (List (Int × Int)) → (List Int) → (List Int) → Int → Int → Int → (List (Int × Int)) → Int → Int → (List (List Int)) → (List Int) → Int → Option ((Unit) ⊕ ((Unit) ⊕ ((List (Int × Int)) × Int × List (List Int) × List Int × Int)))) {z : (Unit) ⊕ ((Unit) ⊕ ((List (Int × Int)) × Int × List (List Int) × List Int × Int))} {top : Bool} {E : EE} {Xc : Ctx} (hE : EOK lfaults_B.m0 E) (hX : CxOK top Xc) (hrec : LeafOK Try.prog lfaults_B.c lfaults_B.n lfaults_B.m0 E Xc z (lfaults_l1_h rec)) (h0 : LeafOK Try.prog lfaults_B.c lfaults_B.n lfaults_B.m0 E Xc z lfaults_l1_e0) (h1 : LeafOK Try.prog lfaults_B.c lfaults_B.n lfaults_B.m0 E Xc z lfaults_l1_e1) (h2 : LeafOK Try.prog lfaults_B.c lfaults_B.n lfaults_B.m0 E Xc z lfaults_l1_e2) : LeafOK Try.prog lfaults_B.c lfaults_B.n lfaults_B.m0 E Xc z (lfaults_j1_k N rec) := leaf_of_ev (B := lfaults_B) (loops := []) (leaves := [lfaults_l1_h rec, lfaults_l1_e0, lfaults_l1_e1, lfaults_l1_e2]) (lfaults_all N) mixed trivial hE hX ⟨hrec, h0, h1, h2, trivial⟩ RetOK.no (fun p => lfaults_j1_eq N rec p.1.1 p.1.2.2.1 p.1.2.2.2.1 p.1.2.2.2.2.1 p.1.2.2.2.2.2.1 p.1.2.2.2.2.2.2.1 p.1.2.2.2.2.2.2.2.1 p.1.2.2.2.2.2.2.2.2.1 p.1.2.2.2.2.2.2.2.2.2.1 p.2.1.1 p.2.1.2.1 p.2.1.2.2.1)
noncomputable def lfaults_l1_L (N : Nat) : LoopS := { at_ := lfaults_l1_at, sta := lfaults_l1_st, exits := [([.c [1, 1, 1, 0, 1, 0, 0, 1, 1, 0, 0, 1, 0, 1, 0, 0], .c [1, 1, 1, 0, 1, 0, 0, 1, 1, 0, 0, 1, 0, 1, 0, 1], .b 2, .b 1, .c [1, 1, 1, 0, 1, 0, 0, 1, 1, 1], .l [1, 1, 1, 0, 1, 0, 0], .b 0, .c [1, 1, 1, 1]], ⟨[], ⟨[], []⟩⟩), ([.c [1, 1, 1, 0, 1, 0, 0, 1, 1, 0, 0, 1, 0, 1, 1, 1, 1, 1, 1, 1, 1, 0], .c [1, 1, 1, 0, 1, 0, 0, 1, 1, 0, 0, 1, 0, 1, 1, 1, 1, 1, 1, 1, 1, 1], .b 2, .b 1, .c [1, 1, 1, 0, 1, 0, 0, 1, 1, 1], .l [1, 1, 1, 0, 1, 0, 0], .b 0, .c [1, 1, 1, 1]], ⟨[], ⟨[], []⟩⟩), ([.c [1, 1, 1, 1, 0], .c [1, 1, 1, 1, 1]], ⟨[2, 3, 10], ⟨[.sl (.pair (.int .i64) (.int .i64)), .own 0 0, .i .i64], [.segs [.sl (.sl (.int .i64)), .sl (.int .i64), .i .i64]]⟩⟩)], run := fun p k => (lfaults_l1 N N p.1.1 p.1.2.2.1 p.1.2.2.2.1 p.1.2.2.2.2.1 p.1.2.2.2.2.2.1 p.1.2.2.2.2.2.2.1 p.1.2.2.2.2.2.2.2.1 p.1.2.2.2.2.2.2.2.2.1 p.1.2.2.2.2.2.2.2.2.2.1 p.2.1.1 p.2.1.2.1 p.2.1.2.2.1).bind fun e => match e with | .inl x => k (.inl ((), ())) | .inr (.inl x) => k (.inr (.inl ((), ()))) | .inr (.inr x) => k (.inr (.inr (.inl ((x.1, (), x.2.1, ()), ((x.2.2.1, x.2.2.2.1, x.2.2.2.2, ()), ()))))) }
theorem lfaults_l1_eq (N n_ : Nat) (l : List (Int × Int)) (a : List Int) (b : List Int) (n : Int) (i : Int) (k : Int) (u : List (Int × Int)) (u2 : Int) (u3 : Int) (x : List (List Int)) (x2 : List Int) (x3 : Int) : ev (Z := (Unit) ⊕ ((Unit) ⊕ ((List (Int × Int)) × Int × List (List Int) × List Int × Int))) Try.prog (lfaults_sp N) lfaults_B [] [lfaults_l1_h (lfaults_l1 N n_), lfaults_l1_e0, lfaults_l1_e1, lfaults_l1_e2, lfaults_j1_k N (lfaults_l1 N n_)] none 400 true lfaults_l1_at (stL lfaults_l1_st ((l, (), a, b, n, i, k, u, u2, u3, ()), ((x, x2, x3, ()), ()))) (stH lfaults_l1_st ((l, (), a, b, n, i, k, u, u2, u3, ()), ((x, x2, x3, ()), ()))) = lfaults_l1 N (n_ + 1) l a b n i k u u2 u3 x x2 x3 := by kernel_rfl
theorem lfaults_l1_ok (N : Nat) {top : Bool} : LoopOK Try.prog lfaults_B.c lfaults_B.n lfaults_B.m0 top (lfaults_l1_L N) := loop_of_ev (Z := (Unit) ⊕ ((Unit) ⊕ ((List (Int × Int)) × Int × List (List Int) × List Int × Int))) (N := N) (fun m p => lfaults_l1 N m p.1.1 p.1.2.2.1 p.1.2.2.2.1 p.1.2.2.2.2.1 p.1.2.2.2.2.2.1 p.1.2.2.2.2.2.2.1 p.1.2.2.2.2.2.2.2.1 p.1.2.2.2.2.2.2.2.2.1 p.1.2.2.2.2.2.2.2.2.2.1 p.2.1.1 p.2.1.2.1 p.2.1.2.2.1) (fun e => match e with | .inl x => .inl ((), ()) | .inr (.inl x) => .inr (.inl ((), ())) | .inr (.inr x) => .inr (.inr (.inl ((x.1, (), x.2.1, ()), ((x.2.2.1, x.2.2.2.1, x.2.2.2.2, ()), ()))))) (fun _ p k => bind_congr_ (lfaults_l1 N N p.1.1 p.1.2.2.1 p.1.2.2.2.1 p.1.2.2.2.2.1 p.1.2.2.2.2.2.1 p.1.2.2.2.2.2.2.1 p.1.2.2.2.2.2.2.2.1 p.1.2.2.2.2.2.2.2.2.1 p.1.2.2.2.2.2.2.2.2.2.1 p.2.1.1 p.2.1.2.1 p.2.1.2.2.1) _ _ (fun e => by rcases e with x | x | x <;> rfl)) (fun _ => rfl) (fun m z E Xc hE hX hrec hx => leaf_of_ev (B := lfaults_B) (loops := []) (leaves := [lfaults_l1_h (lfaults_l1 N m), lfaults_l1_e0, lfaults_l1_e1, lfaults_l1_e2, lfaults_j1_k N (lfaults_l1 N m)]) (lfaults_all N) mixed trivial hE hX ⟨hrec, (fun p hp => by obtain rfl := Option.some.inj hp; exact hx), (fun p hp => by obtain rfl := Option.some.inj hp; exact hx), (fun p hp => by obtain rfl := Option.some.inj hp; exact hx), lfaults_j1_lf N _ hE hX hrec (fun p hp => by obtain rfl := Option.some.inj hp; exact hx) (fun p hp => by obtain rfl := Option.some.inj hp; exact hx) (fun p hp => by obtain rfl := Option.some.inj hp; exact hx), trivial⟩ RetOK.no (fun p => lfaults_l1_eq N m p.1.1 p.1.2.2.1 p.1.2.2.2.1 p.1.2.2.2.2.1 p.1.2.2.2.2.2.1 p.1.2.2.2.2.2.2.1 p.1.2.2.2.2.2.2.2.1 p.1.2.2.2.2.2.2.2.2.1 p.1.2.2.2.2.2.2.2.2.2.1 p.2.1.1 p.2.1.2.1 p.2.1.2.2.1))
abbrev lfaults_st : Sta := ⟨[0, 1, 2], ⟨[.agg [.sl (.sl (.int .i64)), .sl (.int .i64), .i .i64], .agg [.i .i64, .i .i64], .sl (.pair (.int .i64) (.int .i64))], []⟩⟩
theorem lfaults_eq (N : Nat) (x : List (List Int)) (x2 : List Int) (x3 : Int) (p : Int) (p2 : Int) (l : List (Int × Int)) : ev (Z := Int × Bool) Try.prog (lfaults_sp N) lfaults_B [lfaults_l1_L N] [] (some lfaults_rt) 400 false [.c [0], .c [1]] (stL lfaults_st (((x, x2, x3, ()), (p, p2, ()), l, ()), ())) (stH lfaults_st (((x, x2, x3, ()), (p, p2, ()), l, ()), ())) = lfaults_S N x x2 x3 p p2 l := by kernel_rfl
noncomputable def sp_lfaults (N : Nat) : Spec := { f := 36, ins := ⟨[.agg [.sl (.sl (.int .i64)), .sl (.int .i64), .i .i64], .agg [.i .i64, .i .i64], .sl (.pair (.int .i64) (.int .i64))], []⟩, outs := [⟨[.i .i64, .b], []⟩], run := fun p k => (lfaults_S N p.1.1.1 p.1.1.2.1 p.1.1.2.2.1 p.1.2.1.1 p.1.2.1.2.1 p.1.2.2.1).bind fun r => k ((r.1, r.2, ()), ()) }
theorem sp_lfaults_ok (N : Nat) : SpecOK Try.prog (sp_lfaults N) := fn_sound (B := lfaults_B) (loops := [lfaults_l1_L N]) (leaves := []) (fun p => lfaults_S N p.1.1.1 p.1.1.2.1 p.1.1.2.2.1 p.1.2.1.1 p.1.2.1.2.1 p.1.2.2.1) (fun r => ((r.1, r.2, ()), ())) lfaults_rt (fun _ _ _ => rfl) (fun r z h => by cases h; rfl) Try.func36 (by kernel_rfl) (by kernel_rfl) (by kernel_rfl) rfl rfl (by kernel_rfl) (fun args w => Sem.pv_run _ _ _ (by kernel_rfl) w) (lfaults_all N) mixed ⟨lfaults_l1_ok N, trivial⟩ (fun z E Xc hE hX hret => trivial) (fun p => lfaults_eq N p.1.1.1 p.1.1.2.1 p.1.1.2.2.1 p.1.2.1.1 p.1.2.1.2.1 p.1.2.2.1)

def tried_j1 (N : Nat) (rec : Int → Int → (List Int) → Int → Int → (List Int) → Int → Int → (List (List Int)) → (List Int) → Int → Int → Int → (List (Int × Int)) → Option (List Int × Int × Int × (List (Int × Int)))) (i : Int) (k : Int) (u : List Int) (u2 : Int) (u3 : Int) (b : List Int) (b2 : Int) (b3 : Int) (x : List (List Int)) (x2 : List Int) (x3 : Int) (p : Int) (p2 : Int) (out : List (Int × Int)) (q : Int) (q2 : Int) : Option (List Int × Int × Int × (List (Int × Int))) :=
  lim (out.length + [(q, q2)].length) <|
  chk (u3 + 1) <|
  rec i k u u2 (u3 + 1) b b2 b3 x x2 x3 p p2 (out ++ [(q, q2)])
def tried_l1 (N : Nat) : Nat → Int → Int → (List Int) → Int → Int → (List Int) → Int → Int → (List (List Int)) → (List Int) → Int → Int → Int → (List (Int × Int)) → Option (List Int × Int × Int × (List (Int × Int)))
  | 0, _, _, _, _, _, _, _, _, _, _, _, _, _, _ => none
  | n_ + 1, i, k, u, u2, u3, b, b2, b3, x, x2, x3, p, p2, out =>
    br (decide (u3 < u2))
      (idx u u3 fun x_1 =>
      idx x p fun x_2 =>
      grd (decide ((0 : Int) ≤ i ∧ i ≤ (x_2.length : Int))) <|
      (indexi_S N (x_2.drop i.toNat) x_1).bind fun x_3 =>
      idx x p2 fun x_4 =>
      grd (decide ((0 : Int) ≤ k ∧ k ≤ (x_4.length : Int))) <|
      (indexi_S N (x_4.drop k.toNat) x_1).bind fun x_5 =>
      br (decide (0 ≤ x_3))
        (br (decide (x_5 < 0))
          ((seldom_S N 6 b b2 b3).bind fun (x_6, y_7, y_8, y_9) =>
          br (!x_6)
            (chk (i + x_3) <|
            chk ((i + x_3) + 1) <|
            tried_j1 N (tried_l1 N n_) ((i + x_3) + 1) k u u2 u3 y_7 y_8 y_9 x x2 x3 p p2 out 1 (i + x_3))
            (br (decide (0 ≤ x_5))
              ((seldom_S N 6 y_7 y_8 y_9).bind fun (x_10, y_11, y_12, y_13) =>
              br (!x_10)
                (chk (k + x_5) <|
                chk ((k + x_5) + 1) <|
                tried_j1 N (tried_l1 N n_) i ((k + x_5) + 1) u u2 u3 y_11 y_12 y_13 x x2 x3 p p2 out 2 (k + x_5))
                (tried_j1 N (tried_l1 N n_) i k u u2 u3 y_11 y_12 y_13 x x2 x3 p p2 out 3 0))
              (tried_j1 N (tried_l1 N n_) i k u u2 u3 y_7 y_8 y_9 x x2 x3 p p2 out 3 0)))
          ((seldom_S N 2 b b2 b3).bind fun (x_14, y_15, y_16, y_17) =>
          br x_14
            ((seldom_S N 6 y_15 y_16 y_17).bind fun (x_18, y_19, y_20, y_21) =>
            br (!x_18)
              (chk (i + x_3) <|
              chk ((i + x_3) + 1) <|
              tried_j1 N (tried_l1 N n_) ((i + x_3) + 1) k u u2 u3 y_19 y_20 y_21 x x2 x3 p p2 out 1 (i + x_3))
              (br (decide (0 ≤ x_5))
                ((seldom_S N 6 y_19 y_20 y_21).bind fun (x_22, y_23, y_24, y_25) =>
                br (!x_22)
                  (chk (k + x_5) <|
                  chk ((k + x_5) + 1) <|
                  tried_j1 N (tried_l1 N n_) i ((k + x_5) + 1) u u2 u3 y_23 y_24 y_25 x x2 x3 p p2 out 2 (k + x_5))
                  (tried_j1 N (tried_l1 N n_) i k u u2 u3 y_23 y_24 y_25 x x2 x3 p p2 out 3 0))
                (tried_j1 N (tried_l1 N n_) i k u u2 u3 y_19 y_20 y_21 x x2 x3 p p2 out 3 0)))
            (br (decide (0 ≤ x_5))
              ((seldom_S N 6 y_15 y_16 y_17).bind fun (x_26, y_27, y_28, y_29) =>
              br (!x_26)
                (chk (k + x_5) <|
                chk ((k + x_5) + 1) <|
                tried_j1 N (tried_l1 N n_) i ((k + x_5) + 1) u u2 u3 y_27 y_28 y_29 x x2 x3 p p2 out 2 (k + x_5))
                (tried_j1 N (tried_l1 N n_) i k u u2 u3 y_27 y_28 y_29 x x2 x3 p p2 out 3 0))
              (tried_j1 N (tried_l1 N n_) i k u u2 u3 y_15 y_16 y_17 x x2 x3 p p2 out 3 0))))
        (br (decide (0 ≤ x_5))
          ((seldom_S N 6 b b2 b3).bind fun (x_30, y_31, y_32, y_33) =>
          br (!x_30)
            (chk (k + x_5) <|
            chk ((k + x_5) + 1) <|
            tried_j1 N (tried_l1 N n_) i ((k + x_5) + 1) u u2 u3 y_31 y_32 y_33 x x2 x3 p p2 out 2 (k + x_5))
            (tried_j1 N (tried_l1 N n_) i k u u2 u3 y_31 y_32 y_33 x x2 x3 p p2 out 3 0))
          (tried_j1 N (tried_l1 N n_) i k u u2 u3 b b2 b3 x x2 x3 p p2 out 3 0)))
      (some ((b, b2, b3, out)))
def tried_S (N : Nat) (x : List (List Int)) (x2 : List Int) (x3 : Int) (p : Int) (p2 : Int) (b : List Int) (b2 : Int) (b3 : Int) : Option ((List (Int × Int)) × List Int × Int × Int) :=
  (tried_l1 N N 0 0 x2 (x2.length : Int) 0 b b2 b3 x x2 x3 p p2 ([] : (List (Int × Int)))).bind fun (g_34, g2_35, g3_36, out_37) =>
  some (out_37, g_34, g2_35, g3_36)
noncomputable def tried_sp (N : Nat) : List Spec := [sp_seldom N, sp_indexi N]
theorem tried_all (N : Nat) : AllP (SpecOK Try.prog) (tried_sp N) := ⟨sp_seldom_ok N, sp_indexi_ok N, trivial⟩
noncomputable def tried_c : Code := (Try.f35.body).getD .skip
noncomputable abbrev tried_B : Body := { c := tried_c, n := 88, res := [.tmp 6], outs := [⟨[.sl (.pair (.int .i64) (.int .i64))], [.segs [.sl (.int .u8), .i .i64, .i .u32]]⟩], m0 := 1 }
abbrev tried_rt : altD tried_B.outs → Option ((List (Int × Int)) × List Int × Int × Int) := fun r => some (r.1.1, r.2.1.1, r.2.1.2.1, r.2.1.2.2.1)
abbrev tried_l1_at : List PI := [.c [1, 1, 1, 0, 1, 0, 0, 0], .c [1, 1, 1, 0, 1, 0, 0, 1], .l [1, 1, 1, 0, 1, 0, 0], .b 0, .c [1, 1, 1, 1]]
abbrev tried_l1_st : Sta := ⟨[0, 4, 5, 7, 8, 9, 17, 18, 19], ⟨[.own 0 0, .own 1 0, .own 2 0, .i .i64, .i .i64, .ols 3, .sl (.int .i64), .i .i64, .i .i64], [.segs [.sl (.int .u8), .i .i64, .i .u32], .segs [.sl (.sl (.int .i64)), .sl (.int .i64), .i .i64], .segs [.i .i64, .i .i64], .lst (.pair (.int .i64) (.int .i64))]⟩⟩
abbrev tried_l1_h (rec : Int → Int → (List Int) → Int → Int → (List Int) → Int → Int → (List (List Int)) → (List Int) → Int → Int → Int → (List (Int × Int)) → Option (List Int × Int × Int × (List (Int × Int)))) : Leaf (List Int × Int × Int × (List (Int × Int))) := ⟨tried_l1_at, tried_l1_st, fun p => rec p.1.2.2.2.1 p.1.2.2.2.2.1 p.1.2.2.2.2.2.2.1 p.1.2.2.2.2.2.2.2.1 p.1.2.2.2.2.2.2.2.2.1 p.2.1.1 p.2.1.2.1 p.2.1.2.2.1 p.2.2.1.1 p.2.2.1.2.1 p.2.2.1.2.2.1 p.2.2.2.1.1 p.2.2.2.1.2.1 p.2.2.2.2.1⟩
abbrev tried_l1_e0 : Leaf (List Int × Int × Int × (List (Int × Int))) := ⟨[.c [1, 1, 1, 1, 0], .c [1, 1, 1, 1, 1]], ⟨[9], ⟨[.ols 1], [.segs [.sl (.int .u8), .i .i64, .i .u32], .lst (.pair (.int .i64) (.int .i64))]⟩⟩, fun p => some ((p.2.1.1, p.2.1.2.1, p.2.1.2.2.1, p.2.2.1))⟩
abbrev tried_j1_at : List PI := [.c [1, 1, 1, 0, 1, 0, 0, 1, 1, 0, 0, 1, 1, 1, 1], .b 1, .c [1, 1, 1, 0, 1, 0, 0, 1, 1, 1], .l [1, 1, 1, 0, 1, 0, 0], .b 0, .c [1, 1, 1, 1]]
abbrev tried_j1_st : Sta := ⟨[0, 4, 5, 7, 8, 9, 12, 17, 18, 19], ⟨[.own 0 0, .own 1 0, .own 2 0, .i .i64, .i .i64, .ols 3, .own 4 0, .sl (.int .i64), .i .i64, .i .i64], [.segs [.sl (.int .u8), .i .i64, .i .u32], .segs [.sl (.sl (.int .i64)), .sl (.int .i64), .i .i64], .segs [.i .i64, .i .i64], .lst (.pair (.int .i64) (.int .i64)), .segs [.i .i64, .i .i64]]⟩⟩
abbrev tried_j1_k (N : Nat) (rec : Int → Int → (List Int) → Int → Int → (List Int) → Int → Int → (List (List Int)) → (List Int) → Int → Int → Int → (List (Int × Int)) → Option (List Int × Int × Int × (List (Int × Int)))) : Leaf (List Int × Int × Int × (List (Int × Int))) := ⟨tried_j1_at, tried_j1_st, fun p => tried_j1 N rec p.1.2.2.2.1 p.1.2.2.2.2.1 p.1.2.2.2.2.2.2.2.1 p.1.2.2.2.2.2.2.2.2.1 p.1.2.2.2.2.2.2.2.2.2.1 p.2.1.1 p.2.1.2.1 p.2.1.2.2.1 p.2.2.1.1 p.2.2.1.2.1 p.2.2.1.2.2.1 p.2.2.2.1.1 p.2.2.2.1.2.1 p.2.2.2.2.1 p.2.2.2.2.2.1.1 p.2.2.2.2.2.1.2.1⟩
theorem tried_j1_eq (N : Nat) (rec : Int → Int → (List Int) → Int → Int → (List Int) → Int → Int → (List (List Int)) → (List Int) → Int → Int → Int → (List (Int × Int)) → Option (List Int × Int × Int × (List (Int × Int)))) (i : Int) (k : Int) (u : List Int) (u2 : Int) (u3 : Int) (b : List Int) (b2 : Int) (b3 : Int) (x : List (List Int)) (x2 : List Int) (x3 : Int) (p : Int) (p2 : Int) (out : List (Int × Int)) (q : Int) (q2 : Int) : ev (Z := List Int × Int × Int × (List (Int × Int))) Try.prog (tried_sp N) tried_B [] [tried_l1_h rec, tried_l1_e0] none 400 true tried_j1_at (stL tried_j1_st (((), (), (), i, k, (), (), u, u2, u3, ()), ((b, b2, b3, ()), (x, x2, x3, ()), (p, p2, ()), out, (q, q2, ()), ()))) (stH tried_j1_st (((), (), (), i, k, (), (), u, u2, u3, ()), ((b, b2, b3, ()), (x, x2, x3, ()), (p, p2, ()), out, (q, q2, ()), ()))) = tried_j1 N rec i k u u2 u3 b b2 b3 x x2 x3 p p2 out q q2 := by kernel_rfl
theorem tried_j1_lf (N : Nat) (rec : Int → Int → (List Int) → Int → Int → (List Int) → Int → Int → (List (List Int)) → (List Int) → Int → Int → Int → (List (Int × Int)) → Option (List Int × Int × Int × (List (Int × Int)))) {z : List Int × Int × Int × (List (Int × Int))} {top : Bool} {E : EE} {Xc : Ctx} (hE : EOK tried_B.m0 E) (hX : CxOK top Xc) (hrec : LeafOK Try.prog tried_B.c tried_B.n tried_B.m0 E Xc z (tried_l1_h rec)) (h0 : LeafOK Try.prog tried_B.c tried_B.n tried_B.m0 E Xc z tried_l1_e0) : LeafOK Try.prog tried_B.c tried_B.n tried_B.m0 E Xc z (tried_j1_k N rec) := leaf_of_ev (B := tried_B) (loops := []) (leaves := [tried_l1_h rec, tried_l1_e0]) (tried_all N) mixed trivial hE hX ⟨hrec, h0, trivial⟩ RetOK.no (fun p => tried_j1_eq N rec p.1.2.2.2.1 p.1.2.2.2.2.1 p.1.2.2.2.2.2.2.2.1 p.1.2.2.2.2.2.2.2.2.1 p.1.2.2.2.2.2.2.2.2.2.1 p.2.1.1 p.2.1.2.1 p.2.1.2.2.1 p.2.2.1.1 p.2.2.1.2.1 p.2.2.1.2.2.1 p.2.2.2.1.1 p.2.2.2.1.2.1 p.2.2.2.2.1 p.2.2.2.2.2.1.1 p.2.2.2.2.2.1.2.1)
noncomputable def tried_l1_L (N : Nat) : LoopS := { at_ := tried_l1_at, sta := tried_l1_st, exits := [([.c [1, 1, 1, 1, 0], .c [1, 1, 1, 1, 1]], ⟨[9], ⟨[.ols 1], [.segs [.sl (.int .u8), .i .i64, .i .u32], .lst (.pair (.int .i64) (.int .i64))]⟩⟩)], run := fun p k => (tried_l1 N N p.1.2.2.2.1 p.1.2.2.2.2.1 p.1.2.2.2.2.2.2.1 p.1.2.2.2.2.2.2.2.1 p.1.2.2.2.2.2.2.2.2.1 p.2.1.1 p.2.1.2.1 p.2.1.2.2.1 p.2.2.1.1 p.2.2.1.2.1 p.2.2.1.2.2.1 p.2.2.2.1.1 p.2.2.2.1.2.1 p.2.2.2.2.1).bind fun e => k (.inl (((), ()), ((e.1, e.2.1, e.2.2.1, ()), e.2.2.2, ()))) }
theorem tried_l1_eq (N n_ : Nat) (i : Int) (k : Int) (u : List Int) (u2 : Int) (u3 : Int) (b : List Int) (b2 : Int) (b3 : Int) (x : List (List Int)) (x2 : List Int) (x3 : Int) (p : Int) (p2 : Int) (out : List (Int × Int)) : ev (Z := List Int × Int × Int × (List (Int × Int))) Try.prog (tried_sp N) tried_B [] [tried_l1_h (tried_l1 N n_), tried_l1_e0, tried_j1_k N (tried_l1 N n_)] none 400 true tried_l1_at (stL tried_l1_st (((), (), (), i, k, (), u, u2, u3, ()), ((b, b2, b3, ()), (x, x2, x3, ()), (p, p2, ()), out, ()))) (stH tried_l1_st (((), (), (), i, k, (), u, u2, u3, ()), ((b, b2, b3, ()), (x, x2, x3, ()), (p, p2, ()), out, ()))) = tried_l1 N (n_ + 1) i k u u2 u3 b b2 b3 x x2 x3 p p2 out := by kernel_rfl
theorem tried_l1_ok (N : Nat) {top : Bool} : LoopOK Try.prog tried_B.c tried_B.n tried_B.m0 top (tried_l1_L N) := loop_of_ev (Z := List Int × Int × Int × (List (Int × Int))) (N := N) (fun m p => tried_l1 N m p.1.2.2.2.1 p.1.2.2.2.2.1 p.1.2.2.2.2.2.2.1 p.1.2.2.2.2.2.2.2.1 p.1.2.2.2.2.2.2.2.2.1 p.2.1.1 p.2.1.2.1 p.2.1.2.2.1 p.2.2.1.1 p.2.2.1.2.1 p.2.2.1.2.2.1 p.2.2.2.1.1 p.2.2.2.1.2.1 p.2.2.2.2.1) (fun e => .inl (((), ()), ((e.1, e.2.1, e.2.2.1, ()), e.2.2.2, ()))) (fun _ _ _ => rfl) (fun _ => rfl) (fun m z E Xc hE hX hrec hx => leaf_of_ev (B := tried_B) (loops := []) (leaves := [tried_l1_h (tried_l1 N m), tried_l1_e0, tried_j1_k N (tried_l1 N m)]) (tried_all N) mixed trivial hE hX ⟨hrec, (fun p hp => by obtain rfl := Option.some.inj hp; exact hx), tried_j1_lf N _ hE hX hrec (fun p hp => by obtain rfl := Option.some.inj hp; exact hx), trivial⟩ RetOK.no (fun p => tried_l1_eq N m p.1.2.2.2.1 p.1.2.2.2.2.1 p.1.2.2.2.2.2.2.1 p.1.2.2.2.2.2.2.2.1 p.1.2.2.2.2.2.2.2.2.1 p.2.1.1 p.2.1.2.1 p.2.1.2.2.1 p.2.2.1.1 p.2.2.1.2.1 p.2.2.1.2.2.1 p.2.2.2.1.1 p.2.2.2.1.2.1 p.2.2.2.2.1))
abbrev tried_st : Sta := ⟨[0, 1, 2], ⟨[.own 0 0, .agg [.sl (.sl (.int .i64)), .sl (.int .i64), .i .i64], .agg [.i .i64, .i .i64]], [.segs [.sl (.int .u8), .i .i64, .i .u32]]⟩⟩
theorem tried_eq (N : Nat) (x : List (List Int)) (x2 : List Int) (x3 : Int) (p : Int) (p2 : Int) (b : List Int) (b2 : Int) (b3 : Int) : ev (Z := (List (Int × Int)) × List Int × Int × Int) Try.prog (tried_sp N) tried_B [tried_l1_L N] [] (some tried_rt) 400 false [.c [0], .c [1]] (stL tried_st (((), (x, x2, x3, ()), (p, p2, ()), ()), ((b, b2, b3, ()), ()))) (stH tried_st (((), (x, x2, x3, ()), (p, p2, ()), ()), ((b, b2, b3, ()), ()))) = tried_S N x x2 x3 p p2 b b2 b3 := by kernel_rfl
noncomputable def sp_tried (N : Nat) : Spec := { f := 35, ins := ⟨[.own 0 0, .agg [.sl (.sl (.int .i64)), .sl (.int .i64), .i .i64], .agg [.i .i64, .i .i64]], [.segs [.sl (.int .u8), .i .i64, .i .u32]]⟩, outs := [⟨[.sl (.pair (.int .i64) (.int .i64))], [.segs [.sl (.int .u8), .i .i64, .i .u32]]⟩], run := fun p k => (tried_S N p.1.2.1.1 p.1.2.1.2.1 p.1.2.1.2.2.1 p.1.2.2.1.1 p.1.2.2.1.2.1 p.2.1.1 p.2.1.2.1 p.2.1.2.2.1).bind fun r => k ((r.1, ()), ((r.2.1, r.2.2.1, r.2.2.2, ()), ())) }
theorem sp_tried_ok (N : Nat) : SpecOK Try.prog (sp_tried N) := fn_sound (B := tried_B) (loops := [tried_l1_L N]) (leaves := []) (fun p => tried_S N p.1.2.1.1 p.1.2.1.2.1 p.1.2.1.2.2.1 p.1.2.2.1.1 p.1.2.2.1.2.1 p.2.1.1 p.2.1.2.1 p.2.1.2.2.1) (fun r => ((r.1, ()), ((r.2.1, r.2.2.1, r.2.2.2, ()), ()))) tried_rt (fun _ _ _ => rfl) (fun r z h => by cases h; rfl) Try.func35 (by kernel_rfl) (by kernel_rfl) (by kernel_rfl) rfl rfl (by kernel_rfl) (fun args w => Sem.pv_run _ _ _ (by kernel_rfl) w) (tried_all N) mixed ⟨tried_l1_ok N, trivial⟩ (fun z E Xc hE hX hret => trivial) (fun p => tried_eq N p.1.2.1.1 p.1.2.1.2.1 p.1.2.1.2.2.1 p.1.2.2.1.1 p.1.2.2.1.2.1 p.2.1.1 p.2.1.2.1 p.2.1.2.2.1)

def equalq_l1 (N : Nat) : Nat → (List (Int × Int)) → (List (Int × Int)) → Int → Int → Option ((Unit) ⊕ (Unit))
  | 0, _, _, _, _ => none
  | n_ + 1, s1, s2, u, u2 =>
    br (decide (u2 < u))
      (idx s1 u2 fun x_1 =>
      idx s2 u2 fun x_2 =>
      br (!(decide (x_1.1 = x_2.1) && decide (x_1.2 = x_2.2)))
        (some (.inl ()))
        (chk (u2 + 1) <|
        equalq_l1 N n_ s1 s2 u (u2 + 1)))
      (some (.inr ()))
def equalq_S (N : Nat) (s1 : List (Int × Int)) (s2 : List (Int × Int)) : Option Bool :=
  br (!decide ((s1.length : Int) = (s2.length : Int)))
    (some false)
    ((equalq_l1 N N s1 s2 (s1.length : Int) 0).bind fun e => match e with
    | .inl _ =>
      some false
    | .inr _ =>
      some true)
noncomputable def equalq_sp (N : Nat) : List Spec := []
theorem equalq_all (N : Nat) : AllP (SpecOK Try.prog) (equalq_sp N) := trivial
noncomputable def equalq_c : Code := (Try.f37.body).getD .skip
noncomputable abbrev equalq_B : Body := { c := equalq_c, n := 26, res := [.tmp 4], outs := [⟨[.b], []⟩], m0 := 0 }
abbrev equalq_rt : altD equalq_B.outs → Option Bool := fun r => some r.1.1
abbrev equalq_l1_at : List PI := [.c [1, 1, 0, 1, 0, 0, 0], .c [1, 1, 0, 1, 0, 0, 1], .l [1, 1, 0, 1, 0, 0], .b 0, .c [1, 1, 1]]
abbrev equalq_l1_st : Sta := ⟨[0, 1, 12, 13], ⟨[.sl (.pair (.int .i64) (.int .i64)), .sl (.pair (.int .i64) (.int .i64)), .i .i64, .i .i64], []⟩⟩
abbrev equalq_l1_h (rec : (List (Int × Int)) → (List (Int × Int)) → Int → Int → Option ((Unit) ⊕ (Unit))) : Leaf ((Unit) ⊕ (Unit)) := ⟨equalq_l1_at, equalq_l1_st, fun p => rec p.1.1 p.1.2.1 p.1.2.2.1 p.1.2.2.2.1⟩
abbrev equalq_l1_e0 : Leaf ((Unit) ⊕ (Unit)) := ⟨[.c [1, 1, 0, 1, 0, 0, 1, 1, 0, 0, 1, 1, 0, 0], .c [1, 1, 0, 1, 0, 0, 1, 1, 0, 0, 1, 1, 0, 1], .b 1, .c [1, 1, 0, 1, 0, 0, 1, 1, 1], .l [1, 1, 0, 1, 0, 0], .b 0, .c [1, 1, 1]], ⟨[], ⟨[], []⟩⟩, fun p => some (.inl ())⟩
abbrev equalq_l1_e1 : Leaf ((Unit) ⊕ (Unit)) := ⟨[.c [1, 1, 1, 0], .c [1, 1, 1, 1]], ⟨[], ⟨[], []⟩⟩, fun p => some (.inr ())⟩
noncomputable def equalq_l1_L (N : Nat) : LoopS := { at_ := equalq_l1_at, sta := equalq_l1_st, exits := [([.c [1, 1, 0, 1, 0, 0, 1, 1, 0, 0, 1, 1, 0, 0], .c [1, 1, 0, 1, 0, 0, 1, 1, 0, 0, 1, 1, 0, 1], .b 1, .c [1, 1, 0, 1, 0, 0, 1, 1, 1], .l [1, 1, 0, 1, 0, 0], .b 0, .c [1, 1, 1]], ⟨[], ⟨[], []⟩⟩), ([.c [1, 1, 1, 0], .c [1, 1, 1, 1]], ⟨[], ⟨[], []⟩⟩)], run := fun p k => (equalq_l1 N N p.1.1 p.1.2.1 p.1.2.2.1 p.1.2.2.2.1).bind fun e => match e with | .inl x => k (.inl ((), ())) | .inr x => k (.inr (.inl ((), ()))) }
theorem equalq_l1_eq (N n_ : Nat) (s1 : List (Int × Int)) (s2 : List (Int × Int)) (u : Int) (u2 : Int) : ev (Z := (Unit) ⊕ (Unit)) Try.prog (equalq_sp N) equalq_B [] [equalq_l1_h (equalq_l1 N n_), equalq_l1_e0, equalq_l1_e1] none 400 true equalq_l1_at (stL equalq_l1_st ((s1, s2, u, u2, ()), ())) (stH equalq_l1_st ((s1, s2, u, u2, ()), ())) = equalq_l1 N (n_ + 1) s1 s2 u u2 := by kernel_rfl
theorem equalq_l1_ok (N : Nat) {top : Bool} : LoopOK Try.prog equalq_B.c equalq_B.n equalq_B.m0 top (equalq_l1_L N) := loop_of_ev (Z := (Unit) ⊕ (Unit)) (N := N) (fun m p => equalq_l1 N m p.1.1 p.1.2.1 p.1.2.2.1 p.1.2.2.2.1) (fun e => match e with | .inl x => .inl ((), ()) | .inr x => .inr (.inl ((), ()))) (fun _ p k => bind_congr_ (equalq_l1 N N p.1.1 p.1.2.1 p.1.2.2.1 p.1.2.2.2.1) _ _ (fun e => by rcases e with x | x <;> rfl)) (fun _ => rfl) (fun m z E Xc hE hX hrec hx => leaf_of_ev (B := equalq_B) (loops := []) (leaves := [equalq_l1_h (equalq_l1 N m), equalq_l1_e0, equalq_l1_e1]) (equalq_all N) mixed trivial hE hX ⟨hrec, (fun p hp => by obtain rfl := Option.some.inj hp; exact hx), (fun p hp => by obtain rfl := Option.some.inj hp; exact hx), trivial⟩ RetOK.no (fun p => equalq_l1_eq N m p.1.1 p.1.2.1 p.1.2.2.1 p.1.2.2.2.1))
abbrev equalq_st : Sta := ⟨[0, 1], ⟨[.sl (.pair (.int .i64) (.int .i64)), .sl (.pair (.int .i64) (.int .i64))], []⟩⟩
theorem equalq_eq (N : Nat) (s1 : List (Int × Int)) (s2 : List (Int × Int)) : ev (Z := Bool) Try.prog (equalq_sp N) equalq_B [equalq_l1_L N] [] (some equalq_rt) 400 false [.c [0], .c [1]] (stL equalq_st ((s1, s2, ()), ())) (stH equalq_st ((s1, s2, ()), ())) = equalq_S N s1 s2 := by kernel_rfl
noncomputable def sp_equalq (N : Nat) : Spec := { f := 37, ins := ⟨[.sl (.pair (.int .i64) (.int .i64)), .sl (.pair (.int .i64) (.int .i64))], []⟩, outs := [⟨[.b], []⟩], run := fun p k => (equalq_S N p.1.1 p.1.2.1).bind fun r => k ((r, ()), ()) }
theorem sp_equalq_ok (N : Nat) : SpecOK Try.prog (sp_equalq N) := fn_sound (B := equalq_B) (loops := [equalq_l1_L N]) (leaves := []) (fun p => equalq_S N p.1.1 p.1.2.1) (fun r => ((r, ()), ())) equalq_rt (fun _ _ _ => rfl) (fun r z h => by cases h; rfl) Try.func37 (by kernel_rfl) (by kernel_rfl) (by kernel_rfl) rfl rfl (by kernel_rfl) (fun args w => Sem.pv_run _ _ _ (by kernel_rfl) w) (equalq_all N) mixed ⟨equalq_l1_ok N, trivial⟩ (fun z E Xc hE hX hret => trivial) (fun p => equalq_eq N p.1.1 p.1.2.1)

end Go.Proofs.Ytfcnhnbnjdccfaa

namespace Go.Proofs.Ytfcnhnbnjdccfaa
set_option linter.all false
open Go

section
variable {N : Nat} {T : List (List Int)} {H : List Int} {f : Int}
/-! ### The first least one -/
def tt2 (_ _ : Nat) : Bool := true
/-- All pairs of texts. -/
def prs (n : Nat) : List (Int × Int) := allTo tt2 n 0 n
theorem mem_prs {n : Nat} {x : Int × Int} : x ∈ prs n ↔ 0 ≤ x.1 ∧ x.1 ≤ x.2 ∧ x.2 < n := by
  unfold prs
  rw [mem_allTo]
  constructor
  · rintro ⟨i, j, h1, h2, h3, _, rfl⟩; dsimp only; omega
  · obtain ⟨a, b⟩ := x
    dsimp only
    intro h; exact ⟨a.toNat, b.toNat, by omega, by omega, by omega, rfl, by rw [Prod.mk.injEq]; omega⟩
theorem prs_len (n : Nat) : (prs n).length ≤ n * n := allTo_len tt2 n 0 n
theorem lpairs_l2_p {a s : Nat} {u u2 : Int} {O : List (Int × Int)} (hT : T.length ≤ 100) (ha : a < T.length) (hO : O.length ≤ 10000) : ∀ (n k : Nat), T.length < n + k → s ≤ k → k ≤ T.length →
    lpairs_l2 N n a k u u2 T H f (O ++ rowTo tt2 a s k) = some (u, u2, T, H, f, O ++ rowTo tt2 a s T.length)
  | 0, k, h1, h2, h3 => by omega
  | n + 1, k, h1, h2, h3 => by
    unfold lpairs_l2
    by_cases c : k < T.length
    · rw [br_dec (by omega)]
      have rl := rowTo_len tt2 a s k
      have next := lpairs_l2_p (s := s) (u := u) (u2 := u2) hT ha hO n (k + 1) (by omega) (by omega) (by omega)
      rw [show ((k + 1 : Nat) : Int) = (k : Int) + 1 by omega] at next
      rw [lim_eq (by simp; omega), chk_eq (by omega), List.append_assoc, ← rowTo_yes h2 rfl]
      exact next
    · have e : k = T.length := by omega
      rw [br_ndec (by omega), e]
theorem lpairs_l1_p (hT : T.length ≤ 20) (hN : T.length < N) : ∀ (n k : Nat), T.length < n + k → k ≤ T.length → lpairs_l1 N n (T.length : Int) k T H f (allTo tt2 T.length 0 k) = some (prs T.length)
  | 0, k, h1, h2 => by omega
  | n + 1, k, h1, h2 => by
    unfold lpairs_l1
    by_cases c : k < T.length
    · have al := allTo_len tt2 T.length 0 k
      have : k * T.length ≤ 20 * 20 := Nat.mul_le_mul (by omega) (by omega)
      rw [br_dec (by omega)]
      have e := lpairs_l2_p (N := N) (T := T) (H := H) (f := f) (s := k) (u := (T.length : Int)) (u2 := (k : Int)) (O := allTo tt2 T.length 0 k) (by omega) c (by omega) N k (by omega) (by omega) (by omega)
      rw [rowTo_zero, List.append_nil] at e
      rw [e]
      simp only [Option.bind_some]
      rw [chk_eq (by omega)]
      have next := lpairs_l1_p hT hN n (k + 1) (by omega) (by omega)
      rw [allTo_succ, Nat.add_zero, show ((k + 1 : Nat) : Int) = (k : Int) + 1 by omega] at next
      exact next
    · have e : k = T.length := by omega
      rw [br_ndec (by omega), e]; rfl
theorem lpairs_v (hT : T.length ≤ 20) (hN : T.length < N) : lpairs_S N T H f = some (prs T.length) := by
  unfold lpairs_S
  have := lpairs_l1_p (N := N) (T := T) (H := H) (f := f) hT hN N 0 (by omega) (by omega)
  rw [show allTo tt2 T.length 0 0 = [] from rfl] at this
  rw [show ((0 : Nat) : Int) = 0 from rfl] at this
  rw [this]; rfl
/-! ### The texts that are in all pairs -/
/-! ### The law -/
end
end Go.Proofs.Ytfcnhnbnjdccfaa

namespace Go.Proofs.Ytfcnhnbnjdccfaa
set_option linter.all false
open Go

/-- Numbers within their kind, lists no longer than may be. -/
def Ty.inB : (t : Ty) → t.den → Prop
  | .int k, n => inR k n
  | .bool, _ => True
  | .pair a b, x => a.inB x.1 ∧ b.inB x.2
  | .sl a, l => l.length ≤ 9223372036854775807 ∧ ∀ x ∈ (l : List a.den), a.inB x
  | .ptr a, x => a.inB x
theorem Ty.inB_of {M : Nat → Option Obj} : ∀ (t : Ty) (x : t.den) (vs : List Value), RepC M t x vs → t.inB x
  | .int k, n, vs, h => h.2
  | .bool, _, _, _ => trivial
  | .pair a b, x, vs, h => by
    obtain ⟨v1, v2, _, h1, h2⟩ := h
    exact ⟨Ty.inB_of a _ _ h1, Ty.inB_of b _ _ h2⟩
  | .sl a, l, vs, h => by
    obtain ⟨v, _, h1, ad, cap, _, _, h2⟩ := h
    refine ⟨h1, fun x hx => ?_⟩
    rcases h2 with rfl | ⟨b, o, us, ty, _, _, h3⟩
    · cases hx
    · obtain ⟨i, hi⟩ := List.getElem?_of_mem hx
      obtain ⟨us, _, h4⟩ := h3 i x hi
      exact Ty.inB_of a _ _ h4
  | .ptr a, x, vs, h => by
    obtain ⟨b, o, ws, ty, us, _, _, _, h4⟩ := h
    exact Ty.inB_of a _ _ h4
theorem Ty.inB_i64 {n : Int} (h : (Ty.int .i64).inB n) : -9223372036854775808 ≤ n ∧ n ≤ 9223372036854775807 := by
  have h1 : IntKind.i64.min = -9223372036854775808 := by decide
  have h2 : IntKind.i64.max = 9223372036854775807 := by decide
  unfold Ty.inB inR at h
  rw [h1, h2] at h
  exact h
end Go.Proofs.Ytfcnhnbnjdccfaa

namespace Go.Proofs.Ytfcnhnbnjdccfaa
set_option linter.all false
open Go

section
variable {N : Nat} {T : List (List Int)} {H : List Int} {f : Int}
/-! ### What is looked at, copies, comparisons -/
/-! ### The reference's errors -/
/-! ### Readings -/
/-- What is behind when a word that was heard has a place. -/
def stepF (A B : List Int) (w : Int) (x : At3) (q : Int × Int) : Option At3 :=
  if q.1 = 1 then (if (x.2.1 : Int) ≤ q.2 ∧ q.2 < A.length ∧ A.getD q.2.toNat 0 = w then some (x.1 + 1, q.2.toNat + 1, x.2.2) else none)
  else if q.1 = 2 then (if (x.2.2 : Int) ≤ q.2 ∧ q.2 < B.length ∧ B.getD q.2.toNat 0 = w then some (x.1 + 1, x.2.1, q.2.toNat + 1) else none)
  else if q.1 = 3 ∧ q.2 = 0 then some (x.1 + 1, x.2.1, x.2.2) else none
theorem mem_movesL {A B : List Int} {w : Int} {x : At3} {m : Mv} : m ∈ movesL A B w x ↔ stepF A B w x m.1 = some m.2 := by
  obtain ⟨⟨s, p⟩, y⟩ := m
  simp only [movesL, List.mem_cons, List.mem_append, List.mem_map, stepF]
  constructor
  · rintro (h | ⟨j, hj, h⟩ | ⟨j, hj, h⟩)
    · simp only [Prod.mk.injEq] at h
      obtain ⟨⟨rfl, rfl⟩, rfl⟩ := h
      simp
    · simp only [Prod.mk.injEq] at h
      obtain ⟨⟨rfl, rfl⟩, rfl⟩ := h
      obtain ⟨h1, h2, h3⟩ := mem_standsL.1 hj
      rw [if_pos rfl, if_pos ⟨by omega, by omega, by simpa using h3⟩]; simp
    · simp only [Prod.mk.injEq] at h
      obtain ⟨⟨rfl, rfl⟩, rfl⟩ := h
      obtain ⟨h1, h2, h3⟩ := mem_standsL.1 hj
      rw [if_neg (by decide), if_pos rfl, if_pos ⟨by omega, by omega, by simpa using h3⟩]; simp
  · intro h
    by_cases c1 : s = 1
    · rw [if_pos c1] at h
      split at h
      · rename_i hc
        simp only [Option.some.injEq] at h
        refine .inr (.inl ⟨p.toNat, mem_standsL.2 ⟨by omega, by omega, hc.2.2⟩, ?_⟩)
        rw [← h, c1, show ((p.toNat : Nat) : Int) = p by omega]
      · cases h
    · rw [if_neg c1] at h
      by_cases c2 : s = 2
      · rw [if_pos c2] at h
        split at h
        · rename_i hc
          simp only [Option.some.injEq] at h
          refine .inr (.inr ⟨p.toNat, mem_standsL.2 ⟨by omega, by omega, hc.2.2⟩, ?_⟩)
          rw [← h, c2, show ((p.toNat : Nat) : Int) = p by omega]
        · cases h
      · rw [if_neg c2] at h
        split at h
        · rename_i hc
          simp only [Option.some.injEq] at h
          exact .inl (by rw [← h, hc.1, hc.2])
        · cases h
/-- A reading that goes on from some place. -/
def fitL (H A B : List Int) : List (Int × Int) → At3 → Bool
  | [], _ => true
  | q :: r, x => match stepF A B (H.getD x.1 0) x q with
    | none => false
    | some y => fitL H A B r y
def toldN : List (Int × Int) → Int
  | [] => 0
  | q :: r => (if q.1 = 3 then 0 else 1) + toldN r
theorem toldN_bnd : ∀ l : List (Int × Int), 0 ≤ toldN l ∧ toldN l ≤ l.length
  | [] => by simp [toldN]
  | q :: r => by
    have := toldN_bnd r
    unfold toldN
    simp only [List.length_cons]
    split <;> omega
theorem nextR_v {h i k : Nat} {T : List (List Int)} {H A B : List Int} {f : Int} (hh : h < H.length) (hH : H.length ≤ 10) (hA : A.length ≤ 6) (hB : B.length ≤ 6) (hi : i ≤ A.length) (hk : k ≤ B.length) : nextR ((h : Int), (i : Int), (k : Int)) (T, H, f, A, B) = some ((movesL A B (H.getD h 0) (h, i, k)).map movP) := by
  unfold nextR
  rw [if_pos ⟨⟨by simp, by simp; omega⟩, ⟨by simp, by simp; omega⟩, ⟨by simp, by simp; omega⟩, by dsimp only; omega, by dsimp only; omega, by dsimp only; omega⟩]
  simp
/-! ### The reference's readings -/
end
end Go.Proofs.Ytfcnhnbnjdccfaa

namespace Go.Proofs.Ytfcnhnbnjdccfaa
set_option linter.all false
open Go

section
variable {N : Nat} {T : List (List Int)} {H A B : List Int} {f : Int}
/-- All readings of so many words from here on. -/
def rdx (H A B : List Int) : Nat → At3 → List (List (Int × Int))
  | 0, _ => [[]]
  | n + 1, x => (movesL A B (H.getD x.1 0) x).flatMap fun m => (rdx H A B n m.2).map fun r => m.1 :: r
/-! ### The best of them -/
theorem countP_zero {α : Type} {p : α → Bool} : ∀ {l : List α}, (∀ x ∈ l, p x = false) → l.countP p = 0
  | [], _ => rfl
  | a :: l, h => by
    rw [List.countP_cons, countP_zero (fun x hx => h x (by simp [hx])), h a (by simp)]; rfl
/-- So many words are told in the best of these, and there are so many best ones. -/
def BestOf (C : List (List (Int × Int))) (v : Int × Int) : Prop := (∀ r ∈ C, toldN r ≤ v.1) ∧ v.2 = (C.countP fun r => decide (toldN r = v.1) : Nat)
theorem BestOf.add {h n : Nat} {t : At3 → Int × Int} {m : Mv} {C D : List (List (Int × Int))} {best : Int × Int} (hb : BestOf C best) (hd : BestOf D (t m.2)) (h0 : 0 ≤ (t m.2).1) : BestOf (C ++ D.map fun r => m.1 :: r) (stepT mayA h t best m) := by
  have st : stepT mayA h t best m = (if best.1 < wT m.1.1 (t m.2).1 then (wT m.1.1 (t m.2).1, (t m.2).2) else if wT m.1.1 (t m.2).1 = best.1 then (best.1, best.2 + (t m.2).2) else best) := by
    unfold stepT; exact if_pos rfl
  have hw : wT m.1.1 (t m.2).1 = (if m.1.1 = 3 then 0 else 1) + (t m.2).1 := by
    unfold wT
    by_cases c : m.1.1 = 3
    · rw [if_neg (fun h => h.2 c), if_pos c]; omega
    · rw [if_pos ⟨h0, c⟩, if_neg c]; omega
  obtain ⟨b1, b2⟩ := hb
  obtain ⟨d1, d2⟩ := hd
  have tn : ∀ r, toldN (m.1 :: r) = (if m.1.1 = 3 then 0 else 1) + toldN r := fun r => rfl
  rw [st]
  generalize wT m.1.1 (t m.2).1 = W at *
  generalize (if m.1.1 = 3 then (0 : Int) else 1) = e at *
  have c1 : ∀ v : Int, ((D.map fun r => m.1 :: r).countP fun r => decide (toldN r = v)) = D.countP fun r => decide (toldN r = v - e) := by
    intro v
    rw [List.countP_map]
    congr 1
    funext r
    simp only [Function.comp]
    rw [tn]
    apply decide_eq_decide.2
    omega
  have le : ∀ r ∈ D.map (fun r => m.1 :: r), toldN r ≤ W := by
    intro r hr
    obtain ⟨r', hr', rfl⟩ := List.mem_map.1 hr
    rw [tn]; have := d1 r' hr'; omega
  by_cases k1 : best.1 < W
  · rw [if_pos k1]
    refine ⟨fun r hr => ?_, ?_⟩
    · rcases List.mem_append.1 hr with hr | hr
      · have := b1 r hr; dsimp only; omega
      · exact le r hr
    · dsimp only
      rw [List.countP_append, c1, show W - e = (t m.2).1 by omega, countP_zero (l := C) (fun r hr => by have := b1 r hr; simp; omega), d2]
      simp
  · rw [if_neg k1]
    by_cases k2 : W = best.1
    · rw [if_pos k2]
      refine ⟨fun r hr => ?_, ?_⟩
      · rcases List.mem_append.1 hr with hr | hr
        · exact b1 r hr
        · have := le r hr; dsimp only; omega
      · dsimp only
        rw [List.countP_append, c1, show best.1 - e = (t m.2).1 by omega, b2, d2]
        omega
    · rw [if_neg k2]
      refine ⟨fun r hr => ?_, ?_⟩
      · rcases List.mem_append.1 hr with hr | hr
        · exact b1 r hr
        · have := le r hr; omega
      · rw [List.countP_append, c1, countP_zero (l := D) (fun r hr => by have := d1 r hr; simp; omega), b2]
        simp
theorem BestOf.fold {h n : Nat} {t : At3 → Int × Int} (hd : ∀ y, y.1 = h + 1 → BestOf (rdx H A B n y) (t y) ∧ 0 ≤ (t y).1) : ∀ (ms : List Mv) (C : List (List (Int × Int))) (best : Int × Int), (∀ m ∈ ms, m.2.1 = h + 1) → BestOf C best → BestOf (C ++ ms.flatMap fun m => (rdx H A B n m.2).map fun r => m.1 :: r) (ms.foldl (stepT mayA h t) best)
  | [], C, best, _, hb => by simpa using hb
  | m :: ms, C, best, hm, hb => by
    rw [List.flatMap_cons, ← List.append_assoc, List.foldl_cons]
    obtain ⟨d1, d2⟩ := hd m.2 (hm m (by simp))
    exact BestOf.fold hd ms _ _ (fun m' h' => hm m' (by simp [h'])) (BestOf.add (n := n) hb d1 d2)
theorem rdx_best : ∀ (n : Nat) (x : At3), H.length = x.1 + n → BestOf (rdx H A B n x) (tvx mayA H A B n x)
  | 0, x, _ => ⟨fun r hr => by simp [rdx] at hr; subst hr; simp [tvx, toldN], by simp [rdx, tvx, toldN]⟩
  | n + 1, x, hx => by
    have := BestOf.fold (H := H) (A := A) (B := B) (h := x.1) (n := n) (t := tvx mayA H A B n) (fun y hy => ⟨rdx_best n y (by omega), tvx_nonneg H A B (h := y.1) (i := y.2.1) (k := y.2.2) (by omega)⟩) (movesL A B (H.getD x.1 0) x) [] (-1, 0) (fun m hm => by
      have h3 := mem_movesL.1 hm
      unfold stepF at h3
      split at h3
      · split at h3
        · simp only [Option.some.injEq] at h3; rw [← h3]
        · cases h3
      · split at h3
        · split at h3
          · simp only [Option.some.injEq] at h3; rw [← h3]
          · cases h3
        · split at h3
          · simp only [Option.some.injEq] at h3; rw [← h3]
          · cases h3) ⟨(fun r hr => by cases hr), rfl⟩
    exact this
theorem rdx_has : ∀ (n : Nat) (x : At3), H.length = x.1 + n → ∃ r ∈ rdx H A B n x, toldN r = (tvx mayA H A B n x).1
  | 0, x, _ => ⟨[], by simp [rdx], by simp [toldN, tvx]⟩
  | n + 1, x, hx => by
    have nn := tvx_nonneg H A B (h := x.1) (i := x.2.1) (k := x.2.2) hx
    rw [show ((x.1, x.2.1, x.2.2) : At3) = x from rfl, tvx] at nn
    rw [tvx]
    rcases fold_has (h := x.1) (t := tvx mayA H A B n) (movesL A B (H.getD x.1 0) x) (-1, 0) with h1 | ⟨m, hm, h1⟩
    · rw [h1] at nn; exact absurd nn (by decide)
    · have hy : m.2.1 = x.1 + 1 := by
        simp only [movesL, List.mem_cons, List.mem_append, List.mem_map] at hm
        rcases hm with rfl | ⟨j, _, rfl⟩ | ⟨j, _, rfl⟩ <;> rfl
      obtain ⟨r, hr, e⟩ := rdx_has n m.2 (by omega)
      have h0 := tvx_nonneg H A B (h := m.2.1) (i := m.2.2.1) (k := m.2.2.2) (n := n) (by omega)
      refine ⟨m.1 :: r, List.mem_flatMap.2 ⟨m, hm, List.mem_map.2 ⟨r, hr, rfl⟩⟩, ?_⟩
      rw [h1]
      unfold toldN wT
      by_cases c : m.1.1 = 3
      · rw [if_pos c, if_neg (fun h => h.2 c)]; rw [e]; omega
      · rw [if_neg c, if_pos ⟨h0, c⟩]; rw [e]; omega
theorem rdx_length : ∀ (n : Nat) (x : At3), ∀ r ∈ rdx H A B n x, r.length = n
  | 0, x, r, hr => by simp [rdx] at hr; subst hr; rfl
  | n + 1, x, r, hr => by
    obtain ⟨m, _, h⟩ := List.mem_flatMap.1 hr
    obtain ⟨r', hr', rfl⟩ := List.mem_map.1 h
    rw [List.length_cons, rdx_length n m.2 r' hr']
/-- All readings. -/
def rdAll (H A B : List Int) : List (List (Int × Int)) := rdx H A B H.length (0, 0, 0)
theorem rdAll_le : ∀ r ∈ rdAll H A B, toldN r ≤ (tv mayA H A B (0, 0, 0)).1 := (rdx_best (H := H) (A := A) (B := B) H.length (0, 0, 0) (by simp)).1
theorem rdAll_count : (tv mayA H A B (0, 0, 0)).2 = ((rdAll H A B).countP fun r => decide (toldN r = (tv mayA H A B (0, 0, 0)).1) : Nat) := (rdx_best (H := H) (A := A) (B := B) H.length (0, 0, 0) (by simp)).2
theorem rdAll_has : ∃ r ∈ rdAll H A B, toldN r = (tv mayA H A B (0, 0, 0)).1 := rdx_has (H := H) (A := A) (B := B) H.length (0, 0, 0) (by simp)
end
end Go.Proofs.Ytfcnhnbnjdccfaa

namespace Go.Proofs.Ytfcnhnbnjdccfaa
set_option linter.all false
open Go

section
variable {N : Nat} {T : List (List Int)} {H : List Int} {f : Int}
end
end Go.Proofs.Ytfcnhnbnjdccfaa

namespace Go.Proofs.Ytfcnhnbnjdccfaa
set_option linter.all false
open Go

def reading_l2_x0 (N : Nat) (u : Int) (d : ((List (List Int)) × ((List Int) × (Int × ((List Int) × (List Int)))))) (u2 : (Int × (Int × Int))) (u3 : ((List (List Int)) × ((List Int) × (Int × ((List Int) × (List Int)))))) (g_ : Int) (g2_ : Int) (g3_ : Int) (g4_ : List ((Int × (Int × Int)) × (Int × Int))) (g5_ : List (Int × Int)) : Option (Int × ((List (List Int)) × ((List Int) × (Int × ((List Int) × (List Int))))) × Int × Int × Int × (List ((Int × (Int × Int)) × (Int × Int))) × (List (Int × Int))) :=
  some ((u, d, g_, g2_, g3_, g4_, g5_))
def reading_l2_b (N : Nat) (rec : Int → Int → Int → (List ((Int × (Int × Int)) × (Int × Int))) → (List (Int × Int)) → Option (Int × ((List (List Int)) × ((List Int) × (Int × ((List Int) × (List Int))))) × Int × Int × Int × (List ((Int × (Int × Int)) × (Int × Int))) × (List (Int × Int)))) (u : Int) (d : ((List (List Int)) × ((List Int) × (Int × ((List Int) × (List Int)))))) (u2 : (Int × (Int × Int))) (u3 : ((List (List Int)) × ((List Int) × (Int × ((List Int) × (List Int)))))) (u' : Int) (x' : Int) (x2' : Int) (x3' : Int) (rests' : List ((Int × (Int × Int)) × (Int × Int))) (out' : List (Int × Int)) (q' : Int) (q2' : Int) (y' : Int) (y2' : Int) (y3' : Int) : Option (Int × ((List (List Int)) × ((List Int) × (Int × ((List Int) × (List Int))))) × Int × Int × Int × (List ((Int × (Int × Int)) × (Int × Int))) × (List (Int × Int))) :=
  br (!decide (q' = 3))
    (chk ((((rests'.find? fun (y : (Int × (Int × Int)) × (Int × Int)) => Ty.beq (.pair (.int .i64) (.pair (.int .i64) (.int .i64))) y.1 (y', y2', y3')).map (·.2)).getD (Ty.dflt (.pair (.int .i64) (.int .i64)))).1 + 1) <|
    br (decide (((((rests'.find? fun (y : (Int × (Int × Int)) × (Int × Int)) => Ty.beq (.pair (.int .i64) (.pair (.int .i64) (.int .i64))) y.1 (y', y2', y3')).map (·.2)).getD (Ty.dflt (.pair (.int .i64) (.int .i64)))).1 + 1) = (((rests'.find? fun (y : (Int × (Int × Int)) × (Int × Int)) => Ty.beq (.pair (.int .i64) (.pair (.int .i64) (.int .i64))) y.1 (x', x2', x3')).map (·.2)).getD (Ty.dflt (.pair (.int .i64) (.int .i64)))).1))
      (lim (out'.length + [(q', q2')].length) <|
      some ((u, d, y', y2', y3', rests', (out' ++ [(q', q2')]))))
      (rec x' x2' x3' rests' out'))
    (br (decide ((((rests'.find? fun (y : (Int × (Int × Int)) × (Int × Int)) => Ty.beq (.pair (.int .i64) (.pair (.int .i64) (.int .i64))) y.1 (y', y2', y3')).map (·.2)).getD (Ty.dflt (.pair (.int .i64) (.int .i64)))).1 = (((rests'.find? fun (y : (Int × (Int × Int)) × (Int × Int)) => Ty.beq (.pair (.int .i64) (.pair (.int .i64) (.int .i64))) y.1 (x', x2', x3')).map (·.2)).getD (Ty.dflt (.pair (.int .i64) (.int .i64)))).1))
      (lim (out'.length + [(q', q2')].length) <|
      some ((u, d, y', y2', y3', rests', (out' ++ [(q', q2')]))))
      (rec x' x2' x3' rests' out'))
def reading_l2 (N : Nat) : List Move → Int → (((List (List Int)) × ((List Int) × (Int × ((List Int) × (List Int)))))) → ((Int × (Int × Int))) → (((List (List Int)) × ((List Int) × (Int × ((List Int) × (List Int)))))) → Int → Int → Int → (List ((Int × (Int × Int)) × (Int × Int))) → (List (Int × Int)) → Option (Int × ((List (List Int)) × ((List Int) × (Int × ((List Int) × (List Int))))) × Int × Int × Int × (List ((Int × (Int × Int)) × (Int × Int))) × (List (Int × Int)))
  | [], u, d, u2, u3, x, x2, x3, rests, out =>
    some ((u, d, x, x2, x3, rests, out))
  | e :: es, u, d, u2, u3, x, x2, x3, rests, out =>
    reading_l2_b N (fun x_ x2_ x3_ rests_ out_ => reading_l2 N es u d u2 u3 x_ x2_ x3_ rests_ out_) u d u2 u3 u x x2 x3 rests out e.1.1 e.1.2.1 e.2.1.1 e.2.1.2.1 e.2.1.2.2.1
def reading_l1 (N : Nat) : Nat → Int → (((List (List Int)) × ((List Int) × (Int × ((List Int) × (List Int)))))) → Int → Int → Int → (List ((Int × (Int × Int)) × (Int × Int))) → (List (Int × Int)) → Option (List (Int × Int))
  | 0, _, _, _, _, _, _, _ => none
  | n_ + 1, u, d, x, x2, x3, rests, out =>
    br (decide (x < (d.2.1.length : Int)))
      ((next_S N d x x2 x3).bind fun (x_4, y_5) =>
      ((nextR x_4 y_5).bind fun es => reading_l2 N es u d x_4 y_5 x x2 x3 rests out).bind fun (u_6, d_7, x_8, x2_9, x3_10, rests_11, out_12) =>
      reading_l1 N n_ u_6 d_7 x_8 x2_9 x3_10 rests_11 out_12)
      (some (out))
def reading_S (N : Nat) (e : List (List Int)) (e2 : List Int) (e3 : Int) (p : Int) (p2 : Int) : Option ((List (Int × Int)) × Int) :=
  ((opened_S N e e2 e3 p p2).bind fun e => match e with
  | .inl (x_1, y_2) =>
    (br (!decide (y_2 = 0))
      (some ([], y_2))
      ((all_S N).bind fun _ =>
      (restsa_S N x_1).bind fun x_3 =>
      (reading_l1 N N 0 x_1 0 0 0 x_3 []).bind fun out_13 =>
      some (out_13, 0)))
  | .inr x_14 =>
    (br (!decide (x_14 = 0))
      (some ([], x_14))
      ((all_S N).bind fun _ =>
      none)))
noncomputable def reading_sp (N : Nat) : List Spec := [sp_opened N, sp_next N, sp_all N, sp_restsa N]
theorem reading_all (N : Nat) : AllP (SpecOK Try.prog) (reading_sp N) := ⟨sp_opened_ok N, sp_next_ok N, sp_all_ok N, sp_restsa_ok N, trivial⟩
noncomputable def reading_c : Code := (Try.f32.body).getD .skip
noncomputable abbrev reading_B : Body := { c := reading_c, n := 62, res := [.tmp 4, .tmp 5], outs := [⟨[.sl (.pair (.int .i64) (.int .i64)), .i .i64], []⟩], m0 := 0 }
abbrev reading_rt : altD reading_B.outs → Option ((List (Int × Int)) × Int) := fun r => some (r.1.1, r.1.2.1)
abbrev reading_l2_st : Sta := ⟨[4, 5, 6, 8, 9, 10, 38], ⟨[.nils, .i .i64, .fe (.pair (.sl (.sl (.int .i64))) (.pair (.sl (.int .i64)) (.pair (.int .i64) (.pair (.sl (.int .i64)) (.sl (.int .i64)))))), .own 0 0, .own 1 0, .own 2 0, .fn 122 [] [.fe (.pair (.int .i64) (.pair (.int .i64) (.int .i64))), .fe (.ptr (.pair (.sl (.sl (.int .i64))) (.pair (.sl (.int .i64)) (.pair (.int .i64) (.pair (.sl (.int .i64)) (.sl (.int .i64)))))))]], [.segs [.mp 3], .segs [.ols 4], .segs [.i .i64, .i .i64, .i .i64], .map (.pair (.int .i64) (.pair (.int .i64) (.int .i64))) (.pair (.int .i64) (.int .i64)), .lst (.pair (.int .i64) (.int .i64))]⟩⟩
abbrev reading_l2_stA : Sta := ⟨[4, 5, 8, 9, 10, 11, 12], ⟨[.nils, .i .i64, .own 0 0, .own 1 0, .own 2 0, .own 5 0, .own 6 0], [.segs [.mp 3], .segs [.ols 4], .segs [.i .i64, .i .i64, .i .i64], .map (.pair (.int .i64) (.pair (.int .i64) (.int .i64))) (.pair (.int .i64) (.int .i64)), .lst (.pair (.int .i64) (.int .i64)), .segs [.i .i64, .i .i64], .segs [.i .i64, .i .i64, .i .i64]]⟩⟩
abbrev reading_l2_e0 : Leaf (Int × ((List (List Int)) × ((List Int) × (Int × ((List Int) × (List Int))))) × Int × Int × Int × (List ((Int × (Int × Int)) × (Int × Int))) × (List (Int × Int))) := ⟨[.c [1, 1, 1, 1, 1, 1, 0, 0, 0, 0, 0], .c [1, 1, 1, 1, 1, 1, 0, 0, 0, 0, 1], .c [1, 1, 1, 1, 1, 1, 0, 0, 0, 1], .l [1, 1, 1, 1, 1, 1, 0, 0, 0], .b 0, .c [1, 1, 1, 1, 1, 1, 1]], ⟨[4, 5, 6, 8, 9, 10], ⟨[.nils, .i .i64, .fe (.pair (.sl (.sl (.int .i64))) (.pair (.sl (.int .i64)) (.pair (.int .i64) (.pair (.sl (.int .i64)) (.sl (.int .i64)))))), .own 0 0, .own 1 0, .own 2 0], [.segs [.mp 3], .segs [.ols 4], .segs [.i .i64, .i .i64, .i .i64], .map (.pair (.int .i64) (.pair (.int .i64) (.int .i64))) (.pair (.int .i64) (.int .i64)), .lst (.pair (.int .i64) (.int .i64))]⟩⟩, fun p => some ((p.1.2.1, p.1.2.2.1, p.2.2.2.1.1, p.2.2.2.1.2.1, p.2.2.2.1.2.2.1, p.2.2.2.2.1, p.2.2.2.2.2.1))⟩
noncomputable def reading_l2_L (N : Nat) : LoopS := { at_ := [.c [1, 1, 1, 1, 1, 1, 0, 0, 0, 1, 0, 0, 1, 1, 0], .b 2, .s [1, 1, 1, 1, 1, 1, 0, 0, 0, 1, 0, 0], .b 1, .l [1, 1, 1, 1, 1, 1, 0, 0, 0], .b 0, .c [1, 1, 1, 1, 1, 1, 1]], sta := reading_l2_st, exits := [([.c [1, 1, 1, 1, 1, 1, 0, 0, 0, 0, 0], .c [1, 1, 1, 1, 1, 1, 0, 0, 0, 0, 1], .c [1, 1, 1, 1, 1, 1, 0, 0, 0, 1], .l [1, 1, 1, 1, 1, 1, 0, 0, 0], .b 0, .c [1, 1, 1, 1, 1, 1, 1]], ⟨[4, 5, 6, 8, 9, 10], ⟨[.nils, .i .i64, .fe (.pair (.sl (.sl (.int .i64))) (.pair (.sl (.int .i64)) (.pair (.int .i64) (.pair (.sl (.int .i64)) (.sl (.int .i64)))))), .own 0 0, .own 1 0, .own 2 0], [.segs [.mp 3], .segs [.ols 4], .segs [.i .i64, .i .i64, .i .i64], .map (.pair (.int .i64) (.pair (.int .i64) (.int .i64))) (.pair (.int .i64) (.int .i64)), .lst (.pair (.int .i64) (.int .i64))]⟩⟩)], run := fun p k => ((nextR p.1.2.2.2.2.2.2.1.2.1 p.1.2.2.2.2.2.2.1.2.2.1).bind fun es => reading_l2 N es p.1.2.1 p.1.2.2.1 p.1.2.2.2.2.2.2.1.2.1 p.1.2.2.2.2.2.2.1.2.2.1 p.2.2.2.1.1 p.2.2.2.1.2.1 p.2.2.2.1.2.2.1 p.2.2.2.2.1 p.2.2.2.2.2.1).bind fun e => k (.inl (((), e.1, e.2.1, (), (), (), ()), (((), ()), ((), ()), (e.2.2.1, e.2.2.2.1, e.2.2.2.2.1, ()), e.2.2.2.2.2.1, e.2.2.2.2.2.2, ()))) }
noncomputable abbrev reading_l2_Bk : Body := { c := reading_c, n := reading_B.n, res := reading_B.res, outs := reading_B.outs, m0 := 5 }
theorem reading_l2_end (N : Nat) (u : Int) (d : ((List (List Int)) × ((List Int) × (Int × ((List Int) × (List Int)))))) (u2 : (Int × (Int × Int))) (u3 : ((List (List Int)) × ((List Int) × (Int × ((List Int) × (List Int)))))) (x : Int) (x2 : Int) (x3 : Int) (rests : List ((Int × (Int × Int)) × (Int × Int))) (out : List (Int × Int)) : ev (Z := Int × ((List (List Int)) × ((List Int) × (Int × ((List Int) × (List Int))))) × Int × Int × Int × (List ((Int × (Int × Int)) × (Int × Int))) × (List (Int × Int))) Try.prog (reading_sp N) reading_B [] [reading_l2_e0] none 400 false (nrm reading_B.c 99 [.b 2, .s [1, 1, 1, 1, 1, 1, 0, 0, 0, 1, 0, 0], .b 1, .l [1, 1, 1, 1, 1, 1, 0, 0, 0], .b 0, .c [1, 1, 1, 1, 1, 1, 1]]) (stL reading_l2_st (((), u, d, (), (), (), ((), (u2, u3, ())), ()), (((), ()), ((), ()), (x, x2, x3, ()), rests, out, ()))) (stH reading_l2_st (((), u, d, (), (), (), ((), (u2, u3, ())), ()), (((), ()), ((), ()), (x, x2, x3, ()), rests, out, ()))) = reading_l2 N [] u d u2 u3 x x2 x3 rests out := by kernel_rfl
theorem reading_l2_asg (N : Nat) (e : Move) (es : List Move) (u : Int) (d : ((List (List Int)) × ((List Int) × (Int × ((List Int) × (List Int)))))) (u2 : (Int × (Int × Int))) (u3 : ((List (List Int)) × ((List Int) × (Int × ((List Int) × (List Int)))))) (x : Int) (x2 : Int) (x3 : Int) (rests : List ((Int × (Int × Int)) × (Int × Int))) (out : List (Int × Int)) : ev (Z := Int × ((List (List Int)) × ((List Int) × (Int × ((List Int) × (List Int))))) × Int × Int × Int × (List ((Int × (Int × Int)) × (Int × Int))) × (List (Int × Int))) Try.prog (reading_sp N) reading_l2_Bk [] [⟨[.r, .c [1, 1, 1, 1, 1, 1, 0, 0, 0, 1, 0, 0, 1, 1, 0, 1]], reading_l2_stA, fun p => reading_l2_b N (fun x_ x2_ x3_ rests_ out_ => reading_l2 N es u d u2 u3 x_ x2_ x3_ rests_ out_) u d u2 u3 p.1.2.1 p.2.2.2.1.1 p.2.2.2.1.2.1 p.2.2.2.1.2.2.1 p.2.2.2.2.1 p.2.2.2.2.2.1 p.2.2.2.2.2.2.1.1 p.2.2.2.2.2.2.1.2.1 p.2.2.2.2.2.2.2.1.1 p.2.2.2.2.2.2.2.1.2.1 p.2.2.2.2.2.2.2.1.2.2.1⟩] none 400 false (nrm reading_B.c 99 [.c [1, 1, 1, 1, 1, 1, 0, 0, 0, 1, 0, 0, 1, 1, 0, 0], .r, .c [1, 1, 1, 1, 1, 1, 0, 0, 0, 1, 0, 0, 1, 1, 0, 1]]) (pars [39, 40] (encs id is_next.elem e) (stL reading_l2_st (((), u, d, (), (), (), ((), (u2, u3, ())), ()), (((), ()), ((), ()), (x, x2, x3, ()), rests, out, ())))) (stH reading_l2_st (((), u, d, (), (), (), ((), (u2, u3, ())), ()), (((), ()), ((), ()), (x, x2, x3, ()), rests, out, ()))) = reading_l2 N (e :: es) u d u2 u3 x x2 x3 rests out := by kernel_rfl
theorem reading_l2_bod (N : Nat) (rec : Int → Int → Int → (List ((Int × (Int × Int)) × (Int × Int))) → (List (Int × Int)) → Option (Int × ((List (List Int)) × ((List Int) × (Int × ((List Int) × (List Int))))) × Int × Int × Int × (List ((Int × (Int × Int)) × (Int × Int))) × (List (Int × Int)))) (u : Int) (d : ((List (List Int)) × ((List Int) × (Int × ((List Int) × (List Int)))))) (u2 : (Int × (Int × Int))) (u3 : ((List (List Int)) × ((List Int) × (Int × ((List Int) × (List Int)))))) (u' : Int) (x' : Int) (x2' : Int) (x3' : Int) (rests' : List ((Int × (Int × Int)) × (Int × Int))) (out' : List (Int × Int)) (q' : Int) (q2' : Int) (y' : Int) (y2' : Int) (y3' : Int) : ev (Z := Int × ((List (List Int)) × ((List Int) × (Int × ((List Int) × (List Int))))) × Int × Int × Int × (List ((Int × (Int × Int)) × (Int × Int))) × (List (Int × Int))) Try.prog (reading_sp N) reading_l2_Bk [] [⟨[], ⟨[], ⟨[], [.segs [.mp 3], .segs [.ols 4], .segs [.i .i64, .i .i64, .i .i64], .map (.pair (.int .i64) (.pair (.int .i64) (.int .i64))) (.pair (.int .i64) (.int .i64)), .lst (.pair (.int .i64) (.int .i64))]⟩⟩, fun p => rec p.2.2.2.1.1 p.2.2.2.1.2.1 p.2.2.2.1.2.2.1 p.2.2.2.2.1 p.2.2.2.2.2.1⟩, ⟨[.c [1, 1, 1, 1, 1, 1, 0, 0, 0, 1, 0, 0, 1, 1, 0, 1, 0, 1, 1, 1, 0, 1], .b 3], ⟨[], ⟨[], [.segs [.mp 3], .segs [.ols 5], .segs [.i .i64, .i .i64, .i .i64], .map (.pair (.int .i64) (.pair (.int .i64) (.int .i64))) (.pair (.int .i64) (.int .i64)), .dead, .lst (.pair (.int .i64) (.int .i64))]⟩⟩, fun p => reading_l2_x0 N u d u2 u3 p.2.2.2.1.1 p.2.2.2.1.2.1 p.2.2.2.1.2.2.1 p.2.2.2.2.1 p.2.2.2.2.2.2.1⟩] none 400 false (nrm reading_B.c 99 [.c [1, 1, 1, 1, 1, 1, 0, 0, 0, 1, 0, 0, 1, 1, 0, 1]]) (stL reading_l2_stA (((), u', (), (), (), (), (), ()), (((), ()), ((), ()), (x', x2', x3', ()), rests', out', (q', q2', ()), (y', y2', y3', ()), ()))) (stH reading_l2_stA (((), u', (), (), (), (), (), ()), (((), ()), ((), ()), (x', x2', x3', ()), rests', out', (q', q2', ()), (y', y2', y3', ()), ()))) = reading_l2_b N rec u d u2 u3 u' x' x2' x3' rests' out' q' q2' y' y2' y3' := by kernel_rfl
theorem reading_l2_esc0 (N : Nat) (u : Int) (d : ((List (List Int)) × ((List Int) × (Int × ((List Int) × (List Int)))))) (u2 : (Int × (Int × Int))) (u3 : ((List (List Int)) × ((List Int) × (Int × ((List Int) × (List Int)))))) (g_ : Int) (g2_ : Int) (g3_ : Int) (g4_ : List ((Int × (Int × Int)) × (Int × Int))) (g5_ : List (Int × Int)) : ev (Z := Int × ((List (List Int)) × ((List Int) × (Int × ((List Int) × (List Int))))) × Int × Int × Int × (List ((Int × (Int × Int)) × (Int × Int))) × (List (Int × Int))) Try.prog (reading_sp N) reading_B [] [reading_l2_e0] none 400 false (nrm reading_B.c 99 (.c [1, 1, 1, 1, 1, 1, 0, 0, 0, 1, 0, 0, 1, 1, 0, 1, 0, 1, 1, 1, 0, 1] :: [.b 2, .s [1, 1, 1, 1, 1, 1, 0, 0, 0, 1, 0, 0], .b 1, .l [1, 1, 1, 1, 1, 1, 0, 0, 0], .b 0, .c [1, 1, 1, 1, 1, 1, 1]])) (reading_l2_st.tmps.zip (encs id reading_l2_st.sh.avs ((), u, d, (), (), (), ((), (u2, u3, ())), ()))) (encBs id [.segs [.mp 3], .segs [.ols 5], .segs [.i .i64, .i .i64, .i .i64], .map (.pair (.int .i64) (.pair (.int .i64) (.int .i64))) (.pair (.int .i64) (.int .i64)), .dead, .lst (.pair (.int .i64) (.int .i64))] (((), ()), ((), ()), (g_, g2_, g3_, ()), g4_, (), g5_, ())) = reading_l2_x0 N u d u2 u3 g_ g2_ g3_ g4_ g5_ := by kernel_rfl
theorem reading_l2_ok (N : Nat) : LoopOK Try.prog reading_B.c reading_B.n reading_B.m0 true (reading_l2_L N) := by
  refine range_ok (B := reading_B) (is := is_next) (g := .tmp 38) (ps := #[39, 40]) (assign := sub reading_c [1, 1, 1, 1, 1, 1, 0, 0, 0, 1, 0, 0, 1, 1, 0, 0]) (body := sub reading_c [1, 1, 1, 1, 1, 1, 0, 0, 0, 1, 0, 0, 1, 1, 0, 1]) (Z := Int × ((List (List Int)) × ((List Int) × (Int × ((List Int) × (List Int))))) × Int × Int × Int × (List ((Int × (Int × Int)) × (Int × Int))) × (List (Int × Int))) (x := reading_l2_L N) (fun p => (p.1.2.2.2.2.2.2.1.2.1, p.1.2.2.2.2.2.2.1.2.2.1, ())) (fun es p => reading_l2 N es p.1.2.1 p.1.2.2.1 p.1.2.2.2.2.2.2.1.2.1 p.1.2.2.2.2.2.2.1.2.2.1 p.2.2.2.1.1 p.2.2.2.1.2.1 p.2.2.2.1.2.2.1 p.2.2.2.2.1 p.2.2.2.2.2.1) (staA := reading_l2_stA) (fun es q p => reading_l2_b N (fun x_ x2_ x3_ rests_ out_ => reading_l2 N es q.2.1 q.2.2.1 q.2.2.2.2.2.2.1.2.1 q.2.2.2.2.2.2.1.2.2.1 x_ x2_ x3_ rests_ out_) q.2.1 q.2.2.1 q.2.2.2.2.2.2.1.2.1 q.2.2.2.2.2.2.1.2.2.1 p.1.2.1 p.2.2.2.1.1 p.2.2.2.1.2.1 p.2.2.2.1.2.2.1 p.2.2.2.2.1 p.2.2.2.2.2.1 p.2.2.2.2.2.2.1.1 p.2.2.2.2.2.2.1.2.1 p.2.2.2.2.2.2.2.1.1 p.2.2.2.2.2.2.2.1.2.1 p.2.2.2.2.2.2.2.1.2.2.1) [⟨[1, 1, 1, 1, 1, 1, 0, 0, 0, 1, 0, 0, 1, 1, 0, 1, 0, 1, 1, 1, 0, 1], [.b 3], [.segs [.mp 3], .segs [.ols 5], .segs [.i .i64, .i .i64, .i .i64], .map (.pair (.int .i64) (.pair (.int .i64) (.int .i64))) (.pair (.int .i64) (.int .i64)), .dead, .lst (.pair (.int .i64) (.int .i64))], fun q b => reading_l2_x0 N q.2.1 q.2.2.1 q.2.2.2.2.2.2.1.2.1 q.2.2.2.2.2.2.1.2.2.1 ((), b).2.2.2.1.1 ((), b).2.2.2.1.2.1 ((), b).2.2.2.1.2.2.1 ((), b).2.2.2.2.1 ((), b).2.2.2.2.2.2.1⟩] (fun e => .inl (((), e.1, e.2.1, (), (), (), ()), (((), ()), ((), ()), (e.2.2.1, e.2.2.2.1, e.2.2.2.2.1, ()), e.2.2.2.2.2.1, e.2.2.2.2.2.2, ()))) (fun _ _ _ => rfl) rfl (by kernel_rfl) (fun _ => by kernel_rfl) (by kernel_rfl) is_next_ok (Nat.le_of_ble_eq_true (by kernel_rfl)) (by kernel_rfl) ?_ ?_ ?_ ?_
  · exact fun z E Xc hE hX hx p hp a w hS => ev_sound (z := z) (B := reading_B) (loops := []) (leaves := [reading_l2_e0]) (top := true) (reading_all N) mixed trivial hE hX ⟨(fun p hp => by obtain rfl := Option.some.inj hp; exact hx), trivial⟩ RetOK.no 400 false _ _ _ ((reading_l2_end N p.1.2.1 p.1.2.2.1 p.1.2.2.2.2.2.2.1.2.1 p.1.2.2.2.2.2.2.1.2.2.1 p.2.2.2.1.1 p.2.2.2.1.2.1 p.2.2.2.1.2.2.1 p.2.2.2.2.1 p.2.2.2.2.2.1).trans hp) a w hS
  · intro z E Xc hE hX hx e he q b hb a w hS
    simp only [List.mem_cons, List.not_mem_nil, or_false] at he
    rcases he with rfl
    · exact ev_sound (z := z) (B := reading_B) (loops := []) (leaves := [reading_l2_e0]) (top := true) (reading_all N) mixed trivial hE hX ⟨(fun p hp => by obtain rfl := Option.some.inj hp; exact hx), trivial⟩ RetOK.no 400 false _ _ _ ((reading_l2_esc0 N q.2.1 q.2.2.1 q.2.2.2.2.2.2.1.2.1 q.2.2.2.2.2.2.1.2.2.1 ((), b).2.2.2.1.1 ((), b).2.2.2.1.2.1 ((), b).2.2.2.1.2.2.1 ((), b).2.2.2.2.1 ((), b).2.2.2.2.2.2.1).trans hb) a w hS
  · exact fun z E Xc hE hX e es p hl hp a w hS => ev_sound (z := z) (B := reading_l2_Bk) (loops := []) (leaves := [_]) (top := false) (reading_all N) mixed trivial hE hX ⟨hl, trivial⟩ RetOK.no 400 false _ _ _ ((reading_l2_asg N e es p.1.2.1 p.1.2.2.1 p.1.2.2.2.2.2.2.1.2.1 p.1.2.2.2.2.2.2.1.2.2.1 p.2.2.2.1.1 p.2.2.2.1.2.1 p.2.2.2.1.2.2.1 p.2.2.2.2.1 p.2.2.2.2.2.1).trans hp) a w hS
  · exact fun z E Xc hE hX es q he hs p hp a w hS => ev_sound (z := z) (B := reading_l2_Bk) (loops := []) (leaves := [_, _]) (top := false) (reading_all N) mixed trivial hE hX ⟨he, hs _ List.mem_cons_self, trivial⟩ RetOK.no 400 false _ _ _ ((reading_l2_bod N (fun x_ x2_ x3_ rests_ out_ => reading_l2 N es q.2.1 q.2.2.1 q.2.2.2.2.2.2.1.2.1 q.2.2.2.2.2.2.1.2.2.1 x_ x2_ x3_ rests_ out_) q.2.1 q.2.2.1 q.2.2.2.2.2.2.1.2.1 q.2.2.2.2.2.2.1.2.2.1 p.1.2.1 p.2.2.2.1.1 p.2.2.2.1.2.1 p.2.2.2.1.2.2.1 p.2.2.2.2.1 p.2.2.2.2.2.1 p.2.2.2.2.2.2.1.1 p.2.2.2.2.2.2.1.2.1 p.2.2.2.2.2.2.2.1.1 p.2.2.2.2.2.2.2.1.2.1 p.2.2.2.2.2.2.2.1.2.2.1).trans hp) a w hS
abbrev reading_l1_at : List PI := [.c [1, 1, 1, 1, 1, 1, 0, 0, 0, 0, 0], .c [1, 1, 1, 1, 1, 1, 0, 0, 0, 0, 1], .c [1, 1, 1, 1, 1, 1, 0, 0, 0, 1], .l [1, 1, 1, 1, 1, 1, 0, 0, 0], .b 0, .c [1, 1, 1, 1, 1, 1, 1]]
abbrev reading_l1_st : Sta := ⟨[4, 5, 6, 8, 9, 10], ⟨[.nils, .i .i64, .fe (.pair (.sl (.sl (.int .i64))) (.pair (.sl (.int .i64)) (.pair (.int .i64) (.pair (.sl (.int .i64)) (.sl (.int .i64)))))), .own 0 0, .own 1 0, .own 2 0], [.segs [.mp 3], .segs [.ols 4], .segs [.i .i64, .i .i64, .i .i64], .map (.pair (.int .i64) (.pair (.int .i64) (.int .i64))) (.pair (.int .i64) (.int .i64)), .lst (.pair (.int .i64) (.int .i64))]⟩⟩
abbrev reading_l1_h (rec : Int → (((List (List Int)) × ((List Int) × (Int × ((List Int) × (List Int)))))) → Int → Int → Int → (List ((Int × (Int × Int)) × (Int × Int))) → (List (Int × Int)) → Option (List (Int × Int))) : Leaf (List (Int × Int)) := ⟨reading_l1_at, reading_l1_st, fun p => rec p.1.2.1 p.1.2.2.1 p.2.2.2.1.1 p.2.2.2.1.2.1 p.2.2.2.1.2.2.1 p.2.2.2.2.1 p.2.2.2.2.2.1⟩
abbrev reading_l1_e0 : Leaf (List (Int × Int)) := ⟨[.c [1, 1, 1, 1, 1, 1, 1, 0], .c [1, 1, 1, 1, 1, 1, 1, 1]], ⟨[9], ⟨[.own 0 0], [.segs [.ols 1], .lst (.pair (.int .i64) (.int .i64))]⟩⟩, fun p => some (p.2.2.1)⟩
noncomputable def reading_l1_L (N : Nat) : LoopS := { at_ := reading_l1_at, sta := reading_l1_st, exits := [([.c [1, 1, 1, 1, 1, 1, 1, 0], .c [1, 1, 1, 1, 1, 1, 1, 1]], ⟨[9], ⟨[.own 0 0], [.segs [.ols 1], .lst (.pair (.int .i64) (.int .i64))]⟩⟩)], run := fun p k => (reading_l1 N N p.1.2.1 p.1.2.2.1 p.2.2.2.1.1 p.2.2.2.1.2.1 p.2.2.2.1.2.2.1 p.2.2.2.2.1 p.2.2.2.2.2.1).bind fun e => k (.inl (((), ()), (((), ()), e, ()))) }
theorem reading_l1_eq (N n_ : Nat) (u : Int) (d : ((List (List Int)) × ((List Int) × (Int × ((List Int) × (List Int)))))) (x : Int) (x2 : Int) (x3 : Int) (rests : List ((Int × (Int × Int)) × (Int × Int))) (out : List (Int × Int)) : ev (Z := (List (Int × Int))) Try.prog (reading_sp N) reading_B [reading_l2_L N] [reading_l1_h (reading_l1 N n_), reading_l1_e0] none 400 true reading_l1_at (stL reading_l1_st (((), u, d, (), (), (), ()), (((), ()), ((), ()), (x, x2, x3, ()), rests, out, ()))) (stH reading_l1_st (((), u, d, (), (), (), ()), (((), ()), ((), ()), (x, x2, x3, ()), rests, out, ()))) = reading_l1 N (n_ + 1) u d x x2 x3 rests out := by kernel_rfl
theorem reading_l1_ok (N : Nat) : LoopOK Try.prog reading_B.c reading_B.n reading_B.m0 true (reading_l1_L N) := loop_of_ev (Z := (List (Int × Int))) (N := N) (fun m p => reading_l1 N m p.1.2.1 p.1.2.2.1 p.2.2.2.1.1 p.2.2.2.1.2.1 p.2.2.2.1.2.2.1 p.2.2.2.2.1 p.2.2.2.2.2.1) (fun e => .inl (((), ()), (((), ()), e, ()))) (fun _ _ _ => rfl) (fun _ => rfl) (fun m z E Xc hE hX hrec hx => leaf_of_ev (B := reading_B) (loops := [reading_l2_L N]) (leaves := [reading_l1_h (reading_l1 N m), reading_l1_e0]) (reading_all N) mixed ⟨reading_l2_ok N, trivial⟩ hE hX ⟨hrec, (fun p hp => by obtain rfl := Option.some.inj hp; exact hx), trivial⟩ RetOK.no (fun p => reading_l1_eq N m p.1.2.1 p.1.2.2.1 p.2.2.2.1.1 p.2.2.2.1.2.1 p.2.2.2.1.2.2.1 p.2.2.2.2.1 p.2.2.2.2.2.1))
abbrev reading_st : Sta := ⟨[0, 1], ⟨[.agg [.sl (.sl (.int .i64)), .sl (.int .i64), .i .i64], .agg [.i .i64, .i .i64]], []⟩⟩
theorem reading_eq (N : Nat) (e : List (List Int)) (e2 : List Int) (e3 : Int) (p : Int) (p2 : Int) : ev (Z := (List (Int × Int)) × Int) Try.prog (reading_sp N) reading_B [reading_l2_L N, reading_l1_L N] [] (some reading_rt) 400 false [.c [0], .c [1]] (stL reading_st (((e, e2, e3, ()), (p, p2, ()), ()), ())) (stH reading_st (((e, e2, e3, ()), (p, p2, ()), ()), ())) = reading_S N e e2 e3 p p2 := by kernel_rfl
noncomputable def sp_reading (N : Nat) : Spec := { f := 32, ins := ⟨[.agg [.sl (.sl (.int .i64)), .sl (.int .i64), .i .i64], .agg [.i .i64, .i .i64]], []⟩, outs := [⟨[.sl (.pair (.int .i64) (.int .i64)), .i .i64], []⟩], run := fun p k => (reading_S N p.1.1.1 p.1.1.2.1 p.1.1.2.2.1 p.1.2.1.1 p.1.2.1.2.1).bind fun r => k ((r.1, r.2, ()), ()) }
theorem sp_reading_ok (N : Nat) : SpecOK Try.prog (sp_reading N) := fn_sound (B := reading_B) (loops := [reading_l2_L N, reading_l1_L N]) (leaves := []) (fun p => reading_S N p.1.1.1 p.1.1.2.1 p.1.1.2.2.1 p.1.2.1.1 p.1.2.1.2.1) (fun r => ((r.1, r.2, ()), ())) reading_rt (fun _ _ _ => rfl) (fun r z h => by cases h; rfl) Try.func32 (by kernel_rfl) (by kernel_rfl) (by kernel_rfl) rfl rfl (by kernel_rfl) (fun args w => Sem.pv_run _ _ _ (by kernel_rfl) w) (reading_all N) mixed ⟨reading_l2_ok N, reading_l1_ok N, trivial⟩ (fun z E Xc hE hX hret => trivial) (fun p => reading_eq N p.1.1.1 p.1.1.2.1 p.1.1.2.2.1 p.1.2.1.1 p.1.2.1.2.1)

def esure_j1 (N : Nat) (rec : Int → (List (Int × Int)) → (List Int) → Int → Bool → (List (Int × Int)) → Int → Int → Int → (List (List Int)) → (List Int) → Int → (List Int) → Int → Int → Int → Int → Option ((Unit) ⊕ ((List (Int × Int)) × List Int × Int × Bool × (List (Int × Int)) × Int × Int × List (List Int) × List Int × Int × List Int × Int × Int))) (n : Int) (l : List (Int × Int)) (sure : List Int) (many : Int) (other : Bool) (u : List (Int × Int)) (u2 : Int) (u3 : Int) (u4 : Int) (x : List (List Int)) (x2 : List Int) (x3 : Int) (q : List Int) (q2 : Int) (q3 : Int) (p : Int) (p2 : Int) : Option ((Unit) ⊕ ((List (Int × Int)) × List Int × Int × Bool × (List (Int × Int)) × Int × Int × List (List Int) × List Int × Int × List Int × Int × Int)) :=
  chk (u4 + 1) <|
  rec n l sure many other u u2 u3 (u4 + 1) x x2 x3 q q2 q3 p p2
def esure_l3 (N : Nat) : Nat → Int → (List (Int × Int)) → (List Int) → Int → Bool → (List (Int × Int)) → (List (Int × Int)) → Int → Int → Int → (List Int) → Int → Int → (List (List Int)) → (List Int) → Int → (List Int) → Int → Int → Int → Int → Option ((Unit) ⊕ (Int × (List (Int × Int)) × List Int × Int × Bool × (List (Int × Int)) × Int × Int × Int × List (List Int) × List Int × Int × List Int × Int × Int × Int × Int))
  | 0, _, _, _, _, _, _, _, _, _, _, _, _, _, _, _, _, _, _, _, _, _ => none
  | n_ + 1, n, l, sure, many, other, o, u, u2, u3, u4, u5, u6, u7, x, x2, x3, q, q2, q3, p, p2 =>
    br (decide (u7 < u6))
      (idx u5 u7 fun x_29 =>
      br (!decide (x_29 = 0))
        (idx o u7 fun x_30 =>
        br (!decide (x_30.1 = x_29))
          (some (.inl ()))
          (chk (u7 + 1) <|
          esure_l3 N n_ n l sure many other o u u2 u3 u4 u5 u6 (u7 + 1) x x2 x3 q q2 q3 p p2))
        (chk (u7 + 1) <|
        esure_l3 N n_ n l sure many other o u u2 u3 u4 u5 u6 (u7 + 1) x x2 x3 q q2 q3 p p2))
      (some (.inr (n, l, sure, many, other, u, u2, u3, u4, x, x2, x3, q, q2, q3, p, p2)))
def esure_l2 (N : Nat) : Nat → Int → (List (Int × Int)) → (List Int) → Int → Bool → (List (Int × Int)) → Int → Int → Int → (List (List Int)) → (List Int) → Int → (List Int) → Int → Int → Int → Int → Option ((Unit) ⊕ ((List (Int × Int)) × List Int × Int × Bool × (List (Int × Int)) × Int × Int × List (List Int) × List Int × Int × List Int × Int × Int))
  | 0, _, _, _, _, _, _, _, _, _, _, _, _, _, _, _, _, _ => none
  | n_ + 1, n, l, sure, many, other, u, u2, u3, u4, x, x2, x3, q, q2, q3, p, p2 =>
    br (decide (u4 < 6))
      ((tried_S N x x2 x3 p p2 q q2 q3).bind fun (x_23, y_24, y_25, y_26) =>
      (lfaults_S N x x2 x3 p p2 x_23).bind fun (x_27, y_28) =>
      br (!y_28)
        (esure_j1 N (esure_l2 N n_) n l sure many other u u2 u3 u4 x x2 x3 y_24 y_25 y_26 p p2)
        (br (decide (n < x_27))
          (esure_j1 N (esure_l2 N n_) n l sure many other u u2 u3 u4 x x2 x3 y_24 y_25 y_26 p p2)
          (br other
            ((esure_l3 N N n l sure many true x_23 u u2 u3 u4 sure (sure.length : Int) 0 x x2 x3 y_24 y_25 y_26 p p2).bind fun e => match e with
            | .inl _ =>
              some (.inl ())
            | .inr (n_31, l_32, sure_33, many_34, other_35, u_36, u2_37, u3_38, u4_39, x_40, x2_41, x3_42, q_43, q2_44, q3_45, p_46, p2_47) =>
              esure_j1 N (esure_l2 N n_) n_31 l_32 sure_33 many_34 other_35 u_36 u2_37 u3_38 u4_39 x_40 x2_41 x3_42 q_43 q2_44 q3_45 p_46 p2_47)
            ((equalq_S N x_23 l).bind fun x_48 =>
            (esure_l3 N N n l sure many (!x_48) x_23 u u2 u3 u4 sure (sure.length : Int) 0 x x2 x3 y_24 y_25 y_26 p p2).bind fun e => match e with
            | .inl _ =>
              some (.inl ())
            | .inr (n_49, l_50, sure_51, many_52, other_53, u_54, u2_55, u3_56, u4_57, x_58, x2_59, x3_60, q_61, q2_62, q3_63, p_64, p2_65) =>
              esure_j1 N (esure_l2 N n_) n_49 l_50 sure_51 many_52 other_53 u_54 u2_55 u3_56 u4_57 x_58 x2_59 x3_60 q_61 q2_62 q3_63 p_64 p2_65))))
      (some (.inr (l, sure, many, other, u, u2, u3, x, x2, x3, q, q2, q3)))
def esure_l4 (N : Nat) : Nat → (List (Int × Int)) → Int → Bool → (List (Int × Int)) → Int → Int → (List Int) → Int → Int → (List (List Int)) → (List Int) → Int → (List Int) → Int → Int → Option ((Unit) ⊕ (Int × Bool × (List (Int × Int)) × Int × Int × List (List Int) × List Int × Int × List Int × Int × Int))
  | 0, _, _, _, _, _, _, _, _, _, _, _, _, _, _, _ => none
  | n_ + 1, l, many, other, u, u2, u3, u4, u5, u6, x, x2, x3, q, q2, q3 =>
    br (decide (u6 < u5))
      (idx u4 u6 fun x_79 =>
      br (!decide (x_79 = 0))
        (idx l u6 fun x_80 =>
        br (!decide (x_80.1 = x_79))
          (some (.inl ()))
          (br (decide (x_79 = 0))
            (br (decide (many = 1))
              (some (.inl ()))
              (chk (u6 + 1) <|
              esure_l4 N n_ l many other u u2 u3 u4 u5 (u6 + 1) x x2 x3 q q2 q3))
            (chk (u6 + 1) <|
            esure_l4 N n_ l many other u u2 u3 u4 u5 (u6 + 1) x x2 x3 q q2 q3)))
        (br (decide (x_79 = 0))
          (br (decide (many = 1))
            (some (.inl ()))
            (chk (u6 + 1) <|
            esure_l4 N n_ l many other u u2 u3 u4 u5 (u6 + 1) x x2 x3 q q2 q3))
          (chk (u6 + 1) <|
          esure_l4 N n_ l many other u u2 u3 u4 u5 (u6 + 1) x x2 x3 q q2 q3)))
      (some (.inr (many, other, u, u2, u3, x, x2, x3, q, q2, q3)))
def esure_l1 (N : Nat) : Nat → (List (Int × Int)) → Int → Int → (List (List Int)) → (List Int) → Int → (List Int) → Int → Int → Option ((Unit) ⊕ ((Unit) ⊕ ((Unit) ⊕ ((Unit) ⊕ (Unit)))))
  | 0, _, _, _, _, _, _, _, _, _ => none
  | n_ + 1, u, u2, u3, x, x2, x3, q, q2, q3 =>
    br (decide (u3 < u2))
      (idx u u3 fun x_14 =>
      (least_S N x x2 x3 x_14.1 x_14.2).bind fun (x_15, y_16) =>
      (reading_S N x x2 x3 x_14.1 x_14.2).bind fun (x_17, y_18) =>
      (sure_S N x x2 x3 x_14.1 x_14.2).bind fun (x_19, y_20) =>
      (count_S N x x2 x3 x_14.1 x_14.2).bind fun (x_21, y_22) =>
      br (!decide (y_16 = 0))
        (some (.inl ()))
        (br (!decide (y_18 = 0))
          (some (.inl ()))
          (br (!decide (y_20 = 0))
            (some (.inl ()))
            (br (!decide (y_22 = 0))
              (some (.inl ()))
              (br (!decide ((x_19.length : Int) = (x2.length : Int)))
                (some (.inl ()))
                (br (!decide ((x_17.length : Int) = (x2.length : Int)))
                  (some (.inl ()))
                  (br (decide (x_21 < 1))
                    (some (.inl ()))
                    ((esure_l2 N N x_15 x_17 x_19 x_21 false u u2 u3 0 x x2 x3 q q2 q3 x_14.1 x_14.2).bind fun e => match e with
                    | .inl _ =>
                      some (.inr (.inl ()))
                    | .inr (l_66, sure_67, many_68, other_69, u_70, u2_71, u3_72, x_73, x2_74, x3_75, q_76, q2_77, q3_78) =>
                      (esure_l4 N N l_66 many_68 other_69 u_70 u2_71 u3_72 sure_67 (sure_67.length : Int) 0 x_73 x2_74 x3_75 q_76 q2_77 q3_78).bind fun e => match e with
                      | .inl _ =>
                        some (.inr (.inr (.inl ())))
                      | .inr (many_81, other_82, u_83, u2_84, u3_85, x_86, x2_87, x3_88, q_89, q2_90, q3_91) =>
                        br other_82
                          (br (decide (many_81 = 1))
                            (some (.inr (.inr (.inr (.inl ())))))
                            (chk (u3_85 + 1) <|
                            esure_l1 N n_ u_83 u2_84 (u3_85 + 1) x_86 x2_87 x3_88 q_89 q2_90 q3_91))
                          (chk (u3_85 + 1) <|
                          esure_l1 N n_ u_83 u2_84 (u3_85 + 1) x_86 x2_87 x3_88 q_89 q2_90 q3_91)))))))))
      (some (.inr (.inr (.inr (.inr ())))))
def esure_S (N : Nat) (numbers : List Int) (tries : List Int) : Option Bool :=
  (hang_S N numbers).bind fun (x_1, y_2, y_3) =>
  (made_S N 3 5 8 x_1 y_2 y_3).bind fun (x_4, y_5, y_6, y_7, y_8, y_9) =>
  (hang_S N tries).bind fun (x_10, y_11, y_12) =>
  (lpairs_S N x_4 y_5 y_6).bind fun x_13 =>
  (esure_l1 N N x_13 (x_13.length : Int) 0 x_4 y_5 y_6 x_10 y_11 y_12).bind fun e => match e with
  | .inl _ =>
    some false
  | .inr (.inl _) =>
    some false
  | .inr (.inr (.inl _)) =>
    some false
  | .inr (.inr (.inr (.inl _))) =>
    some false
  | .inr (.inr (.inr (.inr _))) =>
    (awake_S N).bind fun x_92 =>
    some x_92
noncomputable def esure_sp (N : Nat) : List Spec := [sp_hang N, sp_least N, sp_count N, sp_sure N, sp_awake N, sp_made N, sp_lpairs N, sp_lfaults N, sp_tried N, sp_equalq N, sp_reading N]
theorem esure_all (N : Nat) : AllP (SpecOK Try.prog) (esure_sp N) := ⟨sp_hang_ok N, sp_least_ok N, sp_count_ok N, sp_sure_ok N, sp_awake_ok N, sp_made_ok N, sp_lpairs_ok N, sp_lfaults_ok N, sp_tried_ok N, sp_equalq_ok N, sp_reading_ok N, trivial⟩
noncomputable def esure_c : Code := (Try.f5.body).getD .skip
noncomputable abbrev esure_B : Body := { c := esure_c, n := 176, res := [.tmp 4], outs := [⟨[.b], []⟩], m0 := 0 }
abbrev esure_rt : altD esure_B.outs → Option Bool := fun r => some r.1.1
abbrev esure_l2_at : List PI := [.c [1, 1, 1, 0, 1, 0, 0, 1, 1, 0, 0, 1, 1, 1, 1, 1, 1, 1, 0, 1, 0, 0, 0], .c [1, 1, 1, 0, 1, 0, 0, 1, 1, 0, 0, 1, 1, 1, 1, 1, 1, 1, 0, 1, 0, 0, 1], .l [1, 1, 1, 0, 1, 0, 0, 1, 1, 0, 0, 1, 1, 1, 1, 1, 1, 1, 0, 1, 0, 0], .b 2, .c [1, 1, 1, 0, 1, 0, 0, 1, 1, 0, 0, 1, 1, 1, 1, 1, 1, 1, 1], .b 1, .c [1, 1, 1, 0, 1, 0, 0, 1, 1, 1], .l [1, 1, 1, 0, 1, 0, 0], .b 0, .c [1, 1, 1, 1]]
abbrev esure_l2_st : Sta := ⟨[5, 6, 8, 9, 11, 13, 15, 17, 31, 32, 33, 95], ⟨[.own 0 0, .own 1 0, .own 2 0, .i .i64, .sl (.pair (.int .i64) (.int .i64)), .sl (.int .i64), .i .i64, .b, .sl (.pair (.int .i64) (.int .i64)), .i .i64, .i .i64, .i .i64], [.segs [.sl (.sl (.int .i64)), .sl (.int .i64), .i .i64], .segs [.sl (.int .u8), .i .i64, .i .u32], .segs [.i .i64, .i .i64]]⟩⟩
abbrev esure_l2_h (rec : Int → (List (Int × Int)) → (List Int) → Int → Bool → (List (Int × Int)) → Int → Int → Int → (List (List Int)) → (List Int) → Int → (List Int) → Int → Int → Int → Int → Option ((Unit) ⊕ ((List (Int × Int)) × List Int × Int × Bool × (List (Int × Int)) × Int × Int × List (List Int) × List Int × Int × List Int × Int × Int))) : Leaf ((Unit) ⊕ ((List (Int × Int)) × List Int × Int × Bool × (List (Int × Int)) × Int × Int × List (List Int) × List Int × Int × List Int × Int × Int)) := ⟨esure_l2_at, esure_l2_st, fun p => rec p.1.2.2.2.1 p.1.2.2.2.2.1 p.1.2.2.2.2.2.1 p.1.2.2.2.2.2.2.1 p.1.2.2.2.2.2.2.2.1 p.1.2.2.2.2.2.2.2.2.1 p.1.2.2.2.2.2.2.2.2.2.1 p.1.2.2.2.2.2.2.2.2.2.2.1 p.1.2.2.2.2.2.2.2.2.2.2.2.1 p.2.1.1 p.2.1.2.1 p.2.1.2.2.1 p.2.2.1.1 p.2.2.1.2.1 p.2.2.1.2.2.1 p.2.2.2.1.1 p.2.2.2.1.2.1⟩
abbrev esure_l2_e0 : Leaf ((Unit) ⊕ ((List (Int × Int)) × List Int × Int × Bool × (List (Int × Int)) × Int × Int × List (List Int) × List Int × Int × List Int × Int × Int)) := ⟨[.c [1, 1, 1, 0, 1, 0, 0, 1, 1, 0, 0, 1, 1, 1, 1, 1, 1, 1, 0, 1, 0, 0, 1, 1, 0, 0, 1, 1, 1, 1, 0, 0, 1, 1, 0, 0, 1, 1, 0, 0], .c [1, 1, 1, 0, 1, 0, 0, 1, 1, 0, 0, 1, 1, 1, 1, 1, 1, 1, 0, 1, 0, 0, 1, 1, 0, 0, 1, 1, 1, 1, 0, 0, 1, 1, 0, 0, 1, 1, 0, 1], .b 5, .c [1, 1, 1, 0, 1, 0, 0, 1, 1, 0, 0, 1, 1, 1, 1, 1, 1, 1, 0, 1, 0, 0, 1, 1, 0, 0, 1, 1, 1, 1, 0, 0, 1, 1, 1], .l [1, 1, 1, 0, 1, 0, 0, 1, 1, 0, 0, 1, 1, 1, 1, 1, 1, 1, 0, 1, 0, 0, 1, 1, 0, 0, 1, 1, 1, 1, 0, 0], .b 4, .b 3, .c [1, 1, 1, 0, 1, 0, 0, 1, 1, 0, 0, 1, 1, 1, 1, 1, 1, 1, 0, 1, 0, 0, 1, 1, 1], .l [1, 1, 1, 0, 1, 0, 0, 1, 1, 0, 0, 1, 1, 1, 1, 1, 1, 1, 0, 1, 0, 0], .b 2, .c [1, 1, 1, 0, 1, 0, 0, 1, 1, 0, 0, 1, 1, 1, 1, 1, 1, 1, 1], .b 1, .c [1, 1, 1, 0, 1, 0, 0, 1, 1, 1], .l [1, 1, 1, 0, 1, 0, 0], .b 0, .c [1, 1, 1, 1]], ⟨[], ⟨[], []⟩⟩, fun p => some (.inl ())⟩
abbrev esure_l2_e1 : Leaf ((Unit) ⊕ ((List (Int × Int)) × List Int × Int × Bool × (List (Int × Int)) × Int × Int × List (List Int) × List Int × Int × List Int × Int × Int)) := ⟨[.c [1, 1, 1, 0, 1, 0, 0, 1, 1, 0, 0, 1, 1, 1, 1, 1, 1, 1, 1, 0, 0], .c [1, 1, 1, 0, 1, 0, 0, 1, 1, 0, 0, 1, 1, 1, 1, 1, 1, 1, 1, 0, 1], .c [1, 1, 1, 0, 1, 0, 0, 1, 1, 0, 0, 1, 1, 1, 1, 1, 1, 1, 1, 1], .b 1, .c [1, 1, 1, 0, 1, 0, 0, 1, 1, 1], .l [1, 1, 1, 0, 1, 0, 0], .b 0, .c [1, 1, 1, 1]], ⟨[5, 6, 11, 13, 15, 17, 31, 32, 33], ⟨[.own 0 0, .own 1 0, .sl (.pair (.int .i64) (.int .i64)), .sl (.int .i64), .i .i64, .b, .sl (.pair (.int .i64) (.int .i64)), .i .i64, .i .i64], [.segs [.sl (.sl (.int .i64)), .sl (.int .i64), .i .i64], .segs [.sl (.int .u8), .i .i64, .i .u32]]⟩⟩, fun p => some (.inr (p.1.2.2.1, p.1.2.2.2.1, p.1.2.2.2.2.1, p.1.2.2.2.2.2.1, p.1.2.2.2.2.2.2.1, p.1.2.2.2.2.2.2.2.1, p.1.2.2.2.2.2.2.2.2.1, p.2.1.1, p.2.1.2.1, p.2.1.2.2.1, p.2.2.1.1, p.2.2.1.2.1, p.2.2.1.2.2.1))⟩
abbrev esure_j1_at : List PI := [.c [1, 1, 1, 0, 1, 0, 0, 1, 1, 0, 0, 1, 1, 1, 1, 1, 1, 1, 0, 1, 0, 0, 1, 1, 1], .l [1, 1, 1, 0, 1, 0, 0, 1, 1, 0, 0, 1, 1, 1, 1, 1, 1, 1, 0, 1, 0, 0], .b 2, .c [1, 1, 1, 0, 1, 0, 0, 1, 1, 0, 0, 1, 1, 1, 1, 1, 1, 1, 1], .b 1, .c [1, 1, 1, 0, 1, 0, 0, 1, 1, 1], .l [1, 1, 1, 0, 1, 0, 0], .b 0, .c [1, 1, 1, 1]]
abbrev esure_j1_st : Sta := ⟨[5, 6, 8, 9, 11, 13, 15, 17, 31, 32, 33, 95], ⟨[.own 0 0, .own 1 0, .own 2 0, .i .i64, .sl (.pair (.int .i64) (.int .i64)), .sl (.int .i64), .i .i64, .b, .sl (.pair (.int .i64) (.int .i64)), .i .i64, .i .i64, .i .i64], [.segs [.sl (.sl (.int .i64)), .sl (.int .i64), .i .i64], .segs [.sl (.int .u8), .i .i64, .i .u32], .segs [.i .i64, .i .i64]]⟩⟩
abbrev esure_j1_k (N : Nat) (rec : Int → (List (Int × Int)) → (List Int) → Int → Bool → (List (Int × Int)) → Int → Int → Int → (List (List Int)) → (List Int) → Int → (List Int) → Int → Int → Int → Int → Option ((Unit) ⊕ ((List (Int × Int)) × List Int × Int × Bool × (List (Int × Int)) × Int × Int × List (List Int) × List Int × Int × List Int × Int × Int))) : Leaf ((Unit) ⊕ ((List (Int × Int)) × List Int × Int × Bool × (List (Int × Int)) × Int × Int × List (List Int) × List Int × Int × List Int × Int × Int)) := ⟨esure_j1_at, esure_j1_st, fun p => esure_j1 N rec p.1.2.2.2.1 p.1.2.2.2.2.1 p.1.2.2.2.2.2.1 p.1.2.2.2.2.2.2.1 p.1.2.2.2.2.2.2.2.1 p.1.2.2.2.2.2.2.2.2.1 p.1.2.2.2.2.2.2.2.2.2.1 p.1.2.2.2.2.2.2.2.2.2.2.1 p.1.2.2.2.2.2.2.2.2.2.2.2.1 p.2.1.1 p.2.1.2.1 p.2.1.2.2.1 p.2.2.1.1 p.2.2.1.2.1 p.2.2.1.2.2.1 p.2.2.2.1.1 p.2.2.2.1.2.1⟩
theorem esure_j1_eq (N : Nat) (rec : Int → (List (Int × Int)) → (List Int) → Int → Bool → (List (Int × Int)) → Int → Int → Int → (List (List Int)) → (List Int) → Int → (List Int) → Int → Int → Int → Int → Option ((Unit) ⊕ ((List (Int × Int)) × List Int × Int × Bool × (List (Int × Int)) × Int × Int × List (List Int) × List Int × Int × List Int × Int × Int))) (n : Int) (l : List (Int × Int)) (sure : List Int) (many : Int) (other : Bool) (u : List (Int × Int)) (u2 : Int) (u3 : Int) (u4 : Int) (x : List (List Int)) (x2 : List Int) (x3 : Int) (q : List Int) (q2 : Int) (q3 : Int) (p : Int) (p2 : Int) : ev (Z := (Unit) ⊕ ((List (Int × Int)) × List Int × Int × Bool × (List (Int × Int)) × Int × Int × List (List Int) × List Int × Int × List Int × Int × Int)) Try.prog (esure_sp N) esure_B [] [esure_l2_h rec, esure_l2_e0, esure_l2_e1] none 400 true esure_j1_at (stL esure_j1_st (((), (), (), n, l, sure, many, other, u, u2, u3, u4, ()), ((x, x2, x3, ()), (q, q2, q3, ()), (p, p2, ()), ()))) (stH esure_j1_st (((), (), (), n, l, sure, many, other, u, u2, u3, u4, ()), ((x, x2, x3, ()), (q, q2, q3, ()), (p, p2, ()), ()))) = esure_j1 N rec n l sure many other u u2 u3 u4 x x2 x3 q q2 q3 p p2 := by kernel_rfl
theorem esure_j1_lf (N : Nat) (rec : Int → (List (Int × Int)) → (List Int) → Int → Bool → (List (Int × Int)) → Int → Int → Int → (List (List Int)) → (List Int) → Int → (List Int) → Int → Int → Int → Int → Option ((Unit) ⊕ ((List (Int × Int)) × List Int × Int × Bool × (List (Int × Int)) × Int × Int × List (List Int) × List Int × Int × List Int × Int × Int))) {z : (Unit) ⊕ ((List (Int × Int)) × List Int × Int × Bool × (List (Int × Int)) × Int × Int × List (List Int) × List Int × Int × List Int × Int × Int)} {top : Bool} {E : EE} {Xc : Ctx} (hE : EOK esure_B.m0 E) (hX : CxOK top Xc) (hrec : LeafOK Try.prog esure_B.c esure_B.n esure_B.m0 E Xc z (esure_l2_h rec)) (h0 : LeafOK Try.prog esure_B.c esure_B.n esure_B.m0 E Xc z esure_l2_e0) (h1 : LeafOK Try.prog esure_B.c esure_B.n esure_B.m0 E Xc z esure_l2_e1) : LeafOK Try.prog esure_B.c esure_B.n esure_B.m0 E Xc z (esure_j1_k N rec) := leaf_of_ev (B := esure_B) (loops := []) (leaves := [esure_l2_h rec, esure_l2_e0, esure_l2_e1]) (esure_all N) mixed trivial hE hX ⟨hrec, h0, h1, trivial⟩ RetOK.no (fun p => esure_j1_eq N rec p.1.2.2.2.1 p.1.2.2.2.2.1 p.1.2.2.2.2.2.1 p.1.2.2.2.2.2.2.1 p.1.2.2.2.2.2.2.2.1 p.1.2.2.2.2.2.2.2.2.1 p.1.2.2.2.2.2.2.2.2.2.1 p.1.2.2.2.2.2.2.2.2.2.2.1 p.1.2.2.2.2.2.2.2.2.2.2.2.1 p.2.1.1 p.2.1.2.1 p.2.1.2.2.1 p.2.2.1.1 p.2.2.1.2.1 p.2.2.1.2.2.1 p.2.2.2.1.1 p.2.2.2.1.2.1)
abbrev esure_l3_at : List PI := [.c [1, 1, 1, 0, 1, 0, 0, 1, 1, 0, 0, 1, 1, 1, 1, 1, 1, 1, 0, 1, 0, 0, 1, 1, 0, 0, 1, 1, 1, 1, 0, 0, 0], .c [1, 1, 1, 0, 1, 0, 0, 1, 1, 0, 0, 1, 1, 1, 1, 1, 1, 1, 0, 1, 0, 0, 1, 1, 0, 0, 1, 1, 1, 1, 0, 0, 1], .l [1, 1, 1, 0, 1, 0, 0, 1, 1, 0, 0, 1, 1, 1, 1, 1, 1, 1, 0, 1, 0, 0, 1, 1, 0, 0, 1, 1, 1, 1, 0, 0], .b 4, .b 3, .c [1, 1, 1, 0, 1, 0, 0, 1, 1, 0, 0, 1, 1, 1, 1, 1, 1, 1, 0, 1, 0, 0, 1, 1, 1], .l [1, 1, 1, 0, 1, 0, 0, 1, 1, 0, 0, 1, 1, 1, 1, 1, 1, 1, 0, 1, 0, 0], .b 2, .c [1, 1, 1, 0, 1, 0, 0, 1, 1, 0, 0, 1, 1, 1, 1, 1, 1, 1, 1], .b 1, .c [1, 1, 1, 0, 1, 0, 0, 1, 1, 1], .l [1, 1, 1, 0, 1, 0, 0], .b 0, .c [1, 1, 1, 1]]
abbrev esure_l3_st : Sta := ⟨[5, 6, 8, 9, 11, 13, 15, 17, 18, 31, 32, 33, 95, 122, 123, 124], ⟨[.own 0 0, .own 1 0, .own 2 0, .i .i64, .sl (.pair (.int .i64) (.int .i64)), .sl (.int .i64), .i .i64, .b, .sl (.pair (.int .i64) (.int .i64)), .sl (.pair (.int .i64) (.int .i64)), .i .i64, .i .i64, .i .i64, .sl (.int .i64), .i .i64, .i .i64], [.segs [.sl (.sl (.int .i64)), .sl (.int .i64), .i .i64], .segs [.sl (.int .u8), .i .i64, .i .u32], .segs [.i .i64, .i .i64]]⟩⟩
abbrev esure_l3_h (rec : Int → (List (Int × Int)) → (List Int) → Int → Bool → (List (Int × Int)) → (List (Int × Int)) → Int → Int → Int → (List Int) → Int → Int → (List (List Int)) → (List Int) → Int → (List Int) → Int → Int → Int → Int → Option ((Unit) ⊕ (Int × (List (Int × Int)) × List Int × Int × Bool × (List (Int × Int)) × Int × Int × Int × List (List Int) × List Int × Int × List Int × Int × Int × Int × Int))) : Leaf ((Unit) ⊕ (Int × (List (Int × Int)) × List Int × Int × Bool × (List (Int × Int)) × Int × Int × Int × List (List Int) × List Int × Int × List Int × Int × Int × Int × Int)) := ⟨esure_l3_at, esure_l3_st, fun p => rec p.1.2.2.2.1 p.1.2.2.2.2.1 p.1.2.2.2.2.2.1 p.1.2.2.2.2.2.2.1 p.1.2.2.2.2.2.2.2.1 p.1.2.2.2.2.2.2.2.2.1 p.1.2.2.2.2.2.2.2.2.2.1 p.1.2.2.2.2.2.2.2.2.2.2.1 p.1.2.2.2.2.2.2.2.2.2.2.2.1 p.1.2.2.2.2.2.2.2.2.2.2.2.2.1 p.1.2.2.2.2.2.2.2.2.2.2.2.2.2.1 p.1.2.2.2.2.2.2.2.2.2.2.2.2.2.2.1 p.1.2.2.2.2.2.2.2.2.2.2.2.2.2.2.2.1 p.2.1.1 p.2.1.2.1 p.2.1.2.2.1 p.2.2.1.1 p.2.2.1.2.1 p.2.2.1.2.2.1 p.2.2.2.1.1 p.2.2.2.1.2.1⟩
abbrev esure_l3_e0 : Leaf ((Unit) ⊕ (Int × (List (Int × Int)) × List Int × Int × Bool × (List (Int × Int)) × Int × Int × Int × List (List Int) × List Int × Int × List Int × Int × Int × Int × Int)) := ⟨[.c [1, 1, 1, 0, 1, 0, 0, 1, 1, 0, 0, 1, 1, 1, 1, 1, 1, 1, 0, 1, 0, 0, 1, 1, 0, 0, 1, 1, 1, 1, 0, 0, 1, 1, 0, 0, 1, 1, 0, 0], .c [1, 1, 1, 0, 1, 0, 0, 1, 1, 0, 0, 1, 1, 1, 1, 1, 1, 1, 0, 1, 0, 0, 1, 1, 0, 0, 1, 1, 1, 1, 0, 0, 1, 1, 0, 0, 1, 1, 0, 1], .b 5, .c [1, 1, 1, 0, 1, 0, 0, 1, 1, 0, 0, 1, 1, 1, 1, 1, 1, 1, 0, 1, 0, 0, 1, 1, 0, 0, 1, 1, 1, 1, 0, 0, 1, 1, 1], .l [1, 1, 1, 0, 1, 0, 0, 1, 1, 0, 0, 1, 1, 1, 1, 1, 1, 1, 0, 1, 0, 0, 1, 1, 0, 0, 1, 1, 1, 1, 0, 0], .b 4, .b 3, .c [1, 1, 1, 0, 1, 0, 0, 1, 1, 0, 0, 1, 1, 1, 1, 1, 1, 1, 0, 1, 0, 0, 1, 1, 1], .l [1, 1, 1, 0, 1, 0, 0, 1, 1, 0, 0, 1, 1, 1, 1, 1, 1, 1, 0, 1, 0, 0], .b 2, .c [1, 1, 1, 0, 1, 0, 0, 1, 1, 0, 0, 1, 1, 1, 1, 1, 1, 1, 1], .b 1, .c [1, 1, 1, 0, 1, 0, 0, 1, 1, 1], .l [1, 1, 1, 0, 1, 0, 0], .b 0, .c [1, 1, 1, 1]], ⟨[], ⟨[], []⟩⟩, fun p => some (.inl ())⟩
abbrev esure_l3_e1 : Leaf ((Unit) ⊕ (Int × (List (Int × Int)) × List Int × Int × Bool × (List (Int × Int)) × Int × Int × Int × List (List Int) × List Int × Int × List Int × Int × Int × Int × Int)) := ⟨[.c [1, 1, 1, 0, 1, 0, 0, 1, 1, 0, 0, 1, 1, 1, 1, 1, 1, 1, 0, 1, 0, 0, 1, 1, 1], .l [1, 1, 1, 0, 1, 0, 0, 1, 1, 0, 0, 1, 1, 1, 1, 1, 1, 1, 0, 1, 0, 0], .b 2, .c [1, 1, 1, 0, 1, 0, 0, 1, 1, 0, 0, 1, 1, 1, 1, 1, 1, 1, 1], .b 1, .c [1, 1, 1, 0, 1, 0, 0, 1, 1, 1], .l [1, 1, 1, 0, 1, 0, 0], .b 0, .c [1, 1, 1, 1]], ⟨[5, 6, 8, 9, 11, 13, 15, 17, 31, 32, 33, 95], ⟨[.own 0 0, .own 1 0, .own 2 0, .i .i64, .sl (.pair (.int .i64) (.int .i64)), .sl (.int .i64), .i .i64, .b, .sl (.pair (.int .i64) (.int .i64)), .i .i64, .i .i64, .i .i64], [.segs [.sl (.sl (.int .i64)), .sl (.int .i64), .i .i64], .segs [.sl (.int .u8), .i .i64, .i .u32], .segs [.i .i64, .i .i64]]⟩⟩, fun p => some (.inr (p.1.2.2.2.1, p.1.2.2.2.2.1, p.1.2.2.2.2.2.1, p.1.2.2.2.2.2.2.1, p.1.2.2.2.2.2.2.2.1, p.1.2.2.2.2.2.2.2.2.1, p.1.2.2.2.2.2.2.2.2.2.1, p.1.2.2.2.2.2.2.2.2.2.2.1, p.1.2.2.2.2.2.2.2.2.2.2.2.1, p.2.1.1, p.2.1.2.1, p.2.1.2.2.1, p.2.2.1.1, p.2.2.1.2.1, p.2.2.1.2.2.1, p.2.2.2.1.1, p.2.2.2.1.2.1))⟩
noncomputable def esure_l3_L (N : Nat) : LoopS := { at_ := esure_l3_at, sta := esure_l3_st, exits := [([.c [1, 1, 1, 0, 1, 0, 0, 1, 1, 0, 0, 1, 1, 1, 1, 1, 1, 1, 0, 1, 0, 0, 1, 1, 0, 0, 1, 1, 1, 1, 0, 0, 1, 1, 0, 0, 1, 1, 0, 0], .c [1, 1, 1, 0, 1, 0, 0, 1, 1, 0, 0, 1, 1, 1, 1, 1, 1, 1, 0, 1, 0, 0, 1, 1, 0, 0, 1, 1, 1, 1, 0, 0, 1, 1, 0, 0, 1, 1, 0, 1], .b 5, .c [1, 1, 1, 0, 1, 0, 0, 1, 1, 0, 0, 1, 1, 1, 1, 1, 1, 1, 0, 1, 0, 0, 1, 1, 0, 0, 1, 1, 1, 1, 0, 0, 1, 1, 1], .l [1, 1, 1, 0, 1, 0, 0, 1, 1, 0, 0, 1, 1, 1, 1, 1, 1, 1, 0, 1, 0, 0, 1, 1, 0, 0, 1, 1, 1, 1, 0, 0], .b 4, .b 3, .c [1, 1, 1, 0, 1, 0, 0, 1, 1, 0, 0, 1, 1, 1, 1, 1, 1, 1, 0, 1, 0, 0, 1, 1, 1], .l [1, 1, 1, 0, 1, 0, 0, 1, 1, 0, 0, 1, 1, 1, 1, 1, 1, 1, 0, 1, 0, 0], .b 2, .c [1, 1, 1, 0, 1, 0, 0, 1, 1, 0, 0, 1, 1, 1, 1, 1, 1, 1, 1], .b 1, .c [1, 1, 1, 0, 1, 0, 0, 1, 1, 1], .l [1, 1, 1, 0, 1, 0, 0], .b 0, .c [1, 1, 1, 1]], ⟨[], ⟨[], []⟩⟩), ([.c [1, 1, 1, 0, 1, 0, 0, 1, 1, 0, 0, 1, 1, 1, 1, 1, 1, 1, 0, 1, 0, 0, 1, 1, 1], .l [1, 1, 1, 0, 1, 0, 0, 1, 1, 0, 0, 1, 1, 1, 1, 1, 1, 1, 0, 1, 0, 0], .b 2, .c [1, 1, 1, 0, 1, 0, 0, 1, 1, 0, 0, 1, 1, 1, 1, 1, 1, 1, 1], .b 1, .c [1, 1, 1, 0, 1, 0, 0, 1, 1, 1], .l [1, 1, 1, 0, 1, 0, 0], .b 0, .c [1, 1, 1, 1]], ⟨[5, 6, 8, 9, 11, 13, 15, 17, 31, 32, 33, 95], ⟨[.own 0 0, .own 1 0, .own 2 0, .i .i64, .sl (.pair (.int .i64) (.int .i64)), .sl (.int .i64), .i .i64, .b, .sl (.pair (.int .i64) (.int .i64)), .i .i64, .i .i64, .i .i64], [.segs [.sl (.sl (.int .i64)), .sl (.int .i64), .i .i64], .segs [.sl (.int .u8), .i .i64, .i .u32], .segs [.i .i64, .i .i64]]⟩⟩)], run := fun p k => (esure_l3 N N p.1.2.2.2.1 p.1.2.2.2.2.1 p.1.2.2.2.2.2.1 p.1.2.2.2.2.2.2.1 p.1.2.2.2.2.2.2.2.1 p.1.2.2.2.2.2.2.2.2.1 p.1.2.2.2.2.2.2.2.2.2.1 p.1.2.2.2.2.2.2.2.2.2.2.1 p.1.2.2.2.2.2.2.2.2.2.2.2.1 p.1.2.2.2.2.2.2.2.2.2.2.2.2.1 p.1.2.2.2.2.2.2.2.2.2.2.2.2.2.1 p.1.2.2.2.2.2.2.2.2.2.2.2.2.2.2.1 p.1.2.2.2.2.2.2.2.2.2.2.2.2.2.2.2.1 p.2.1.1 p.2.1.2.1 p.2.1.2.2.1 p.2.2.1.1 p.2.2.1.2.1 p.2.2.1.2.2.1 p.2.2.2.1.1 p.2.2.2.1.2.1).bind fun e => match e with | .inl x => k (.inl ((), ())) | .inr x => k (.inr (.inl (((), (), (), x.1, x.2.1, x.2.2.1, x.2.2.2.1, x.2.2.2.2.1, x.2.2.2.2.2.1, x.2.2.2.2.2.2.1, x.2.2.2.2.2.2.2.1, x.2.2.2.2.2.2.2.2.1, ()), ((x.2.2.2.2.2.2.2.2.2.1, x.2.2.2.2.2.2.2.2.2.2.1, x.2.2.2.2.2.2.2.2.2.2.2.1, ()), (x.2.2.2.2.2.2.2.2.2.2.2.2.1, x.2.2.2.2.2.2.2.2.2.2.2.2.2.1, x.2.2.2.2.2.2.2.2.2.2.2.2.2.2.1, ()), (x.2.2.2.2.2.2.2.2.2.2.2.2.2.2.2.1, x.2.2.2.2.2.2.2.2.2.2.2.2.2.2.2.2, ()), ())))) }
theorem esure_l3_eq (N n_ : Nat) (n : Int) (l : List (Int × Int)) (sure : List Int) (many : Int) (other : Bool) (o : List (Int × Int)) (u : List (Int × Int)) (u2 : Int) (u3 : Int) (u4 : Int) (u5 : List Int) (u6 : Int) (u7 : Int) (x : List (List Int)) (x2 : List Int) (x3 : Int) (q : List Int) (q2 : Int) (q3 : Int) (p : Int) (p2 : Int) : ev (Z := (Unit) ⊕ (Int × (List (Int × Int)) × List Int × Int × Bool × (List (Int × Int)) × Int × Int × Int × List (List Int) × List Int × Int × List Int × Int × Int × Int × Int)) Try.prog (esure_sp N) esure_B [] [esure_l3_h (esure_l3 N n_), esure_l3_e0, esure_l3_e1] none 400 true esure_l3_at (stL esure_l3_st (((), (), (), n, l, sure, many, other, o, u, u2, u3, u4, u5, u6, u7, ()), ((x, x2, x3, ()), (q, q2, q3, ()), (p, p2, ()), ()))) (stH esure_l3_st (((), (), (), n, l, sure, many, other, o, u, u2, u3, u4, u5, u6, u7, ()), ((x, x2, x3, ()), (q, q2, q3, ()), (p, p2, ()), ()))) = esure_l3 N (n_ + 1) n l sure many other o u u2 u3 u4 u5 u6 u7 x x2 x3 q q2 q3 p p2 := by kernel_rfl
theorem esure_l3_ok (N : Nat) {top : Bool} : LoopOK Try.prog esure_B.c esure_B.n esure_B.m0 top (esure_l3_L N) := loop_of_ev (Z := (Unit) ⊕ (Int × (List (Int × Int)) × List Int × Int × Bool × (List (Int × Int)) × Int × Int × Int × List (List Int) × List Int × Int × List Int × Int × Int × Int × Int)) (N := N) (fun m p => esure_l3 N m p.1.2.2.2.1 p.1.2.2.2.2.1 p.1.2.2.2.2.2.1 p.1.2.2.2.2.2.2.1 p.1.2.2.2.2.2.2.2.1 p.1.2.2.2.2.2.2.2.2.1 p.1.2.2.2.2.2.2.2.2.2.1 p.1.2.2.2.2.2.2.2.2.2.2.1 p.1.2.2.2.2.2.2.2.2.2.2.2.1 p.1.2.2.2.2.2.2.2.2.2.2.2.2.1 p.1.2.2.2.2.2.2.2.2.2.2.2.2.2.1 p.1.2.2.2.2.2.2.2.2.2.2.2.2.2.2.1 p.1.2.2.2.2.2.2.2.2.2.2.2.2.2.2.2.1 p.2.1.1 p.2.1.2.1 p.2.1.2.2.1 p.2.2.1.1 p.2.2.1.2.1 p.2.2.1.2.2.1 p.2.2.2.1.1 p.2.2.2.1.2.1) (fun e => match e with | .inl x => .inl ((), ()) | .inr x => .inr (.inl (((), (), (), x.1, x.2.1, x.2.2.1, x.2.2.2.1, x.2.2.2.2.1, x.2.2.2.2.2.1, x.2.2.2.2.2.2.1, x.2.2.2.2.2.2.2.1, x.2.2.2.2.2.2.2.2.1, ()), ((x.2.2.2.2.2.2.2.2.2.1, x.2.2.2.2.2.2.2.2.2.2.1, x.2.2.2.2.2.2.2.2.2.2.2.1, ()), (x.2.2.2.2.2.2.2.2.2.2.2.2.1, x.2.2.2.2.2.2.2.2.2.2.2.2.2.1, x.2.2.2.2.2.2.2.2.2.2.2.2.2.2.1, ()), (x.2.2.2.2.2.2.2.2.2.2.2.2.2.2.2.1, x.2.2.2.2.2.2.2.2.2.2.2.2.2.2.2.2, ()), ())))) (fun _ p k => bind_congr_ (esure_l3 N N p.1.2.2.2.1 p.1.2.2.2.2.1 p.1.2.2.2.2.2.1 p.1.2.2.2.2.2.2.1 p.1.2.2.2.2.2.2.2.1 p.1.2.2.2.2.2.2.2.2.1 p.1.2.2.2.2.2.2.2.2.2.1 p.1.2.2.2.2.2.2.2.2.2.2.1 p.1.2.2.2.2.2.2.2.2.2.2.2.1 p.1.2.2.2.2.2.2.2.2.2.2.2.2.1 p.1.2.2.2.2.2.2.2.2.2.2.2.2.2.1 p.1.2.2.2.2.2.2.2.2.2.2.2.2.2.2.1 p.1.2.2.2.2.2.2.2.2.2.2.2.2.2.2.2.1 p.2.1.1 p.2.1.2.1 p.2.1.2.2.1 p.2.2.1.1 p.2.2.1.2.1 p.2.2.1.2.2.1 p.2.2.2.1.1 p.2.2.2.1.2.1) _ _ (fun e => by rcases e with x | x <;> rfl)) (fun _ => rfl) (fun m z E Xc hE hX hrec hx => leaf_of_ev (B := esure_B) (loops := []) (leaves := [esure_l3_h (esure_l3 N m), esure_l3_e0, esure_l3_e1]) (esure_all N) mixed trivial hE hX ⟨hrec, (fun p hp => by obtain rfl := Option.some.inj hp; exact hx), (fun p hp => by obtain rfl := Option.some.inj hp; exact hx), trivial⟩ RetOK.no (fun p => esure_l3_eq N m p.1.2.2.2.1 p.1.2.2.2.2.1 p.1.2.2.2.2.2.1 p.1.2.2.2.2.2.2.1 p.1.2.2.2.2.2.2.2.1 p.1.2.2.2.2.2.2.2.2.1 p.1.2.2.2.2.2.2.2.2.2.1 p.1.2.2.2.2.2.2.2.2.2.2.1 p.1.2.2.2.2.2.2.2.2.2.2.2.1 p.1.2.2.2.2.2.2.2.2.2.2.2.2.1 p.1.2.2.2.2.2.2.2.2.2.2.2.2.2.1 p.1.2.2.2.2.2.2.2.2.2.2.2.2.2.2.1 p.1.2.2.2.2.2.2.2.2.2.2.2.2.2.2.2.1 p.2.1.1 p.2.1.2.1 p.2.1.2.2.1 p.2.2.1.1 p.2.2.1.2.1 p.2.2.1.2.2.1 p.2.2.2.1.1 p.2.2.2.1.2.1))
noncomputable def esure_l2_L (N : Nat) : LoopS := { at_ := esure_l2_at, sta := esure_l2_st, exits := [([.c [1, 1, 1, 0, 1, 0, 0, 1, 1, 0, 0, 1, 1, 1, 1, 1, 1, 1, 0, 1, 0, 0, 1, 1, 0, 0, 1, 1, 1, 1, 0, 0, 1, 1, 0, 0, 1, 1, 0, 0], .c [1, 1, 1, 0, 1, 0, 0, 1, 1, 0, 0, 1, 1, 1, 1, 1, 1, 1, 0, 1, 0, 0, 1, 1, 0, 0, 1, 1, 1, 1, 0, 0, 1, 1, 0, 0, 1, 1, 0, 1], .b 5, .c [1, 1, 1, 0, 1, 0, 0, 1, 1, 0, 0, 1, 1, 1, 1, 1, 1, 1, 0, 1, 0, 0, 1, 1, 0, 0, 1, 1, 1, 1, 0, 0, 1, 1, 1], .l [1, 1, 1, 0, 1, 0, 0, 1, 1, 0, 0, 1, 1, 1, 1, 1, 1, 1, 0, 1, 0, 0, 1, 1, 0, 0, 1, 1, 1, 1, 0, 0], .b 4, .b 3, .c [1, 1, 1, 0, 1, 0, 0, 1, 1, 0, 0, 1, 1, 1, 1, 1, 1, 1, 0, 1, 0, 0, 1, 1, 1], .l [1, 1, 1, 0, 1, 0, 0, 1, 1, 0, 0, 1, 1, 1, 1, 1, 1, 1, 0, 1, 0, 0], .b 2, .c [1, 1, 1, 0, 1, 0, 0, 1, 1, 0, 0, 1, 1, 1, 1, 1, 1, 1, 1], .b 1, .c [1, 1, 1, 0, 1, 0, 0, 1, 1, 1], .l [1, 1, 1, 0, 1, 0, 0], .b 0, .c [1, 1, 1, 1]], ⟨[], ⟨[], []⟩⟩), ([.c [1, 1, 1, 0, 1, 0, 0, 1, 1, 0, 0, 1, 1, 1, 1, 1, 1, 1, 1, 0, 0], .c [1, 1, 1, 0, 1, 0, 0, 1, 1, 0, 0, 1, 1, 1, 1, 1, 1, 1, 1, 0, 1], .c [1, 1, 1, 0, 1, 0, 0, 1, 1, 0, 0, 1, 1, 1, 1, 1, 1, 1, 1, 1], .b 1, .c [1, 1, 1, 0, 1, 0, 0, 1, 1, 1], .l [1, 1, 1, 0, 1, 0, 0], .b 0, .c [1, 1, 1, 1]], ⟨[5, 6, 11, 13, 15, 17, 31, 32, 33], ⟨[.own 0 0, .own 1 0, .sl (.pair (.int .i64) (.int .i64)), .sl (.int .i64), .i .i64, .b, .sl (.pair (.int .i64) (.int .i64)), .i .i64, .i .i64], [.segs [.sl (.sl (.int .i64)), .sl (.int .i64), .i .i64], .segs [.sl (.int .u8), .i .i64, .i .u32]]⟩⟩)], run := fun p k => (esure_l2 N N p.1.2.2.2.1 p.1.2.2.2.2.1 p.1.2.2.2.2.2.1 p.1.2.2.2.2.2.2.1 p.1.2.2.2.2.2.2.2.1 p.1.2.2.2.2.2.2.2.2.1 p.1.2.2.2.2.2.2.2.2.2.1 p.1.2.2.2.2.2.2.2.2.2.2.1 p.1.2.2.2.2.2.2.2.2.2.2.2.1 p.2.1.1 p.2.1.2.1 p.2.1.2.2.1 p.2.2.1.1 p.2.2.1.2.1 p.2.2.1.2.2.1 p.2.2.2.1.1 p.2.2.2.1.2.1).bind fun e => match e with | .inl x => k (.inl ((), ())) | .inr x => k (.inr (.inl (((), (), x.1, x.2.1, x.2.2.1, x.2.2.2.1, x.2.2.2.2.1, x.2.2.2.2.2.1, x.2.2.2.2.2.2.1, ()), ((x.2.2.2.2.2.2.2.1, x.2.2.2.2.2.2.2.2.1, x.2.2.2.2.2.2.2.2.2.1, ()), (x.2.2.2.2.2.2.2.2.2.2.1, x.2.2.2.2.2.2.2.2.2.2.2.1, x.2.2.2.2.2.2.2.2.2.2.2.2, ()), ())))) }
theorem esure_l2_eq (N n_ : Nat) (n : Int) (l : List (Int × Int)) (sure : List Int) (many : Int) (other : Bool) (u : List (Int × Int)) (u2 : Int) (u3 : Int) (u4 : Int) (x : List (List Int)) (x2 : List Int) (x3 : Int) (q : List Int) (q2 : Int) (q3 : Int) (p : Int) (p2 : Int) : ev (Z := (Unit) ⊕ ((List (Int × Int)) × List Int × Int × Bool × (List (Int × Int)) × Int × Int × List (List Int) × List Int × Int × List Int × Int × Int)) Try.prog (esure_sp N) esure_B [esure_l3_L N] [esure_l2_h (esure_l2 N n_), esure_l2_e0, esure_l2_e1, esure_j1_k N (esure_l2 N n_)] none 400 true esure_l2_at (stL esure_l2_st (((), (), (), n, l, sure, many, other, u, u2, u3, u4, ()), ((x, x2, x3, ()), (q, q2, q3, ()), (p, p2, ()), ()))) (stH esure_l2_st (((), (), (), n, l, sure, many, other, u, u2, u3, u4, ()), ((x, x2, x3, ()), (q, q2, q3, ()), (p, p2, ()), ()))) = esure_l2 N (n_ + 1) n l sure many other u u2 u3 u4 x x2 x3 q q2 q3 p p2 := by kernel_rfl
theorem esure_l2_ok (N : Nat) {top : Bool} : LoopOK Try.prog esure_B.c esure_B.n esure_B.m0 top (esure_l2_L N) := loop_of_ev (Z := (Unit) ⊕ ((List (Int × Int)) × List Int × Int × Bool × (List (Int × Int)) × Int × Int × List (List Int) × List Int × Int × List Int × Int × Int)) (N := N) (fun m p => esure_l2 N m p.1.2.2.2.1 p.1.2.2.2.2.1 p.1.2.2.2.2.2.1 p.1.2.2.2.2.2.2.1 p.1.2.2.2.2.2.2.2.1 p.1.2.2.2.2.2.2.2.2.1 p.1.2.2.2.2.2.2.2.2.2.1 p.1.2.2.2.2.2.2.2.2.2.2.1 p.1.2.2.2.2.2.2.2.2.2.2.2.1 p.2.1.1 p.2.1.2.1 p.2.1.2.2.1 p.2.2.1.1 p.2.2.1.2.1 p.2.2.1.2.2.1 p.2.2.2.1.1 p.2.2.2.1.2.1) (fun e => match e with | .inl x => .inl ((), ()) | .inr x => .inr (.inl (((), (), x.1, x.2.1, x.2.2.1, x.2.2.2.1, x.2.2.2.2.1, x.2.2.2.2.2.1, x.2.2.2.2.2.2.1, ()), ((x.2.2.2.2.2.2.2.1, x.2.2.2.2.2.2.2.2.1, x.2.2.2.2.2.2.2.2.2.1, ()), (x.2.2.2.2.2.2.2.2.2.2.1, x.2.2.2.2.2.2.2.2.2.2.2.1, x.2.2.2.2.2.2.2.2.2.2.2.2, ()), ())))) (fun _ p k => bind_congr_ (esure_l2 N N p.1.2.2.2.1 p.1.2.2.2.2.1 p.1.2.2.2.2.2.1 p.1.2.2.2.2.2.2.1 p.1.2.2.2.2.2.2.2.1 p.1.2.2.2.2.2.2.2.2.1 p.1.2.2.2.2.2.2.2.2.2.1 p.1.2.2.2.2.2.2.2.2.2.2.1 p.1.2.2.2.2.2.2.2.2.2.2.2.1 p.2.1.1 p.2.1.2.1 p.2.1.2.2.1 p.2.2.1.1 p.2.2.1.2.1 p.2.2.1.2.2.1 p.2.2.2.1.1 p.2.2.2.1.2.1) _ _ (fun e => by rcases e with x | x <;> rfl)) (fun _ => rfl) (fun m z E Xc hE hX hrec hx => leaf_of_ev (B := esure_B) (loops := [esure_l3_L N]) (leaves := [esure_l2_h (esure_l2 N m), esure_l2_e0, esure_l2_e1, esure_j1_k N (esure_l2 N m)]) (esure_all N) mixed ⟨esure_l3_ok N, trivial⟩ hE hX ⟨hrec, (fun p hp => by obtain rfl := Option.some.inj hp; exact hx), (fun p hp => by obtain rfl := Option.some.inj hp; exact hx), esure_j1_lf N _ hE hX hrec (fun p hp => by obtain rfl := Option.some.inj hp; exact hx) (fun p hp => by obtain rfl := Option.some.inj hp; exact hx), trivial⟩ RetOK.no (fun p => esure_l2_eq N m p.1.2.2.2.1 p.1.2.2.2.2.1 p.1.2.2.2.2.2.1 p.1.2.2.2.2.2.2.1 p.1.2.2.2.2.2.2.2.1 p.1.2.2.2.2.2.2.2.2.1 p.1.2.2.2.2.2.2.2.2.2.1 p.1.2.2.2.2.2.2.2.2.2.2.1 p.1.2.2.2.2.2.2.2.2.2.2.2.1 p.2.1.1 p.2.1.2.1 p.2.1.2.2.1 p.2.2.1.1 p.2.2.1.2.1 p.2.2.1.2.2.1 p.2.2.2.1.1 p.2.2.2.1.2.1))
abbrev esure_l4_at : List PI := [.c [1, 1, 1, 0, 1, 0, 0, 1, 1, 0, 0, 1, 1, 1, 1, 1, 1, 1, 1, 0, 1, 0, 0, 0], .c [1, 1, 1, 0, 1, 0, 0, 1, 1, 0, 0, 1, 1, 1, 1, 1, 1, 1, 1, 0, 1, 0, 0, 1], .l [1, 1, 1, 0, 1, 0, 0, 1, 1, 0, 0, 1, 1, 1, 1, 1, 1, 1, 1, 0, 1, 0, 0], .b 6, .c [1, 1, 1, 0, 1, 0, 0, 1, 1, 0, 0, 1, 1, 1, 1, 1, 1, 1, 1, 1], .b 1, .c [1, 1, 1, 0, 1, 0, 0, 1, 1, 1], .l [1, 1, 1, 0, 1, 0, 0], .b 0, .c [1, 1, 1, 1]]
abbrev esure_l4_st : Sta := ⟨[5, 6, 11, 15, 17, 31, 32, 33, 142, 143, 144], ⟨[.own 0 0, .own 1 0, .sl (.pair (.int .i64) (.int .i64)), .i .i64, .b, .sl (.pair (.int .i64) (.int .i64)), .i .i64, .i .i64, .sl (.int .i64), .i .i64, .i .i64], [.segs [.sl (.sl (.int .i64)), .sl (.int .i64), .i .i64], .segs [.sl (.int .u8), .i .i64, .i .u32]]⟩⟩
abbrev esure_l4_h (rec : (List (Int × Int)) → Int → Bool → (List (Int × Int)) → Int → Int → (List Int) → Int → Int → (List (List Int)) → (List Int) → Int → (List Int) → Int → Int → Option ((Unit) ⊕ (Int × Bool × (List (Int × Int)) × Int × Int × List (List Int) × List Int × Int × List Int × Int × Int))) : Leaf ((Unit) ⊕ (Int × Bool × (List (Int × Int)) × Int × Int × List (List Int) × List Int × Int × List Int × Int × Int)) := ⟨esure_l4_at, esure_l4_st, fun p => rec p.1.2.2.1 p.1.2.2.2.1 p.1.2.2.2.2.1 p.1.2.2.2.2.2.1 p.1.2.2.2.2.2.2.1 p.1.2.2.2.2.2.2.2.1 p.1.2.2.2.2.2.2.2.2.1 p.1.2.2.2.2.2.2.2.2.2.1 p.1.2.2.2.2.2.2.2.2.2.2.1 p.2.1.1 p.2.1.2.1 p.2.1.2.2.1 p.2.2.1.1 p.2.2.1.2.1 p.2.2.1.2.2.1⟩
abbrev esure_l4_e0 : Leaf ((Unit) ⊕ (Int × Bool × (List (Int × Int)) × Int × Int × List (List Int) × List Int × Int × List Int × Int × Int)) := ⟨[.c [1, 1, 1, 0, 1, 0, 0, 1, 1, 0, 0, 1, 1, 1, 1, 1, 1, 1, 1, 0, 1, 0, 0, 1, 1, 0, 0, 1, 1, 0, 0], .c [1, 1, 1, 0, 1, 0, 0, 1, 1, 0, 0, 1, 1, 1, 1, 1, 1, 1, 1, 0, 1, 0, 0, 1, 1, 0, 0, 1, 1, 0, 1], .b 7, .c [1, 1, 1, 0, 1, 0, 0, 1, 1, 0, 0, 1, 1, 1, 1, 1, 1, 1, 1, 0, 1, 0, 0, 1, 1, 1], .l [1, 1, 1, 0, 1, 0, 0, 1, 1, 0, 0, 1, 1, 1, 1, 1, 1, 1, 1, 0, 1, 0, 0], .b 6, .c [1, 1, 1, 0, 1, 0, 0, 1, 1, 0, 0, 1, 1, 1, 1, 1, 1, 1, 1, 1], .b 1, .c [1, 1, 1, 0, 1, 0, 0, 1, 1, 1], .l [1, 1, 1, 0, 1, 0, 0], .b 0, .c [1, 1, 1, 1]], ⟨[], ⟨[], []⟩⟩, fun p => some (.inl ())⟩
abbrev esure_l4_e1 : Leaf ((Unit) ⊕ (Int × Bool × (List (Int × Int)) × Int × Int × List (List Int) × List Int × Int × List Int × Int × Int)) := ⟨[.c [1, 1, 1, 0, 1, 0, 0, 1, 1, 0, 0, 1, 1, 1, 1, 1, 1, 1, 1, 1, 0], .c [1, 1, 1, 0, 1, 0, 0, 1, 1, 0, 0, 1, 1, 1, 1, 1, 1, 1, 1, 1, 1], .b 1, .c [1, 1, 1, 0, 1, 0, 0, 1, 1, 1], .l [1, 1, 1, 0, 1, 0, 0], .b 0, .c [1, 1, 1, 1]], ⟨[5, 6, 15, 17, 31, 32, 33], ⟨[.own 0 0, .own 1 0, .i .i64, .b, .sl (.pair (.int .i64) (.int .i64)), .i .i64, .i .i64], [.segs [.sl (.sl (.int .i64)), .sl (.int .i64), .i .i64], .segs [.sl (.int .u8), .i .i64, .i .u32]]⟩⟩, fun p => some (.inr (p.1.2.2.1, p.1.2.2.2.1, p.1.2.2.2.2.1, p.1.2.2.2.2.2.1, p.1.2.2.2.2.2.2.1, p.2.1.1, p.2.1.2.1, p.2.1.2.2.1, p.2.2.1.1, p.2.2.1.2.1, p.2.2.1.2.2.1))⟩
noncomputable def esure_l4_L (N : Nat) : LoopS := { at_ := esure_l4_at, sta := esure_l4_st, exits := [([.c [1, 1, 1, 0, 1, 0, 0, 1, 1, 0, 0, 1, 1, 1, 1, 1, 1, 1, 1, 0, 1, 0, 0, 1, 1, 0, 0, 1, 1, 0, 0], .c [1, 1, 1, 0, 1, 0, 0, 1, 1, 0, 0, 1, 1, 1, 1, 1, 1, 1, 1, 0, 1, 0, 0, 1, 1, 0, 0, 1, 1, 0, 1], .b 7, .c [1, 1, 1, 0, 1, 0, 0, 1, 1, 0, 0, 1, 1, 1, 1, 1, 1, 1, 1, 0, 1, 0, 0, 1, 1, 1], .l [1, 1, 1, 0, 1, 0, 0, 1, 1, 0, 0, 1, 1, 1, 1, 1, 1, 1, 1, 0, 1, 0, 0], .b 6, .c [1, 1, 1, 0, 1, 0, 0, 1, 1, 0, 0, 1, 1, 1, 1, 1, 1, 1, 1, 1], .b 1, .c [1, 1, 1, 0, 1, 0, 0, 1, 1, 1], .l [1, 1, 1, 0, 1, 0, 0], .b 0, .c [1, 1, 1, 1]], ⟨[], ⟨[], []⟩⟩), ([.c [1, 1, 1, 0, 1, 0, 0, 1, 1, 0, 0, 1, 1, 1, 1, 1, 1, 1, 1, 1, 0], .c [1, 1, 1, 0, 1, 0, 0, 1, 1, 0, 0, 1, 1, 1, 1, 1, 1, 1, 1, 1, 1], .b 1, .c [1, 1, 1, 0, 1, 0, 0, 1, 1, 1], .l [1, 1, 1, 0, 1, 0, 0], .b 0, .c [1, 1, 1, 1]], ⟨[5, 6, 15, 17, 31, 32, 33], ⟨[.own 0 0, .own 1 0, .i .i64, .b, .sl (.pair (.int .i64) (.int .i64)), .i .i64, .i .i64], [.segs [.sl (.sl (.int .i64)), .sl (.int .i64), .i .i64], .segs [.sl (.int .u8), .i .i64, .i .u32]]⟩⟩)], run := fun p k => (esure_l4 N N p.1.2.2.1 p.1.2.2.2.1 p.1.2.2.2.2.1 p.1.2.2.2.2.2.1 p.1.2.2.2.2.2.2.1 p.1.2.2.2.2.2.2.2.1 p.1.2.2.2.2.2.2.2.2.1 p.1.2.2.2.2.2.2.2.2.2.1 p.1.2.2.2.2.2.2.2.2.2.2.1 p.2.1.1 p.2.1.2.1 p.2.1.2.2.1 p.2.2.1.1 p.2.2.1.2.1 p.2.2.1.2.2.1).bind fun e => match e with | .inl x => k (.inl ((), ())) | .inr x => k (.inr (.inl (((), (), x.1, x.2.1, x.2.2.1, x.2.2.2.1, x.2.2.2.2.1, ()), ((x.2.2.2.2.2.1, x.2.2.2.2.2.2.1, x.2.2.2.2.2.2.2.1, ()), (x.2.2.2.2.2.2.2.2.1, x.2.2.2.2.2.2.2.2.2.1, x.2.2.2.2.2.2.2.2.2.2, ()), ())))) }
theorem esure_l4_eq (N n_ : Nat) (l : List (Int × Int)) (many : Int) (other : Bool) (u : List (Int × Int)) (u2 : Int) (u3 : Int) (u4 : List Int) (u5 : Int) (u6 : Int) (x : List (List Int)) (x2 : List Int) (x3 : Int) (q : List Int) (q2 : Int) (q3 : Int) : ev (Z := (Unit) ⊕ (Int × Bool × (List (Int × Int)) × Int × Int × List (List Int) × List Int × Int × List Int × Int × Int)) Try.prog (esure_sp N) esure_B [esure_l3_L N, esure_l2_L N] [esure_l4_h (esure_l4 N n_), esure_l4_e0, esure_l4_e1] none 400 true esure_l4_at (stL esure_l4_st (((), (), l, many, other, u, u2, u3, u4, u5, u6, ()), ((x, x2, x3, ()), (q, q2, q3, ()), ()))) (stH esure_l4_st (((), (), l, many, other, u, u2, u3, u4, u5, u6, ()), ((x, x2, x3, ()), (q, q2, q3, ()), ()))) = esure_l4 N (n_ + 1) l many other u u2 u3 u4 u5 u6 x x2 x3 q q2 q3 := by kernel_rfl
theorem esure_l4_ok (N : Nat) {top : Bool} : LoopOK Try.prog esure_B.c esure_B.n esure_B.m0 top (esure_l4_L N) := loop_of_ev (Z := (Unit) ⊕ (Int × Bool × (List (Int × Int)) × Int × Int × List (List Int) × List Int × Int × List Int × Int × Int)) (N := N) (fun m p => esure_l4 N m p.1.2.2.1 p.1.2.2.2.1 p.1.2.2.2.2.1 p.1.2.2.2.2.2.1 p.1.2.2.2.2.2.2.1 p.1.2.2.2.2.2.2.2.1 p.1.2.2.2.2.2.2.2.2.1 p.1.2.2.2.2.2.2.2.2.2.1 p.1.2.2.2.2.2.2.2.2.2.2.1 p.2.1.1 p.2.1.2.1 p.2.1.2.2.1 p.2.2.1.1 p.2.2.1.2.1 p.2.2.1.2.2.1) (fun e => match e with | .inl x => .inl ((), ()) | .inr x => .inr (.inl (((), (), x.1, x.2.1, x.2.2.1, x.2.2.2.1, x.2.2.2.2.1, ()), ((x.2.2.2.2.2.1, x.2.2.2.2.2.2.1, x.2.2.2.2.2.2.2.1, ()), (x.2.2.2.2.2.2.2.2.1, x.2.2.2.2.2.2.2.2.2.1, x.2.2.2.2.2.2.2.2.2.2, ()), ())))) (fun _ p k => bind_congr_ (esure_l4 N N p.1.2.2.1 p.1.2.2.2.1 p.1.2.2.2.2.1 p.1.2.2.2.2.2.1 p.1.2.2.2.2.2.2.1 p.1.2.2.2.2.2.2.2.1 p.1.2.2.2.2.2.2.2.2.1 p.1.2.2.2.2.2.2.2.2.2.1 p.1.2.2.2.2.2.2.2.2.2.2.1 p.2.1.1 p.2.1.2.1 p.2.1.2.2.1 p.2.2.1.1 p.2.2.1.2.1 p.2.2.1.2.2.1) _ _ (fun e => by rcases e with x | x <;> rfl)) (fun _ => rfl) (fun m z E Xc hE hX hrec hx => leaf_of_ev (B := esure_B) (loops := [esure_l3_L N, esure_l2_L N]) (leaves := [esure_l4_h (esure_l4 N m), esure_l4_e0, esure_l4_e1]) (esure_all N) mixed ⟨esure_l3_ok N, esure_l2_ok N, trivial⟩ hE hX ⟨hrec, (fun p hp => by obtain rfl := Option.some.inj hp; exact hx), (fun p hp => by obtain rfl := Option.some.inj hp; exact hx), trivial⟩ RetOK.no (fun p => esure_l4_eq N m p.1.2.2.1 p.1.2.2.2.1 p.1.2.2.2.2.1 p.1.2.2.2.2.2.1 p.1.2.2.2.2.2.2.1 p.1.2.2.2.2.2.2.2.1 p.1.2.2.2.2.2.2.2.2.1 p.1.2.2.2.2.2.2.2.2.2.1 p.1.2.2.2.2.2.2.2.2.2.2.1 p.2.1.1 p.2.1.2.1 p.2.1.2.2.1 p.2.2.1.1 p.2.2.1.2.1 p.2.2.1.2.2.1))
abbrev esure_l1_at : List PI := [.c [1, 1, 1, 0, 1, 0, 0, 0], .c [1, 1, 1, 0, 1, 0, 0, 1], .l [1, 1, 1, 0, 1, 0, 0], .b 0, .c [1, 1, 1, 1]]
abbrev esure_l1_st : Sta := ⟨[5, 6, 31, 32, 33], ⟨[.own 0 0, .own 1 0, .sl (.pair (.int .i64) (.int .i64)), .i .i64, .i .i64], [.segs [.sl (.sl (.int .i64)), .sl (.int .i64), .i .i64], .segs [.sl (.int .u8), .i .i64, .i .u32]]⟩⟩
abbrev esure_l1_h (rec : (List (Int × Int)) → Int → Int → (List (List Int)) → (List Int) → Int → (List Int) → Int → Int → Option ((Unit) ⊕ ((Unit) ⊕ ((Unit) ⊕ ((Unit) ⊕ (Unit)))))) : Leaf ((Unit) ⊕ ((Unit) ⊕ ((Unit) ⊕ ((Unit) ⊕ (Unit))))) := ⟨esure_l1_at, esure_l1_st, fun p => rec p.1.2.2.1 p.1.2.2.2.1 p.1.2.2.2.2.1 p.2.1.1 p.2.1.2.1 p.2.1.2.2.1 p.2.2.1.1 p.2.2.1.2.1 p.2.2.1.2.2.1⟩
abbrev esure_l1_e0 : Leaf ((Unit) ⊕ ((Unit) ⊕ ((Unit) ⊕ ((Unit) ⊕ (Unit))))) := ⟨[.c [1, 1, 1, 0, 1, 0, 0, 1, 1, 0, 0, 1, 1, 1, 1, 1, 0, 1, 0, 0], .c [1, 1, 1, 0, 1, 0, 0, 1, 1, 0, 0, 1, 1, 1, 1, 1, 0, 1, 0, 1], .c [1, 1, 1, 0, 1, 0, 0, 1, 1, 0, 0, 1, 1, 1, 1, 1, 1], .b 1, .c [1, 1, 1, 0, 1, 0, 0, 1, 1, 1], .l [1, 1, 1, 0, 1, 0, 0], .b 0, .c [1, 1, 1, 1]], ⟨[], ⟨[], []⟩⟩, fun p => some (.inl ())⟩
abbrev esure_l1_e1 : Leaf ((Unit) ⊕ ((Unit) ⊕ ((Unit) ⊕ ((Unit) ⊕ (Unit))))) := ⟨[.c [1, 1, 1, 0, 1, 0, 0, 1, 1, 0, 0, 1, 1, 1, 1, 1, 1, 1, 0, 1, 0, 0, 1, 1, 0, 0, 1, 1, 1, 1, 0, 0, 1, 1, 0, 0, 1, 1, 0, 0], .c [1, 1, 1, 0, 1, 0, 0, 1, 1, 0, 0, 1, 1, 1, 1, 1, 1, 1, 0, 1, 0, 0, 1, 1, 0, 0, 1, 1, 1, 1, 0, 0, 1, 1, 0, 0, 1, 1, 0, 1], .b 5, .c [1, 1, 1, 0, 1, 0, 0, 1, 1, 0, 0, 1, 1, 1, 1, 1, 1, 1, 0, 1, 0, 0, 1, 1, 0, 0, 1, 1, 1, 1, 0, 0, 1, 1, 1], .l [1, 1, 1, 0, 1, 0, 0, 1, 1, 0, 0, 1, 1, 1, 1, 1, 1, 1, 0, 1, 0, 0, 1, 1, 0, 0, 1, 1, 1, 1, 0, 0], .b 4, .b 3, .c [1, 1, 1, 0, 1, 0, 0, 1, 1, 0, 0, 1, 1, 1, 1, 1, 1, 1, 0, 1, 0, 0, 1, 1, 1], .l [1, 1, 1, 0, 1, 0, 0, 1, 1, 0, 0, 1, 1, 1, 1, 1, 1, 1, 0, 1, 0, 0], .b 2, .c [1, 1, 1, 0, 1, 0, 0, 1, 1, 0, 0, 1, 1, 1, 1, 1, 1, 1, 1], .b 1, .c [1, 1, 1, 0, 1, 0, 0, 1, 1, 1], .l [1, 1, 1, 0, 1, 0, 0], .b 0, .c [1, 1, 1, 1]], ⟨[], ⟨[], []⟩⟩, fun p => some (.inr (.inl ()))⟩
abbrev esure_l1_e2 : Leaf ((Unit) ⊕ ((Unit) ⊕ ((Unit) ⊕ ((Unit) ⊕ (Unit))))) := ⟨[.c [1, 1, 1, 0, 1, 0, 0, 1, 1, 0, 0, 1, 1, 1, 1, 1, 1, 1, 1, 0, 1, 0, 0, 1, 1, 0, 0, 1, 1, 0, 0], .c [1, 1, 1, 0, 1, 0, 0, 1, 1, 0, 0, 1, 1, 1, 1, 1, 1, 1, 1, 0, 1, 0, 0, 1, 1, 0, 0, 1, 1, 0, 1], .b 7, .c [1, 1, 1, 0, 1, 0, 0, 1, 1, 0, 0, 1, 1, 1, 1, 1, 1, 1, 1, 0, 1, 0, 0, 1, 1, 1], .l [1, 1, 1, 0, 1, 0, 0, 1, 1, 0, 0, 1, 1, 1, 1, 1, 1, 1, 1, 0, 1, 0, 0], .b 6, .c [1, 1, 1, 0, 1, 0, 0, 1, 1, 0, 0, 1, 1, 1, 1, 1, 1, 1, 1, 1], .b 1, .c [1, 1, 1, 0, 1, 0, 0, 1, 1, 1], .l [1, 1, 1, 0, 1, 0, 0], .b 0, .c [1, 1, 1, 1]], ⟨[], ⟨[], []⟩⟩, fun p => some (.inr (.inr (.inl ())))⟩
abbrev esure_l1_e3 : Leaf ((Unit) ⊕ ((Unit) ⊕ ((Unit) ⊕ ((Unit) ⊕ (Unit))))) := ⟨[.c [1, 1, 1, 0, 1, 0, 0, 1, 1, 0, 0, 1, 1, 1, 1, 1, 1, 1, 1, 1, 1, 0, 0], .c [1, 1, 1, 0, 1, 0, 0, 1, 1, 0, 0, 1, 1, 1, 1, 1, 1, 1, 1, 1, 1, 0, 1], .b 1, .c [1, 1, 1, 0, 1, 0, 0, 1, 1, 1], .l [1, 1, 1, 0, 1, 0, 0], .b 0, .c [1, 1, 1, 1]], ⟨[], ⟨[], []⟩⟩, fun p => some (.inr (.inr (.inr (.inl ()))))⟩
abbrev esure_l1_e4 : Leaf ((Unit) ⊕ ((Unit) ⊕ ((Unit) ⊕ ((Unit) ⊕ (Unit))))) := ⟨[.c [1, 1, 1, 1, 0], .c [1, 1, 1, 1, 1]], ⟨[], ⟨[], []⟩⟩, fun p => some (.inr (.inr (.inr (.inr ()))))⟩
noncomputable def esure_l1_L (N : Nat) : LoopS := { at_ := esure_l1_at, sta := esure_l1_st, exits := [([.c [1, 1, 1, 0, 1, 0, 0, 1, 1, 0, 0, 1, 1, 1, 1, 1, 0, 1, 0, 0], .c [1, 1, 1, 0, 1, 0, 0, 1, 1, 0, 0, 1, 1, 1, 1, 1, 0, 1, 0, 1], .c [1, 1, 1, 0, 1, 0, 0, 1, 1, 0, 0, 1, 1, 1, 1, 1, 1], .b 1, .c [1, 1, 1, 0, 1, 0, 0, 1, 1, 1], .l [1, 1, 1, 0, 1, 0, 0], .b 0, .c [1, 1, 1, 1]], ⟨[], ⟨[], []⟩⟩), ([.c [1, 1, 1, 0, 1, 0, 0, 1, 1, 0, 0, 1, 1, 1, 1, 1, 1, 1, 0, 1, 0, 0, 1, 1, 0, 0, 1, 1, 1, 1, 0, 0, 1, 1, 0, 0, 1, 1, 0, 0], .c [1, 1, 1, 0, 1, 0, 0, 1, 1, 0, 0, 1, 1, 1, 1, 1, 1, 1, 0, 1, 0, 0, 1, 1, 0, 0, 1, 1, 1, 1, 0, 0, 1, 1, 0, 0, 1, 1, 0, 1], .b 5, .c [1, 1, 1, 0, 1, 0, 0, 1, 1, 0, 0, 1, 1, 1, 1, 1, 1, 1, 0, 1, 0, 0, 1, 1, 0, 0, 1, 1, 1, 1, 0, 0, 1, 1, 1], .l [1, 1, 1, 0, 1, 0, 0, 1, 1, 0, 0, 1, 1, 1, 1, 1, 1, 1, 0, 1, 0, 0, 1, 1, 0, 0, 1, 1, 1, 1, 0, 0], .b 4, .b 3, .c [1, 1, 1, 0, 1, 0, 0, 1, 1, 0, 0, 1, 1, 1, 1, 1, 1, 1, 0, 1, 0, 0, 1, 1, 1], .l [1, 1, 1, 0, 1, 0, 0, 1, 1, 0, 0, 1, 1, 1, 1, 1, 1, 1, 0, 1, 0, 0], .b 2, .c [1, 1, 1, 0, 1, 0, 0, 1, 1, 0, 0, 1, 1, 1, 1, 1, 1, 1, 1], .b 1, .c [1, 1, 1, 0, 1, 0, 0, 1, 1, 1], .l [1, 1, 1, 0, 1, 0, 0], .b 0, .c [1, 1, 1, 1]], ⟨[], ⟨[], []⟩⟩), ([.c [1, 1, 1, 0, 1, 0, 0, 1, 1, 0, 0, 1, 1, 1, 1, 1, 1, 1, 1, 0, 1, 0, 0, 1, 1, 0, 0, 1, 1, 0, 0], .c [1, 1, 1, 0, 1, 0, 0, 1, 1, 0, 0, 1, 1, 1, 1, 1, 1, 1, 1, 0, 1, 0, 0, 1, 1, 0, 0, 1, 1, 0, 1], .b 7, .c [1, 1, 1, 0, 1, 0, 0, 1, 1, 0, 0, 1, 1, 1, 1, 1, 1, 1, 1, 0, 1, 0, 0, 1, 1, 1], .l [1, 1, 1, 0, 1, 0, 0, 1, 1, 0, 0, 1, 1, 1, 1, 1, 1, 1, 1, 0, 1, 0, 0], .b 6, .c [1, 1, 1, 0, 1, 0, 0, 1, 1, 0, 0, 1, 1, 1, 1, 1, 1, 1, 1, 1], .b 1, .c [1, 1, 1, 0, 1, 0, 0, 1, 1, 1], .l [1, 1, 1, 0, 1, 0, 0], .b 0, .c [1, 1, 1, 1]], ⟨[], ⟨[], []⟩⟩), ([.c [1, 1, 1, 0, 1, 0, 0, 1, 1, 0, 0, 1, 1, 1, 1, 1, 1, 1, 1, 1, 1, 0, 0], .c [1, 1, 1, 0, 1, 0, 0, 1, 1, 0, 0, 1, 1, 1, 1, 1, 1, 1, 1, 1, 1, 0, 1], .b 1, .c [1, 1, 1, 0, 1, 0, 0, 1, 1, 1], .l [1, 1, 1, 0, 1, 0, 0], .b 0, .c [1, 1, 1, 1]], ⟨[], ⟨[], []⟩⟩), ([.c [1, 1, 1, 1, 0], .c [1, 1, 1, 1, 1]], ⟨[], ⟨[], []⟩⟩)], run := fun p k => (esure_l1 N N p.1.2.2.1 p.1.2.2.2.1 p.1.2.2.2.2.1 p.2.1.1 p.2.1.2.1 p.2.1.2.2.1 p.2.2.1.1 p.2.2.1.2.1 p.2.2.1.2.2.1).bind fun e => match e with | .inl x => k (.inl ((), ())) | .inr (.inl x) => k (.inr (.inl ((), ()))) | .inr (.inr (.inl x)) => k (.inr (.inr (.inl ((), ())))) | .inr (.inr (.inr (.inl x))) => k (.inr (.inr (.inr (.inl ((), ()))))) | .inr (.inr (.inr (.inr x))) => k (.inr (.inr (.inr (.inr (.inl ((), ())))))) }
theorem esure_l1_eq (N n_ : Nat) (u : List (Int × Int)) (u2 : Int) (u3 : Int) (x : List (List Int)) (x2 : List Int) (x3 : Int) (q : List Int) (q2 : Int) (q3 : Int) : ev (Z := (Unit) ⊕ ((Unit) ⊕ ((Unit) ⊕ ((Unit) ⊕ (Unit))))) Try.prog (esure_sp N) esure_B [esure_l3_L N, esure_l2_L N, esure_l4_L N] [esure_l1_h (esure_l1 N n_), esure_l1_e0, esure_l1_e1, esure_l1_e2, esure_l1_e3, esure_l1_e4] none 400 true esure_l1_at (stL esure_l1_st (((), (), u, u2, u3, ()), ((x, x2, x3, ()), (q, q2, q3, ()), ()))) (stH esure_l1_st (((), (), u, u2, u3, ()), ((x, x2, x3, ()), (q, q2, q3, ()), ()))) = esure_l1 N (n_ + 1) u u2 u3 x x2 x3 q q2 q3 := by kernel_rfl
theorem esure_l1_ok (N : Nat) {top : Bool} : LoopOK Try.prog esure_B.c esure_B.n esure_B.m0 top (esure_l1_L N) := loop_of_ev (Z := (Unit) ⊕ ((Unit) ⊕ ((Unit) ⊕ ((Unit) ⊕ (Unit))))) (N := N) (fun m p => esure_l1 N m p.1.2.2.1 p.1.2.2.2.1 p.1.2.2.2.2.1 p.2.1.1 p.2.1.2.1 p.2.1.2.2.1 p.2.2.1.1 p.2.2.1.2.1 p.2.2.1.2.2.1) (fun e => match e with | .inl x => .inl ((), ()) | .inr (.inl x) => .inr (.inl ((), ())) | .inr (.inr (.inl x)) => .inr (.inr (.inl ((), ()))) | .inr (.inr (.inr (.inl x))) => .inr (.inr (.inr (.inl ((), ())))) | .inr (.inr (.inr (.inr x))) => .inr (.inr (.inr (.inr (.inl ((), ())))))) (fun _ p k => bind_congr_ (esure_l1 N N p.1.2.2.1 p.1.2.2.2.1 p.1.2.2.2.2.1 p.2.1.1 p.2.1.2.1 p.2.1.2.2.1 p.2.2.1.1 p.2.2.1.2.1 p.2.2.1.2.2.1) _ _ (fun e => by rcases e with x | x | x | x | x <;> rfl)) (fun _ => rfl) (fun m z E Xc hE hX hrec hx => leaf_of_ev (B := esure_B) (loops := [esure_l3_L N, esure_l2_L N, esure_l4_L N]) (leaves := [esure_l1_h (esure_l1 N m), esure_l1_e0, esure_l1_e1, esure_l1_e2, esure_l1_e3, esure_l1_e4]) (esure_all N) mixed ⟨esure_l3_ok N, esure_l2_ok N, esure_l4_ok N, trivial⟩ hE hX ⟨hrec, (fun p hp => by obtain rfl := Option.some.inj hp; exact hx), (fun p hp => by obtain rfl := Option.some.inj hp; exact hx), (fun p hp => by obtain rfl := Option.some.inj hp; exact hx), (fun p hp => by obtain rfl := Option.some.inj hp; exact hx), (fun p hp => by obtain rfl := Option.some.inj hp; exact hx), trivial⟩ RetOK.no (fun p => esure_l1_eq N m p.1.2.2.1 p.1.2.2.2.1 p.1.2.2.2.2.1 p.2.1.1 p.2.1.2.1 p.2.1.2.2.1 p.2.2.1.1 p.2.2.1.2.1 p.2.2.1.2.2.1))
abbrev esure_st : Sta := ⟨[0, 1], ⟨[.sl (.int .u8), .sl (.int .u8)], []⟩⟩
theorem esure_eq (N : Nat) (numbers : List Int) (tries : List Int) : ev (Z := Bool) Try.prog (esure_sp N) esure_B [esure_l3_L N, esure_l2_L N, esure_l4_L N, esure_l1_L N] [] (some esure_rt) 400 false [.c [0], .c [1]] (stL esure_st ((numbers, tries, ()), ())) (stH esure_st ((numbers, tries, ()), ())) = esure_S N numbers tries := by kernel_rfl
noncomputable def sp_esure (N : Nat) : Spec := { f := 5, ins := ⟨[.sl (.int .u8), .sl (.int .u8)], []⟩, outs := [⟨[.b], []⟩], run := fun p k => (esure_S N p.1.1 p.1.2.1).bind fun r => k ((r, ()), ()) }
theorem sp_esure_ok (N : Nat) : SpecOK Try.prog (sp_esure N) := fn_sound (B := esure_B) (loops := [esure_l3_L N, esure_l2_L N, esure_l4_L N, esure_l1_L N]) (leaves := []) (fun p => esure_S N p.1.1 p.1.2.1) (fun r => ((r, ()), ())) esure_rt (fun _ _ _ => rfl) (fun r z h => by cases h; rfl) Try.func5 (by kernel_rfl) (by kernel_rfl) (by kernel_rfl) rfl rfl (by kernel_rfl) (fun args w => Sem.pv_run _ _ _ (by kernel_rfl) w) (esure_all N) mixed ⟨esure_l3_ok N, esure_l2_ok N, esure_l4_ok N, esure_l1_ok N, trivial⟩ (fun z E Xc hE hX hret => trivial) (fun p => esure_eq N p.1.1 p.1.2.1)

end Go.Proofs.Ytfcnhnbnjdccfaa

namespace Go.Proofs.Ytfcnhnbnjdccfaa
set_option linter.all false
open Go

section
variable {N : Nat} {T : List (List Int)} {H A B : List Int} {f : Int}
abbrev keyT : Ty := .pair (.int .i64) (.pair (.int .i64) (.int .i64))
abbrev keyA (x : At3) : Int × Int × Int := (((x.1 : Nat) : Int), ((x.2.1 : Nat) : Int), ((x.2.2 : Nat) : Int))
/-- Whether a place is remembered. -/
def hasK (m : Memo) (x : At3) : Bool := (m.find? fun y => Ty.beq keyT y.1 (keyA x)).isSome
theorem hasK_cons {m : Memo} {x z : At3} {v : Int × Int} : hasK ((keyA x, v) :: m) z = true ↔ z = x ∨ hasK m z = true := by
  unfold hasK
  rw [List.find?_cons]
  by_cases e : Ty.beq keyT (keyA x) (keyA z) = true
  · rw [e]
    have := (beq_iff_ (y := keyT) rfl).1 e
    simp only [keyA, Prod.mk.injEq] at this
    have : z = x := by
      obtain ⟨a, b, c⟩ := x
      obtain ⟨a', b', c'⟩ := z
      dsimp only at this
      simp only [Prod.mk.injEq]; omega
    simp [this]
  · have e' : Ty.beq keyT (keyA x) (keyA z) = false := by simpa using e
    rw [e']
    constructor
    · exact fun h => .inr h
    · rintro (rfl | h)
      · exact absurd ((beq_iff_ (y := keyT) rfl).2 rfl) e
      · exact h
def Grow (m m' : Memo) : Prop := ∀ z, hasK m z = true → hasK m' z = true
/-- What is remembered is right, and so is all that it came of. -/
def MOK (H A B : List Int) (m : Memo) : Prop := MapOK mayA H A B m ∧ ∀ x : At3, hasK m x = true → x.1 < H.length → ∀ mv ∈ movesL A B (H.getD x.1 0) x, mv.2.1 < H.length → hasK m mv.2 = true
theorem MOK.cons {m : Memo} (h : MOK H A B m) {x : At3} (hk : ∀ mv ∈ movesL A B (H.getD x.1 0) x, mv.2.1 < H.length → hasK m mv.2 = true) : MOK H A B ((keyA x, tv mayA H A B x) :: m) := by
  refine ⟨h.1.cons x, fun z hz hlt mv hmv hl => hasK_cons.2 (.inr ?_)⟩
  rcases hasK_cons.1 hz with rfl | hz
  · exact hk mv hmv hl
  · exact h.2 z hz hlt mv hmv hl
theorem MOK.nil : MOK H A B [] := ⟨MapOK.nil _ _ _ _, fun x h => by cases h⟩
theorem resta_l1_q {self : Int → Int → Int → Desk → Desk → Memo → Option (Int × Int × Desk × Memo)} {h n : Nat} (hH : n ≤ 9) (hA : A.length ≤ 6) (hB : B.length ≤ 6) {u : Int × Int × Int} {u2 : Desk} {x x2 x3 g3 g4 : Int}
    (hself : ∀ (y : At3) (m : Memo), y.1 = h + 1 → y.2.1 ≤ A.length → y.2.2 ≤ B.length → MOK H A B m → ∃ m', self y.1 y.2.1 y.2.2 (T, H, f, A, B) (T, H, f, A, B) m = some ((tvx mayA H A B n y).1, (tvx mayA H A B n y).2, (T, H, f, A, B), m') ∧ MOK H A B m' ∧ Grow m m' ∧ (y.1 < H.length → hasK m' y = true)) :
    ∀ (ms : List Mv) (m : Memo) (c : Nat) (best : Int × Int), (∀ mv ∈ ms, mv.2.1 = h + 1 ∧ mv.2.2.1 ≤ A.length ∧ mv.2.2.2 ≤ B.length) → MOK H A B m → Bst n c best → c + ms.length ≤ 13 →
      ∃ m', resta_l1 N self (ms.map movP) u u2 (T, H, f, A, B) m x x2 x3 g3 g4 best.1 best.2 = some ((T, H, f, A, B), m', x, x2, x3, g3, g4, (ms.foldl (stepT mayA h (tvx mayA H A B n)) best).1, (ms.foldl (stepT mayA h (tvx mayA H A B n)) best).2) ∧ MOK H A B m' ∧ Grow m m' ∧ ∀ mv ∈ ms, mv.2.1 < H.length → hasK m' mv.2 = true
  | [], m, c, best, _, hm, _, _ => ⟨m, rfl, hm, fun _ h => h, fun _ h => (by cases h)⟩
  | mv :: ms, m, c, best, hv, hm, hb, hc => by
    obtain ⟨hv1, hv2, hv3⟩ := hv mv (by simp)
    obtain ⟨m1, he, hm1, hg1, hk1⟩ := hself mv.2 m hv1 hv2 hv3 hm
    have ht := tvx_bnd mayA (H := H) hA hB n mv.2
    have hb' := stepT_bnd (may := mayA) (h := h) (t := tvx mayA H A B n) (m := mv) ht hb
    obtain ⟨m2, h2, hm2, hg2, hk2⟩ := resta_l1_q (u := u) (u2 := u2) (x := x) (x2 := x2) (x3 := x3) (g3 := g3) (g4 := g4) hH hA hB hself ms m1 (c + 1) _ (fun v hv' => hv v (by simp [hv'])) hm1 hb' (by simp only [List.length_cons] at hc; omega)
    refine ⟨m2, ?_, hm2, fun z hz => hg2 z (hg1 z hz), fun v hv' hlt => ?_⟩
    rotate_left
    · rcases List.mem_cons.1 hv' with rfl | hv'
      · exact hg2 _ (hk1 hlt)
      · exact hk2 v hv' hlt
    rw [List.map_cons, List.foldl_cons, ← h2]
    have hp := pow13 (n := n) (by omega)
    have hbb : (((c + 1) * 13 ^ n : Nat) : Int) ≤ 13 * 137858491849 := by
      have : (c + 1) * 13 ^ n ≤ 13 * 137858491849 := Nat.mul_le_mul (by simp only [List.length_cons] at hc; omega) hp
      omega
    have hb2 : best.2 + (tvx mayA H A B n mv.2).2 ≤ 13 * 137858491849 := by
      have e : (((c + 1) * 13 ^ n : Nat) : Int) = ((c * 13 ^ n : Nat) : Int) + ((13 ^ n : Nat) : Int) := by rw [Nat.succ_mul]; simp
      have := hb.2.2.2
      have := ht.2.2.2
      omega
    have h0 := hb.2.2.1
    have h1 := ht.2.2.1
    have hn1 := ht.1
    have hn2 := ht.2.1
    simp only [resta_l1, resta_l1_b, movP, all1_S, Option.bind_some, Bool.not_true, br_false]
    rw [he]
    have hst : stepT mayA h (tvx mayA H A B n) best mv = (if best.1 < wT mv.1.1 (tvx mayA H A B n mv.2).1 then (wT mv.1.1 (tvx mayA H A B n mv.2).1, (tvx mayA H A B n mv.2).2) else if wT mv.1.1 (tvx mayA H A B n mv.2).1 = best.1 then (best.1, best.2 + (tvx mayA H A B n mv.2).2) else best) := by
      unfold stepT; exact if_pos rfl
    rw [hst]
    simp only [Option.bind_some, wT]
    clear hst h2 he hb' hself
    generalize tvx mayA H A B n mv.2 = t at *
    obtain ⟨tw, ty⟩ := t
    obtain ⟨bw, by_⟩ := best
    simp only at *
    by_cases c1 : 0 ≤ tw
    · rw [br_dec c1]
      by_cases c2 : mv.1.1 = 3
      · refine (br_nd c2).trans ?_
        have c2' : ¬ (0 ≤ tw ∧ mv.1.1 ≠ 3) := fun h => h.2 c2
        rw [if_neg c2']
        by_cases c3 : bw < tw
        · rw [br_dec c3, if_pos c3]
        · rw [br_ndec c3, if_neg c3]
          by_cases c4 : tw = bw
          · rw [br_dec c4, if_pos c4, chk_eq (by omega)]
          · rw [br_ndec c4, if_neg c4]
      · refine (br_nnd c2).trans ?_
        have c2' : 0 ≤ tw ∧ mv.1.1 ≠ 3 := ⟨c1, c2⟩
        rw [chk_eq (by omega), if_pos c2']
        by_cases c3 : bw < tw + 1
        · rw [br_dec c3, if_pos c3]
        · rw [br_ndec c3, if_neg c3]
          by_cases c4 : tw + 1 = bw
          · rw [br_dec c4, if_pos c4, chk_eq (by omega)]
          · rw [br_ndec c4, if_neg c4]
    · have c2' : ¬ (0 ≤ tw ∧ mv.1.1 ≠ 3) := fun h => c1 h.1
      rw [br_ndec c1, if_neg c2']
      by_cases c3 : bw < tw
      · rw [br_dec c3, if_pos c3]
      · rw [br_ndec c3, if_neg c3]
        by_cases c4 : tw = bw
        · rw [br_dec c4, if_pos c4, chk_eq (by omega)]
        · rw [br_ndec c4, if_neg c4]
theorem resta_R_q (hH : H.length ≤ 10) (hA : A.length ≤ 6) (hB : B.length ≤ 6) : ∀ (fu : Nat) (x : At3) (m : Memo), H.length < fu + x.1 → x.1 ≤ H.length → x.2.1 ≤ A.length → x.2.2 ≤ B.length → MOK H A B m →
    ∃ m', resta_R N fu x.1 x.2.1 x.2.2 (T, H, f, A, B) (T, H, f, A, B) m = some ((tv mayA H A B x).1, (tv mayA H A B x).2, (T, H, f, A, B), m') ∧ MOK H A B m' ∧ Grow m m' ∧ (x.1 < H.length → hasK m' x = true)
  | 0, x, m, h, h1, _, _, _ => by omega
  | fu + 1, x, m, h, hx, ha, hb, hm => by
    show ∃ m', resta_S N (resta_R N fu) x.1 x.2.1 x.2.2 (T, H, f, A, B) (T, H, f, A, B) m = _ ∧ _
    unfold resta_S
    by_cases c1 : x.1 = H.length
    · rw [br_dec (by dsimp only; omega)]
      refine ⟨m, ?_, hm, fun _ h => h, fun h => by omega⟩
      simp [tv, tvx, c1]
    · rw [br_ndec (by dsimp only; omega)]
      cases hf : m.find? (fun y => Ty.beq (.pair (.int .i64) (.pair (.int .i64) (.int .i64))) y.1 (((x.1 : Nat) : Int), ((x.2.1 : Nat) : Int), ((x.2.2 : Nat) : Int))) with
      | some e =>
        have := hm.1.find x hf
        refine ⟨m, ?_, hm, fun _ h => h, fun _ => by unfold hasK; rw [hf]; rfl⟩
        simp [br, this]
      | none =>
        simp only [Option.isSome_none, br_false, next_S, Option.bind_some]
        have hnx : nextR (((x.1 : Nat) : Int), ((x.2.1 : Nat) : Int), ((x.2.2 : Nat) : Int)) (T, H, f, A, B) = some ((movesL A B (H.getD x.1 0) x).map movP) := by
          unfold nextR
          rw [if_pos (by dsimp only; omega)]
          simp only [Int.toNat_natCast]
        rw [hnx]
        simp only [Option.bind_some]
        obtain ⟨n, hn⟩ : ∃ n, H.length - x.1 = n + 1 := ⟨H.length - x.1 - 1, by omega⟩
        obtain ⟨m1, h2, hm1, hg1, hk1⟩ := resta_l1_q (N := N) (T := T) (f := f) (self := resta_R N fu) (h := x.1) (n := n) (u := (((x.1 : Nat) : Int), ((x.2.1 : Nat) : Int), ((x.2.2 : Nat) : Int))) (u2 := (T, H, f, A, B)) (x := x.1) (x2 := x.2.1) (x3 := x.2.2) (g3 := 0) (g4 := 0) (by omega) hA hB (fun y m' hy hya hyb hm' => by
          have := resta_R_q hH hA hB fu y m' (by omega) (by omega) hya hyb hm'
          rw [show tv mayA H A B y = tvx mayA H A B n y by unfold tv; rw [show H.length - y.1 = n by omega]] at this
          exact this) (movesL A B (H.getD x.1 0) x) m 0 (-1, 0) (fun mv hv => movesL_ok ha hb hv) hm (by refine ⟨?_, ?_, ?_, ?_⟩ <;> simp; omega) (by have := movesL_len A B (H.getD x.1 0) x; omega)
        have e : (movesL A B (H.getD x.1 0) x).foldl (stepT mayA x.1 (tvx mayA H A B n)) (-1, 0) = tv mayA H A B x := by
          unfold tv; rw [hn, tvx]
        rw [e] at h2
        rw [h2]
        exact ⟨_, rfl, hm1.cons hk1, fun z hz => hasK_cons.2 (.inr (hg1 z hz)), fun _ => hasK_cons.2 (.inl rfl)⟩
theorem restsa_q (hN : 12 ≤ N) (hH : H.length ≤ 10) (hA : A.length ≤ 6) (hB : B.length ≤ 6) : ∃ m, restsa_S N (T, H, f, A, B) = some m ∧ MOK H A B m ∧ (0 < H.length → hasK m (0, 0, 0) = true) := by
  unfold restsa_S restsa_j1
  obtain ⟨m, h, hm, _, hk⟩ := resta_R_q (N := N) (T := T) (f := f) hH hA hB N (0, 0, 0) [] (by dsimp only; omega) (by dsimp only; omega) (by dsimp only; omega) (by dsimp only; omega) MOK.nil
  simp only [Int.natCast_zero] at h
  rw [h]
  refine ⟨_, rfl, ?_, fun _ => hasK_cons (x := (0, 0, 0)).2 (.inl rfl)⟩
  by_cases c : 0 < H.length
  · exact hm.cons (fun mv hmv hl => hm.2 _ (hk c) c mv hmv hl)
  · refine ⟨hm.1.cons (0, 0, 0), fun z hz hlt => by omega⟩
/-- What is remembered of a place. -/
def look (m : Memo) (x : At3) : Int := (((m.find? fun y => Ty.beq keyT y.1 (keyA x)).map (·.2)).getD (Ty.dflt (.pair (.int .i64) (.int .i64)))).1
theorem look_v {m : Memo} (h : MOK H A B m) {x : At3} (hx : hasK m x = true ∨ x.1 = H.length) : look m x = (tv mayA H A B x).1 := by
  unfold look
  cases hf : m.find? fun y => Ty.beq keyT y.1 (keyA x) with
  | some e =>
    have := h.1.find x hf
    simp [this]
  | none =>
    rcases hx with hx | hx
    · unfold hasK at hx; rw [hf] at hx; cases hx
    · simp [tv, tvx, hx, Ty.dflt]
def wTn (m : Memo) (mv : Mv) : Int := if mv.1.1 = 3 then look m mv.2 else look m mv.2 + 1
theorem reading_l2_p {m : Memo} {u : Int} {d u3 : Desk} {u2 : Int × Int × Int} {x : At3} {out : List (Int × Int)} (ho : out.length ≤ 1000) : ∀ ms : List Mv, (∀ mv ∈ ms, -1 ≤ look m mv.2 ∧ look m mv.2 ≤ 100) → (∃ mv ∈ ms, wTn m mv = look m x) →
    ∃ mv ∈ ms, wTn m mv = look m x ∧ reading_l2 N (ms.map movP) u d u2 u3 x.1 x.2.1 x.2.2 m out = some (u, d, ((mv.2.1 : Nat) : Int), ((mv.2.2.1 : Nat) : Int), ((mv.2.2.2 : Nat) : Int), m, out ++ [mv.1])
  | [], _, h => by obtain ⟨_, h, _⟩ := h; cases h
  | mv :: ms, hb, he => by
    have hb0 := hb mv (by simp)
    have el : (((m.find? fun y => Ty.beq keyT y.1 (((mv.2.1 : Nat) : Int), ((mv.2.2.1 : Nat) : Int), ((mv.2.2.2 : Nat) : Int))).map (·.2)).getD (Ty.dflt (.pair (.int .i64) (.int .i64)))).1 = look m mv.2 := rfl
    have ex : (((m.find? fun y => Ty.beq keyT y.1 (((x.1 : Nat) : Int), ((x.2.1 : Nat) : Int), ((x.2.2 : Nat) : Int))).map (·.2)).getD (Ty.dflt (.pair (.int .i64) (.int .i64)))).1 = look m x := rfl
    have st : reading_l2 N ((mv :: ms).map movP) u d u2 u3 x.1 x.2.1 x.2.2 m out = if wTn m mv = look m x then some (u, d, ((mv.2.1 : Nat) : Int), ((mv.2.2.1 : Nat) : Int), ((mv.2.2.2 : Nat) : Int), m, out ++ [mv.1]) else reading_l2 N (ms.map movP) u d u2 u3 x.1 x.2.1 x.2.2 m out := by
      rw [List.map_cons, reading_l2, reading_l2_b]
      dsimp only [movP]
      by_cases c : mv.1.1 = 3
      · have hw : wTn m mv = look m mv.2 := if_pos c
        refine (br_nd c).trans ?_
        rw [hw]
        by_cases c2 : look m mv.2 = look m x
        · rw [if_pos c2]
          refine (br_dec c2).trans ?_
          rw [lim_eq (by simp; omega)]
        · rw [if_neg c2]
          exact br_ndec c2
      · have hw : wTn m mv = look m mv.2 + 1 := if_neg c
        refine (br_nnd c).trans ?_
        refine (chk_eq (by rw [el]; omega)).trans ?_
        rw [hw]
        by_cases c2 : look m mv.2 + 1 = look m x
        · rw [if_pos c2]
          refine (br_dec c2).trans ?_
          rw [lim_eq (by simp; omega)]
        · rw [if_neg c2]
          exact br_ndec c2
    rw [st]
    by_cases c : wTn m mv = look m x
    · rw [if_pos c]
      exact ⟨mv, by simp, c, rfl⟩
    · rw [if_neg c]
      obtain ⟨v, hv, h1, h2⟩ := reading_l2_p (u := u) (d := d) (u3 := u3) (u2 := u2) (x := x) ho ms (fun v hv => hb v (by simp [hv])) (by
        obtain ⟨v, hv, e⟩ := he
        rcases List.mem_cons.1 hv with rfl | hv
        · exact absurd e c
        · exact ⟨v, hv, e⟩)
      exact ⟨v, by simp [hv], h1, h2⟩
end
end Go.Proofs.Ytfcnhnbnjdccfaa

namespace Go.Proofs.Ytfcnhnbnjdccfaa
set_option linter.all false
open Go

section
variable {N : Nat} {T : List (List Int)} {H A B : List Int} {f a b : Int}
theorem reading_l1_p (hH : H.length ≤ 10) (hA : A.length ≤ 6) (hB : B.length ≤ 6) {u : Int} {m : Memo} (hm : MOK H A B m) : ∀ (k n : Nat) (x : At3) (out : List (Int × Int)), H.length = x.1 + k → k < n → x.2.1 ≤ A.length → x.2.2 ≤ B.length → (x.1 < H.length → hasK m x = true) → out.length + k ≤ 100 →
    ∃ r ∈ rdx H A B k x, toldN r = (tvx mayA H A B k x).1 ∧ reading_l1 N n u (T, H, f, A, B) x.1 x.2.1 x.2.2 m out = some (out ++ r)
  | k, 0, x, out, _, h, _, _, _, _ => by omega
  | 0, n + 1, x, out, hk, _, _, _, _, _ => by
    refine ⟨[], by simp [rdx], by simp [toldN, tvx], ?_⟩
    unfold reading_l1
    rw [br_ndec (by dsimp only; omega), List.append_nil]
  | k + 1, n + 1, x, out, hk, hn, ha, hb, hx, ho => by
    have hxl : x.1 < H.length := by omega
    have tve : ∀ (j : Nat) (y : At3), H.length = y.1 + j → tv mayA H A B y = tvx mayA H A B j y := fun j y hy => by unfold tv; rw [show H.length - y.1 = j by omega]
    have hmv : ∀ mv ∈ movesL A B (H.getD x.1 0) x, look m mv.2 = (tvx mayA H A B k mv.2).1 := fun mv hmv => by
      obtain ⟨h1, _, _⟩ := movesL_ok ha hb hmv
      rw [look_v hm, tve k _ (by omega)]
      rcases Nat.lt_or_ge mv.2.1 H.length with c | c
      · exact .inl (hm.2 x (hx hxl) hxl mv hmv c)
      · exact .inr (by omega)
    have hlx : look m x = (tvx mayA H A B (k + 1) x).1 := by
      rw [look_v hm (.inl (hx hxl)), tve (k + 1) _ hk]
    have hex : ∃ mv ∈ movesL A B (H.getD x.1 0) x, wTn m mv = look m x := by
      have nn := tvx_nonneg H A B (h := x.1) (i := x.2.1) (k := x.2.2) hk
      rw [show ((x.1, x.2.1, x.2.2) : At3) = x from rfl] at nn
      rw [hlx, tvx]
      rw [tvx] at nn
      rcases fold_has (h := x.1) (t := tvx mayA H A B k) (movesL A B (H.getD x.1 0) x) (-1, 0) with h1 | ⟨mv, hmm, h1⟩
      · rw [h1] at nn; exact absurd nn (by decide)
      · obtain ⟨hy, _, _⟩ := movesL_ok ha hb hmm
        have h0 := tvx_nonneg H A B (h := mv.2.1) (i := mv.2.2.1) (k := mv.2.2.2) (n := k) (by omega)
        rw [show ((mv.2.1, mv.2.2.1, mv.2.2.2) : At3) = mv.2 from rfl] at h0
        refine ⟨mv, hmm, ?_⟩
        rw [h1]
        unfold wTn wT
        rw [hmv mv hmm]
        by_cases c : mv.1.1 = 3
        · rw [if_pos c, if_neg (fun h => h.2 c)]
        · rw [if_neg c, if_pos ⟨h0, c⟩]
    obtain ⟨mv, hmm, hw, e⟩ := reading_l2_p (N := N) (u := u) (d := (T, H, f, A, B)) (u3 := (T, H, f, A, B)) (u2 := (((x.1 : Nat) : Int), ((x.2.1 : Nat) : Int), ((x.2.2 : Nat) : Int))) (x := x) (out := out) (by omega) (movesL A B (H.getD x.1 0) x) (fun mv hmm => by
      have := tvx_bnd mayA (H := H) hA hB k mv.2
      rw [hmv mv hmm]
      have h1 := this.1; have h2 := this.2.1
      omega) hex
    obtain ⟨hy, hya, hyb⟩ := movesL_ok ha hb hmm
    obtain ⟨r, hr, er, e2⟩ := reading_l1_p hH hA hB hm k n mv.2 (out ++ [mv.1]) (by omega) (by omega) hya hyb (fun hl => hm.2 x (hx hxl) hxl mv hmm hl) (by rw [List.length_append, List.length_singleton]; omega)
    refine ⟨mv.1 :: r, List.mem_flatMap.2 ⟨mv, hmm, List.mem_map.2 ⟨r, hr, rfl⟩⟩, ?_, ?_⟩
    · rw [← hlx, ← hw]
      unfold toldN wTn
      rw [hmv mv hmm, er]
      split <;> omega
    · unfold reading_l1
      rw [br_dec (by dsimp only; omega)]
      simp only [next_S, Option.bind_some]
      have nx := nextR_v (T := T) (f := f) hxl hH hA hB ha hb
      rw [show ((x.1, x.2.1, x.2.2) : At3) = x from rfl] at nx
      rw [nx]
      simp only [Option.bind_some]
      rw [e]
      simp only [Option.bind_some]
      rw [e2, List.append_assoc]; rfl
theorem reading_v (hN : 20 ≤ N) (h : openE T H f a b = 0) : ∃ r ∈ rdAll H (T.getD a.toNat []) (T.getD b.toNat []), toldN r = (tv mayA H (T.getD a.toNat []) (T.getD b.toNat []) (0, 0, 0)).1 ∧ reading_S N T H f a b = some (r, 0) := by
  obtain ⟨hF, ha, hb, e⟩ := opened_good hN h
  have hH := hF.h
  have lA := hF.l (T.getD a.toNat []) (getD_mem (by omega))
  have lB := hF.l (T.getD b.toNat []) (getD_mem (by omega))
  obtain ⟨m, em, hm, hk⟩ := restsa_q (N := N) (T := T) (f := f) (by omega) hH lA.2 lB.2
  obtain ⟨r, hr, er, e2⟩ := reading_l1_p (N := N) (T := T) (f := f) (u := 0) hH lA.2 lB.2 hm H.length N (0, 0, 0) [] (by simp) (by omega) (Nat.zero_le _) (Nat.zero_le _) hk (by simp; omega)
  refine ⟨r, hr, er, ?_⟩
  unfold reading_S
  rw [e]
  simp only [Option.bind_some, decide_true, Bool.not_true, br_false, all_S]
  rw [em]
  simp only [Option.bind_some]
  dsimp only at e2
  rw [show ((0 : Nat) : Int) = 0 from rfl] at e2
  rw [e2]; rfl
end
end Go.Proofs.Ytfcnhnbnjdccfaa

namespace Go.Proofs.Ytfcnhnbnjdccfaa
set_option linter.all false
open Go

/-- A word is of a side. -/
def mayS (i : Nat) (s : Int) : Nat → Int × Int → Bool := fun h q => decide (h ≠ i) || decide (q.1 = s)
section
variable {N : Nat} {T : List (List Int)} {H A B : List Int} {f : Int}
theorem sure1_mayS {h i : Nat} {s p p2 : Int} : sure1_S N h p p2 i s = some (mayS i s h (p, p2)) := by
  unfold sure1_S mayS
  by_cases c : h = i
  · rw [br_nd (by omega)]; simp [c]
  · rw [br_nnd (by omega)]; simp [c]
theorem rests_l1_p {self : Int → Int → Int → Desk → Int → Int → Desk → Int → Int → Memo → Option (Int × Int × Desk × Int × Int × Memo)} {h n i : Nat} {s : Int} (hH : n ≤ 9) (hA : A.length ≤ 6) (hB : B.length ≤ 6) {u : Int × Int × Int} {u2 : Desk} {x2 x3 g3 g4 : Int}
    (hself : ∀ (y : At3) (m : Memo), y.1 = h + 1 → y.2.1 ≤ A.length → y.2.2 ≤ B.length → MapOK (mayS i s) H A B m → ∃ m', self y.1 y.2.1 y.2.2 (T, H, f, A, B) i s (T, H, f, A, B) i s m = some ((tvx (mayS i s) H A B n y).1, (tvx (mayS i s) H A B n y).2, (T, H, f, A, B), (i : Int), s, m') ∧ MapOK (mayS i s) H A B m') :
    ∀ (ms : List Mv) (m : Memo) (c : Nat) (best : Int × Int), (∀ mv ∈ ms, mv.2.1 = h + 1 ∧ mv.2.2.1 ≤ A.length ∧ mv.2.2.2 ≤ B.length) → MapOK (mayS i s) H A B m → Bst n c best → c + ms.length ≤ 13 →
      ∃ m', rests_l1 N self (ms.map movP) i s u u2 (T, H, f, A, B) i s m h x2 x3 g3 g4 best.1 best.2 = some ((T, H, f, A, B), (i : Int), s, m', (h : Int), x2, x3, g3, g4, (ms.foldl (stepT (mayS i s) h (tvx (mayS i s) H A B n)) best).1, (ms.foldl (stepT (mayS i s) h (tvx (mayS i s) H A B n)) best).2) ∧ MapOK (mayS i s) H A B m'
  | [], m, c, best, _, hm, _, _ => ⟨m, rfl, hm⟩
  | mv :: ms, m, c, best, hv, hm, hb, hc => by
    obtain ⟨hv1, hv2, hv3⟩ := hv mv (by simp)
    by_cases cm : mayS i s h mv.1 = true
    rotate_left
    · have hst : stepT (mayS i s) h (tvx (mayS i s) H A B n) best mv = best := by
        unfold stepT; exact if_neg cm
      have hb' := stepT_bnd (may := mayS i s) (h := h) (t := tvx (mayS i s) H A B n) (m := mv) (tvx_bnd (mayS i s) (H := H) hA hB n mv.2) hb
      rw [hst] at hb'
      obtain ⟨m2, h2, hm2⟩ := rests_l1_p (u := u) (u2 := u2) (x2 := x2) (x3 := x3) (g3 := g3) (g4 := g4) hH hA hB hself ms m (c + 1) _ (fun v hv' => hv v (by simp [hv'])) hm hb' (by simp only [List.length_cons] at hc; omega)
      refine ⟨m2, ?_, hm2⟩
      rw [List.map_cons, List.foldl_cons, hst, ← h2]
      rw [Bool.not_eq_true] at cm
      simp only [rests_l1, rests_l1_b, movP, sure1_mayS, Option.bind_some]
      rw [cm]; rfl
    obtain ⟨m1, he, hm1⟩ := hself mv.2 m hv1 hv2 hv3 hm
    have ht := tvx_bnd (mayS i s) (H := H) hA hB n mv.2
    have hb' := stepT_bnd (may := (mayS i s)) (h := h) (t := tvx (mayS i s) H A B n) (m := mv) ht hb
    obtain ⟨m2, h2, hm2⟩ := rests_l1_p (u := u) (u2 := u2) (x2 := x2) (x3 := x3) (g3 := g3) (g4 := g4) hH hA hB hself ms m1 (c + 1) _ (fun v hv' => hv v (by simp [hv'])) hm1 hb' (by simp only [List.length_cons] at hc; omega)
    refine ⟨m2, ?_, hm2⟩
    rw [List.map_cons, List.foldl_cons, ← h2]
    have hp := pow13 (n := n) (by omega)
    have hbb : (((c + 1) * 13 ^ n : Nat) : Int) ≤ 13 * 137858491849 := by
      have : (c + 1) * 13 ^ n ≤ 13 * 137858491849 := Nat.mul_le_mul (by simp only [List.length_cons] at hc; omega) hp
      omega
    have hb2 : best.2 + (tvx (mayS i s) H A B n mv.2).2 ≤ 13 * 137858491849 := by
      have e : (((c + 1) * 13 ^ n : Nat) : Int) = ((c * 13 ^ n : Nat) : Int) + ((13 ^ n : Nat) : Int) := by rw [Nat.succ_mul]; simp
      have := hb.2.2.2
      have := ht.2.2.2
      omega
    have h0 := hb.2.2.1
    have h1 := ht.2.2.1
    have hn1 := ht.1
    have hn2 := ht.2.1
    simp only [rests_l1, rests_l1_b, movP, sure1_mayS, Option.bind_some]
    rw [cm]
    simp only [Bool.not_true, br_false]
    rw [he]
    have hst : stepT (mayS i s) h (tvx (mayS i s) H A B n) best mv = (if best.1 < wT mv.1.1 (tvx (mayS i s) H A B n mv.2).1 then (wT mv.1.1 (tvx (mayS i s) H A B n mv.2).1, (tvx (mayS i s) H A B n mv.2).2) else if wT mv.1.1 (tvx (mayS i s) H A B n mv.2).1 = best.1 then (best.1, best.2 + (tvx (mayS i s) H A B n mv.2).2) else best) := by
      unfold stepT; exact if_pos cm
    rw [hst]
    simp only [Option.bind_some, wT]
    clear hst h2 he hb' hself
    generalize tvx (mayS i s) H A B n mv.2 = t at *
    obtain ⟨tw, ty⟩ := t
    obtain ⟨bw, by_⟩ := best
    simp only at *
    by_cases c1 : 0 ≤ tw
    · rw [br_dec c1]
      by_cases c2 : mv.1.1 = 3
      · refine (br_nd c2).trans ?_
        have c2' : ¬ (0 ≤ tw ∧ mv.1.1 ≠ 3) := fun h => h.2 c2
        rw [if_neg c2']
        by_cases c3 : bw < tw
        · rw [br_dec c3, if_pos c3]
        · rw [br_ndec c3, if_neg c3]
          by_cases c4 : tw = bw
          · rw [br_dec c4, if_pos c4, chk_eq (by omega)]
          · rw [br_ndec c4, if_neg c4]
      · refine (br_nnd c2).trans ?_
        have c2' : 0 ≤ tw ∧ mv.1.1 ≠ 3 := ⟨c1, c2⟩
        rw [chk_eq (by omega), if_pos c2']
        by_cases c3 : bw < tw + 1
        · rw [br_dec c3, if_pos c3]
        · rw [br_ndec c3, if_neg c3]
          by_cases c4 : tw + 1 = bw
          · rw [br_dec c4, if_pos c4, chk_eq (by omega)]
          · rw [br_ndec c4, if_neg c4]
    · have c2' : ¬ (0 ≤ tw ∧ mv.1.1 ≠ 3) := fun h => c1 h.1
      rw [br_ndec c1, if_neg c2']
      by_cases c3 : bw < tw
      · rw [br_dec c3, if_pos c3]
      · rw [br_ndec c3, if_neg c3]
        by_cases c4 : tw = bw
        · rw [br_dec c4, if_pos c4, chk_eq (by omega)]
        · rw [br_ndec c4, if_neg c4]
theorem rests_R_p {i : Nat} {s : Int} (hH : H.length ≤ 10) (hA : A.length ≤ 6) (hB : B.length ≤ 6) : ∀ (fu : Nat) (x : At3) (m : Memo), H.length < fu + x.1 → x.1 ≤ H.length → x.2.1 ≤ A.length → x.2.2 ≤ B.length → MapOK (mayS i s) H A B m →
    ∃ m', rests_R N fu x.1 x.2.1 x.2.2 (T, H, f, A, B) i s (T, H, f, A, B) i s m = some ((tv (mayS i s) H A B x).1, (tv (mayS i s) H A B x).2, (T, H, f, A, B), (i : Int), s, m') ∧ MapOK (mayS i s) H A B m'
  | 0, x, m, h, h1, _, _, _ => by omega
  | fu + 1, x, m, h, hx, ha, hb, hm => by
    show ∃ m', rests_S N (rests_R N fu) x.1 x.2.1 x.2.2 (T, H, f, A, B) i s (T, H, f, A, B) i s m = _ ∧ _
    unfold rests_S
    by_cases c1 : x.1 = H.length
    · rw [br_dec (by dsimp only; omega)]
      refine ⟨m, ?_, hm⟩
      simp [tv, tvx, c1]
    · rw [br_ndec (by dsimp only; omega)]
      cases hf : m.find? (fun y => Ty.beq (.pair (.int .i64) (.pair (.int .i64) (.int .i64))) y.1 (((x.1 : Nat) : Int), ((x.2.1 : Nat) : Int), ((x.2.2 : Nat) : Int))) with
      | some e =>
        have := hm.find x hf
        refine ⟨m, ?_, hm⟩
        simp [br, this]
      | none =>
        simp only [Option.isSome_none, br_false, next_S, Option.bind_some]
        have hnx : nextR (((x.1 : Nat) : Int), ((x.2.1 : Nat) : Int), ((x.2.2 : Nat) : Int)) (T, H, f, A, B) = some ((movesL A B (H.getD x.1 0) x).map movP) := by
          unfold nextR
          rw [if_pos (by dsimp only; omega)]
          simp only [Int.toNat_natCast]
        rw [hnx]
        simp only [Option.bind_some]
        obtain ⟨n, hn⟩ : ∃ n, H.length - x.1 = n + 1 := ⟨H.length - x.1 - 1, by omega⟩
        obtain ⟨m1, h2, hm1⟩ := rests_l1_p (N := N) (T := T) (f := f) (self := rests_R N fu) (h := x.1) (n := n) (i := i) (s := s) (u := (((x.1 : Nat) : Int), ((x.2.1 : Nat) : Int), ((x.2.2 : Nat) : Int))) (u2 := (T, H, f, A, B)) (x2 := x.2.1) (x3 := x.2.2) (g3 := 0) (g4 := 0) (by omega) hA hB (fun y m' hy hya hyb hm' => by
          have := rests_R_p hH hA hB fu y m' (by omega) (by omega) hya hyb hm'
          rw [show tv (mayS i s) H A B y = tvx (mayS i s) H A B n y by unfold tv; rw [show H.length - y.1 = n by omega]] at this
          exact this) (movesL A B (H.getD x.1 0) x) m 0 (-1, 0) (fun mv hv => movesL_ok ha hb hv) hm (by refine ⟨?_, ?_, ?_, ?_⟩ <;> simp; omega) (by have := movesL_len A B (H.getD x.1 0) x; omega)
        have e : (movesL A B (H.getD x.1 0) x).foldl (stepT (mayS i s) x.1 (tvx (mayS i s) H A B n)) (-1, 0) = tv (mayS i s) H A B x := by
          unfold tv; rw [hn, tvx]
        rw [e] at h2
        rw [h2]
        exact ⟨_, rfl, hm1.cons x⟩
theorem firsts_v {i : Nat} {s : Int} (hN : 12 ≤ N) (hH : H.length ≤ 10) (hA : A.length ≤ 6) (hB : B.length ≤ 6) : firsts_S N (T, H, f, A, B) i s = some (tv (mayS i s) H A B (0, 0, 0)) := by
  unfold firsts_S restss_S restss_j1
  obtain ⟨m, h, hm⟩ := rests_R_p (N := N) (T := T) (f := f) (i := i) (s := s) hH hA hB N (0, 0, 0) [] (by dsimp only; omega) (by dsimp only; omega) (by dsimp only; omega) (by dsimp only; omega) (MapOK.nil _ _ _ _)
  simp only [Int.natCast_zero] at h
  rw [h]
  simp [Ty.beq]
end
end Go.Proofs.Ytfcnhnbnjdccfaa

namespace Go.Proofs.Ytfcnhnbnjdccfaa
set_option linter.all false
open Go

section
variable {N : Nat} {T : List (List Int)} {H A B : List Int} {f a b : Int}
/-- Whether places may be. -/
def mayR (may : Nat → Int × Int → Bool) : Nat → List (Int × Int) → Bool
  | _, [] => true
  | h, q :: r => may h q && mayR may (h + 1) r
/-- As many words are told in the best of these, of which there are so many, if there is one. -/
def Gd (C : List (List (Int × Int))) (v : Int × Int) : Prop := BestOf C v ∧ (C = [] ∧ v.1 = -1 ∨ ∃ r ∈ C, toldN r = v.1)
theorem Gd.ge {C : List (List (Int × Int))} {v : Int × Int} (h : Gd C v) : -1 ≤ v.1 := by
  rcases h.2 with ⟨_, h⟩ | ⟨r, _, h⟩
  · omega
  · have := toldN_bnd r; omega
theorem Gd.add {may : Nat → Int × Int → Bool} {h : Nat} {t : At3 → Int × Int} {m : Mv} {C D : List (List (Int × Int))} {best : Int × Int} (hb : Gd C best) (hd : Gd D (t m.2)) : Gd (C ++ if may h m.1 = true then D.map fun r => m.1 :: r else []) (stepT may h t best m) := by
  by_cases c : may h m.1 = true
  · rw [if_pos c]
    have st : stepT may h t best m = stepT mayA h t best m := by
      unfold stepT; rw [if_pos c]; exact (if_pos rfl).symm
    rw [st]
    have st2 : stepT mayA h t best m = (if best.1 < wT m.1.1 (t m.2).1 then (wT m.1.1 (t m.2).1, (t m.2).2) else if wT m.1.1 (t m.2).1 = best.1 then (best.1, best.2 + (t m.2).2) else best) := by
      unfold stepT; exact if_pos rfl
    have hge := hb.ge
    rcases hd.2 with ⟨rfl, hv⟩ | ⟨r, hr, hv⟩
    · have h2 := hd.1.2
      rw [List.countP_nil] at h2
      have hw : wT m.1.1 (t m.2).1 = -1 := by
        unfold wT; rw [hv]; exact if_neg (fun h => absurd h.1 (by decide))
      rw [st2, hw, List.map_nil, List.append_nil, if_neg (by omega)]
      by_cases k : -1 = best.1
      · rw [if_pos k, h2]
        rw [show ((best.1, best.2 + ((0 : Nat) : Int)) : Int × Int) = best by simp]
        exact hb
      · rw [if_neg k]; exact hb
    · have t0 := toldN_bnd r
      have h0 : 0 ≤ (t m.2).1 := by omega
      refine ⟨BestOf.add (n := 0) hb.1 hd.1 h0, .inr ?_⟩
      have hw : toldN (m.1 :: r) = wT m.1.1 (t m.2).1 := by
        unfold wT toldN
        by_cases c : m.1.1 = 3
        · rw [if_pos c, if_neg (fun h => h.2 c)]; omega
        · rw [if_neg c, if_pos ⟨h0, c⟩]; omega
      rw [st2]
      by_cases k1 : best.1 < wT m.1.1 (t m.2).1
      · rw [if_pos k1]
        exact ⟨m.1 :: r, List.mem_append.2 (.inr (List.mem_map.2 ⟨r, hr, rfl⟩)), hw⟩
      · rw [if_neg k1]
        have t1 := toldN_bnd (m.1 :: r)
        rcases hb.2 with ⟨_, e⟩ | ⟨r', hr', e⟩
        · omega
        · refine ⟨r', List.mem_append.2 (.inl hr'), ?_⟩
          split <;> exact e
  · have st : stepT may h t best m = best := by
      unfold stepT; rw [if_neg c]
    rw [if_neg c, st, List.append_nil]
    exact hb
theorem Gd.fold {may : Nat → Int × Int → Bool} {h n : Nat} {t : At3 → Int × Int} (hd : ∀ y, y.1 = h + 1 → Gd ((rdx H A B n y).filter (mayR may (h + 1))) (t y)) : ∀ (ms : List Mv) (C : List (List (Int × Int))) (best : Int × Int), (∀ m ∈ ms, m.2.1 = h + 1) → Gd C best → Gd (C ++ (ms.flatMap fun m => (rdx H A B n m.2).map fun r => m.1 :: r).filter (mayR may h)) (ms.foldl (stepT may h t) best)
  | [], C, best, _, hb => by simpa using hb
  | m :: ms, C, best, hm, hb => by
    rw [List.flatMap_cons, List.filter_append, ← List.append_assoc, List.foldl_cons]
    have e : ((rdx H A B n m.2).map fun r => m.1 :: r).filter (mayR may h) = if may h m.1 = true then ((rdx H A B n m.2).filter (mayR may (h + 1))).map fun r => m.1 :: r else [] := by
      rw [List.filter_map]
      by_cases c : may h m.1 = true
      · rw [if_pos c]
        congr 1
        apply List.filter_congr
        intro r _
        simp [mayR, c]
      · rw [if_neg c]
        rw [Bool.not_eq_true] at c
        rw [List.map_eq_nil_iff, List.filter_eq_nil_iff]
        intro r _
        simp [mayR, c]
    rw [e]
    exact Gd.fold hd ms _ _ (fun m' h' => hm m' (by simp [h'])) (Gd.add hb (hd m.2 (hm m (by simp))))
theorem movesL_next {w : Int} {x : At3} {m : Mv} (h : m ∈ movesL A B w x) : m.2.1 = x.1 + 1 := by
  simp only [movesL, List.mem_cons, List.mem_append, List.mem_map] at h
  rcases h with rfl | ⟨j, _, rfl⟩ | ⟨j, _, rfl⟩ <;> rfl
theorem rdx_gd (may : Nat → Int × Int → Bool) : ∀ (n : Nat) (x : At3), H.length = x.1 + n → Gd ((rdx H A B n x).filter (mayR may x.1)) (tvx may H A B n x)
  | 0, x, _ => by
    have e : (rdx H A B 0 x).filter (mayR may x.1) = [[]] := rfl
    rw [e]
    exact ⟨⟨fun r hr => by simp at hr; subst hr; simp [tvx, toldN], by simp [tvx, toldN]⟩, .inr ⟨[], by simp, by simp [toldN, tvx]⟩⟩
  | n + 1, x, hx => by
    have := Gd.fold (H := H) (A := A) (B := B) (may := may) (h := x.1) (n := n) (t := tvx may H A B n) (fun y hy => by have := rdx_gd may n y (by omega); rw [hy] at this; exact this) (movesL A B (H.getD x.1 0) x) [] (-1, 0) (fun m hm => movesL_next hm) ⟨⟨(fun r hr => by cases hr), rfl⟩, .inl ⟨rfl, rfl⟩⟩
    exact this
theorem mayR_side {i : Nat} {s : Int} : ∀ (r : List (Int × Int)) (h : Nat), mayR (mayS i s) h r = (decide (i < h ∨ h + r.length ≤ i) || decide ((r.getD (i - h) (0, 0)).1 = s))
  | [], h => by
    have : i < h ∨ h + ([] : List (Int × Int)).length ≤ i := by simp; omega
    rw [decide_eq_true this]; rfl
  | q :: r, h => by
    rw [mayR, mayR_side r (h + 1)]
    unfold mayS
    rw [List.length_cons]
    by_cases c : h = i
    · subst c
      rw [decide_eq_true (show h < h + 1 ∨ h + 1 + r.length ≤ h by omega), decide_eq_false (show ¬ (h < h ∨ h + (r.length + 1) ≤ h) by omega)]
      simp
    · rw [decide_eq_true (show h ≠ i from c)]
      by_cases c2 : i < h
      · rw [decide_eq_true (show i < h + 1 ∨ h + 1 + r.length ≤ i by omega), decide_eq_true (show i < h ∨ h + (r.length + 1) ≤ i by omega)]
        rfl
      · rw [show i - h = (i - (h + 1)) + 1 by omega, List.getD_cons_succ]
        rw [show decide (i < h + 1 ∨ h + 1 + r.length ≤ i) = decide (i < h ∨ h + (r.length + 1) ≤ i) by apply decide_eq_decide.2; omega]
        rfl
theorem countP_and {α : Type} {p q : α → Bool} : ∀ {l : List α}, l.countP (fun x => p x && q x) = l.countP p → ∀ x ∈ l, p x = true → q x = true
  | [], _, x, hx, _ => by cases hx
  | y :: l, h, x, hx, hp => by
    rw [List.countP_cons, List.countP_cons] at h
    have le : l.countP (fun x => p x && q x) ≤ l.countP p := List.countP_mono_left (fun x _ hx => by simp only [Bool.and_eq_true] at hx; exact hx.1)
    have h1 : l.countP (fun x => p x && q x) = l.countP p := by
      cases hpy : p y <;> cases hqy : q y <;> simp [hpy, hqy] at h <;> omega
    rcases List.mem_cons.1 hx with rfl | hx
    · cases hq : q x with
      | true => rfl
      | false => rw [hp, hq] at h; simp at h; omega
    · exact countP_and h1 x hx hp
/-- The best readings. -/
def bestR (H A B : List Int) : List (List (Int × Int)) := (rdAll H A B).filter fun r => decide (toldN r = (tv mayA H A B (0, 0, 0)).1)
theorem bestR_ne : ∃ r, r ∈ bestR H A B := by
  obtain ⟨r, hr, e⟩ := rdAll_has (H := H) (A := A) (B := B)
  exact ⟨r, List.mem_filter.2 ⟨hr, by simpa using e⟩⟩
theorem bestR_len {r : List (Int × Int)} (h : r ∈ bestR H A B) : r.length = H.length := rdx_length H.length (0, 0, 0) r (List.mem_filter.1 h).1
/-- Whether a word is of a side in each best reading. -/
def allS (H A B : List Int) (i : Nat) (s : Int) : Bool := (bestR H A B).all fun r => decide ((r.getD i (0, 0)).1 = s)
theorem first_iff {i : Nat} {s : Int} (hi : i < H.length) : tv (mayS i s) H A B (0, 0, 0) = tv mayA H A B (0, 0, 0) ↔ allS H A B i s = true := by
  have gd : Gd ((rdAll H A B).filter (mayR (mayS i s) 0)) (tv (mayS i s) H A B (0, 0, 0)) := rdx_gd (H := H) (A := A) (B := B) (mayS i s) H.length (0, 0, 0) (by simp)
  have sid : ∀ r ∈ rdAll H A B, mayR (mayS i s) 0 r = decide ((r.getD i (0, 0)).1 = s) := fun r hr => by
    have hl : r.length = H.length := rdx_length H.length (0, 0, 0) r hr
    rw [mayR_side, decide_eq_false (by omega)]; simp
  have cnt := rdAll_count (H := H) (A := A) (B := B)
  have le := rdAll_le (H := H) (A := A) (B := B)
  obtain ⟨r0, hr0, e0⟩ := rdAll_has (H := H) (A := A) (B := B)
  generalize tv (mayS i s) H A B (0, 0, 0) = W at gd ⊢
  unfold allS bestR
  generalize tv mayA H A B (0, 0, 0) = V at cnt le e0 ⊢
  have cp : ((rdAll H A B).filter (mayR (mayS i s) 0)).countP (fun r => decide (toldN r = V.1)) = (rdAll H A B).countP fun r => decide (toldN r = V.1) && mayR (mayS i s) 0 r := by
    rw [List.countP_filter]
  rw [List.all_eq_true]
  constructor
  · rintro rfl r hr
    obtain ⟨h1, h2⟩ := List.mem_filter.1 hr
    have := gd.1.2
    rw [cp, cnt] at this
    rw [← sid r h1]
    exact countP_and (Int.ofNat.inj this).symm r h1 h2
  · intro h
    have hs : ∀ r ∈ rdAll H A B, toldN r = V.1 → mayR (mayS i s) 0 r = true := fun r hr e => by
      rw [sid r hr]
      exact h r (List.mem_filter.2 ⟨hr, by simpa using e⟩)
    have m0 : r0 ∈ (rdAll H A B).filter (mayR (mayS i s) 0) := List.mem_filter.2 ⟨hr0, hs r0 hr0 e0⟩
    have l1 := gd.1.1 r0 m0
    have e1 : W.1 = V.1 := by
      rcases gd.2 with ⟨e, _⟩ | ⟨r, hr, e⟩
      · rw [e] at m0; cases m0
      · have := le r (List.mem_filter.1 hr).1
        omega
    have e2 := gd.1.2
    rw [e1, cp] at e2
    have e3 : ((rdAll H A B).countP fun r => decide (toldN r = V.1) && mayR (mayS i s) 0 r) = (rdAll H A B).countP fun r => decide (toldN r = V.1) := by
      apply List.countP_congr
      intro r hr
      simp only [Bool.and_eq_true, decide_eq_true_eq]
      exact ⟨fun h => h.1, fun e => ⟨e, hs r hr e⟩⟩
    rw [e3, ← cnt] at e2
    exact Prod.ext e1 e2
/-- Whose a word surely is. -/
def sureV (H A B : List Int) (i : Nat) : Int := if allS H A B i 1 = true then 1 else if allS H A B i 2 = true then 2 else if allS H A B i 3 = true then 3 else 0
theorem allS_one {i : Nat} {s t : Int} (h1 : allS H A B i s = true) (h2 : allS H A B i t = true) : s = t := by
  obtain ⟨r, hr⟩ := bestR_ne (H := H) (A := A) (B := B)
  have a := List.all_eq_true.1 h1 r hr
  have b := List.all_eq_true.1 h2 r hr
  simp only [decide_eq_true_eq] at a b
  omega
theorem sure_l2_p (hN : 20 ≤ N) (hH : H.length ≤ 10) (hA : A.length ≤ 6) (hB : B.length ≤ 6) {i : Nat} (hi : i < H.length) {u : Int} {out : List Int} (ho : out.length = H.length) (h0 : out.getD i 0 = 0) :
    sure_l2 N N (T, H, f, A, B) u i [1, 2, 3] 0 (tv mayA H A B (0, 0, 0)).1 (tv mayA H A B (0, 0, 0)).2 out i = some ((T, H, f, A, B), u, (i : Int), (tv mayA H A B (0, 0, 0)).1, (tv mayA H A B (0, 0, 0)).2, out.set i (sureV H A B i)) := by
  have step : ∀ (n : Nat) (k s : Int) (o : List Int), 0 ≤ k → k < 3 → [(1 : Int), 2, 3][k.toNat]? = some s → o.length = H.length → sure_l2 N (n + 1) (T, H, f, A, B) u i [1, 2, 3] k (tv mayA H A B (0, 0, 0)).1 (tv mayA H A B (0, 0, 0)).2 o i = sure_l2 N n (T, H, f, A, B) u i [1, 2, 3] (k + 1) (tv mayA H A B (0, 0, 0)).1 (tv mayA H A B (0, 0, 0)).2 (if allS H A B i s = true then o.set i s else o) i := by
    intro n k s o k0 k3 hk hol
    rw [sure_l2, br_dec k3, idx_eq k0 hk, firsts_v (by omega) hH hA hB]
    simp only [Option.bind_some]
    by_cases c : allS H A B i s = true
    · rw [if_pos c, (first_iff hi).2 c]
      simp only [decide_true, Bool.and_self, br_true]
      rw [rng_eq (by omega), get_eq (a := o.getD i 0) (by have : i < o.length := by omega
                                                          simp [List.getD, this])]
      unfold sure_j1
      rw [chk_eq (by omega), Int.toNat_natCast]
    · have hne : ¬ tv (mayS i s) H A B (0, 0, 0) = tv mayA H A B (0, 0, 0) := fun h => c ((first_iff hi).1 h)
      have : (decide ((tv (mayS i s) H A B (0, 0, 0)).1 = (tv mayA H A B (0, 0, 0)).1) && decide ((tv (mayS i s) H A B (0, 0, 0)).2 = (tv mayA H A B (0, 0, 0)).2)) = false := by
        rw [Bool.eq_false_iff]
        intro h
        simp only [Bool.and_eq_true, decide_eq_true_eq] at h
        exact hne (Prod.ext h.1 h.2)
      rw [if_neg c, this, br_false]
      unfold sure_j1
      rw [chk_eq (by omega)]
  obtain ⟨n, hn⟩ : ∃ n, N = n + 1 + 1 + 1 + 1 := ⟨N - 4, by omega⟩
  have last : ∀ o, sure_l2 N (n + 1) (T, H, f, A, B) u i [1, 2, 3] 3 (tv mayA H A B (0, 0, 0)).1 (tv mayA H A B (0, 0, 0)).2 o i = some ((T, H, f, A, B), u, (i : Int), (tv mayA H A B (0, 0, 0)).1, (tv mayA H A B (0, 0, 0)).2, o) := fun o => by
    rw [sure_l2, br_ndec (by decide)]
  have e0 : sure_l2 N N (T, H, f, A, B) u i [1, 2, 3] 0 (tv mayA H A B (0, 0, 0)).1 (tv mayA H A B (0, 0, 0)).2 out i = sure_l2 N (n + 1 + 1 + 1 + 1) (T, H, f, A, B) u i [1, 2, 3] 0 (tv mayA H A B (0, 0, 0)).1 (tv mayA H A B (0, 0, 0)).2 out i := by
    rw [← hn]
  rw [e0, step _ 0 1 out (by decide) (by decide) rfl ho, show (0 : Int) + 1 = 1 from rfl]
  rw [step _ 1 2 _ (by decide) (by decide) rfl (by split <;> simp [ho]), show (1 : Int) + 1 = 2 from rfl]
  rw [step _ 2 3 _ (by decide) (by decide) rfl (by split <;> split <;> simp [ho]), show (2 : Int) + 1 = 3 from rfl, last]
  congr 1
  simp only [Prod.mk.injEq, true_and]
  unfold sureV
  by_cases c1 : allS H A B i 1 = true
  · have c2 : ¬ allS H A B i 2 = true := fun h => absurd (allS_one c1 h) (by decide)
    have c3 : ¬ allS H A B i 3 = true := fun h => absurd (allS_one c1 h) (by decide)
    rw [if_neg c3, if_neg c2, if_pos c1, if_pos c1]
  · by_cases c2 : allS H A B i 2 = true
    · have c3 : ¬ allS H A B i 3 = true := fun h => absurd (allS_one c2 h) (by decide)
      rw [if_neg c3, if_pos c2, if_neg c1, if_neg c1, if_pos c2]
    · by_cases c3 : allS H A B i 3 = true
      · rw [if_pos c3, if_neg c2, if_neg c1, if_neg c1, if_neg c2, if_pos c3]
      · rw [if_neg c3, if_neg c2, if_neg c1, if_neg c1, if_neg c2, if_neg c3]
        have hl : i < out.length := by omega
        apply List.ext_getElem
        · simp
        · intro j h1 h2
          rw [List.getElem_set]
          split
          · next h => subst h; rw [← h0]; simp [List.getD, hl]
          · rfl
/-- So many of the words, and the others not yet. -/
def sureTo (H A B : List Int) (k : Nat) : List Int := (List.range k).map (sureV H A B) ++ List.replicate (H.length - k) 0
theorem sureTo_len {k : Nat} (h : k ≤ H.length) : (sureTo H A B k).length = H.length := by
  unfold sureTo
  simp; omega
theorem sureTo_set {k : Nat} (h : k < H.length) : (sureTo H A B k).set k (sureV H A B k) = sureTo H A B (k + 1) ∧ (sureTo H A B k).getD k 0 = 0 := by
  unfold sureTo
  obtain ⟨m, hm⟩ : ∃ m, H.length - k = m + 1 := ⟨H.length - k - 1, by omega⟩
  rw [hm, show H.length - (k + 1) = m by omega, List.range_succ, List.map_append, List.append_assoc, List.replicate_succ]
  constructor
  · rw [List.set_append_right _ _ (by simp)]
    simp
  · simp [List.getD, List.getElem?_append_right]
theorem sure_l1_p (hN : 20 ≤ N) (hH : H.length ≤ 10) (hA : A.length ≤ 6) (hB : B.length ≤ 6) : ∀ (n k : Nat), H.length < n + k → k ≤ H.length →
    sure_l1 N n (T, H, f, A, B) (H.length : Int) k (tv mayA H A B (0, 0, 0)).1 (tv mayA H A B (0, 0, 0)).2 (sureTo H A B k) = some ((List.range H.length).map (sureV H A B))
  | 0, k, h, _ => by omega
  | n + 1, k, h, hk => by
    unfold sure_l1
    by_cases c : k < H.length
    · have ⟨e1, e2⟩ := sureTo_set (A := A) (B := B) c
      rw [br_dec (by omega), sure_l2_p hN hH hA hB c (sureTo_len hk) e2]
      simp only [Option.bind_some]
      rw [chk_eq (by omega), e1]
      have := sure_l1_p hN hH hA hB n (k + 1) (by omega) (by omega)
      rw [show ((k + 1 : Nat) : Int) = (k : Int) + 1 by omega] at this
      exact this
    · have e : k = H.length := by omega
      rw [br_ndec (by omega), e]
      unfold sureTo
      simp
theorem sure_v (hN : 20 ≤ N) (h : openE T H f a b = 0) : sure_S N T H f a b = some ((List.range H.length).map (sureV H (T.getD a.toNat []) (T.getD b.toNat [])), 0) := by
  obtain ⟨hF, ha, hb, e⟩ := opened_good hN h
  have hH := hF.h
  have lA := hF.l (T.getD a.toNat []) (getD_mem (by omega))
  have lB := hF.l (T.getD b.toNat []) (getD_mem (by omega))
  unfold sure_S
  rw [e]
  simp only [Option.bind_some, decide_true, Bool.not_true, br_false, all_S]
  rw [firsta_v (by omega) hH lA.2 lB.2]
  simp only [Option.bind_some]
  rw [grd_eq (lmI_iff.2 (by omega))]
  have e2 := sure_l1_p (N := N) (T := T) (f := f) hN hH lA.2 lB.2 N 0 (by omega) (by omega)
  rw [show sureTo H (T.getD a.toNat []) (T.getD b.toNat []) 0 = List.replicate H.length 0 by unfold sureTo; simp] at e2
  rw [show ((List.replicate (H.length : Int).toNat (0 : Int)).length : Int) = H.length by simp, show List.replicate (H.length : Int).toNat (0 : Int) = List.replicate H.length 0 by simp]
  rw [show ((0 : Nat) : Int) = 0 from rfl] at e2
  rw [e2]; rfl
end
end Go.Proofs.Ytfcnhnbnjdccfaa

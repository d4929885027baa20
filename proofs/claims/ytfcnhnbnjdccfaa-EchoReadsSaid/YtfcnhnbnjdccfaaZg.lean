/-
  Parts of a proof, put together: Pl19, Pl20, Pl21, Pl22, Pl23.
  Conditions: none.
-/
import Derived.Test.YtfcnhnbnjdccfaaZf
namespace Go.Proofs.Ytfcnhnbnjdccfaa
set_option linter.all false
open Go

section
variable {N : Nat} {T : List (List Int)} {H A B : List Int} {f : Int}
abbrev keyT : Ty := .pair (.int .i64) (.pair (.int .i64) (.int .i64))
abbrev keyA (x : At3) : Int × Int × Int := (((x.1 : Nat) : Int), ((x.2.1 : Nat) : Int), ((x.2.2 : Nat) : Int))
/-- Whether a place is remembered. -/
def hasK (m : Memo) (x : At3) : Bool := (m.find? fun y => Ty.beq keyT y.1 (keyA x)).isSome
theorem hasK_cons {m : Memo} {x z : At3} {v : Int × Int} : hasK ((keyA x, v) :: m) z = true ↔ z = x ∨ hasK m z = true := by
  unfold hasK
  rw [List.find?_cons]
  by_cases e : Ty.beq keyT (keyA x) (keyA z) = true
  · rw [e]
    have := (beq_iff_ (y := keyT) rfl).1 e
    simp only [keyA, Prod.mk.injEq] at this
    have : z = x := by
      obtain ⟨a, b, c⟩ := x
      obtain ⟨a', b', c'⟩ := z
      dsimp only at this
      simp only [Prod.mk.injEq]; omega
    simp [this]
  · have e' : Ty.beq keyT (keyA x) (keyA z) = false := by simpa using e
    rw [e']
    constructor
    · exact fun h => .inr h
    · rintro (rfl | h)
      · exact absurd ((beq_iff_ (y := keyT) rfl).2 rfl) e
      · exact h
def Grow (m m' : Memo) : Prop := ∀ z, hasK m z = true → hasK m' z = true
/-- What is remembered is right, and so is all that it came of. -/
def MOK (H A B : List Int) (m : Memo) : Prop := MapOK mayA H A B m ∧ ∀ x : At3, hasK m x = true → x.1 < H.length → ∀ mv ∈ movesL A B (H.getD x.1 0) x, mv.2.1 < H.length → hasK m mv.2 = true
theorem MOK.cons {m : Memo} (h : MOK H A B m) {x : At3} (hk : ∀ mv ∈ movesL A B (H.getD x.1 0) x, mv.2.1 < H.length → hasK m mv.2 = true) : MOK H A B ((keyA x, tv mayA H A B x) :: m) := by
  refine ⟨h.1.cons x, fun z hz hlt mv hmv hl => hasK_cons.2 (.inr ?_)⟩
  rcases hasK_cons.1 hz with rfl | hz
  · exact hk mv hmv hl
  · exact h.2 z hz hlt mv hmv hl
theorem MOK.nil : MOK H A B [] := ⟨MapOK.nil _ _ _ _, fun x h => by cases h⟩
theorem resta_l1_q {self : Int → Int → Int → Desk → Desk → Memo → Option (Int × Int × Desk × Memo)} {h n : Nat} (hH : n ≤ 9) (hA : A.length ≤ 6) (hB : B.length ≤ 6) {u : Int × Int × Int} {u2 : Desk} {x x2 x3 g3 g4 : Int}
    (hself : ∀ (y : At3) (m : Memo), y.1 = h + 1 → y.2.1 ≤ A.length → y.2.2 ≤ B.length → MOK H A B m → ∃ m', self y.1 y.2.1 y.2.2 (T, H, f, A, B) (T, H, f, A, B) m = some ((tvx mayA H A B n y).1, (tvx mayA H A B n y).2, (T, H, f, A, B), m') ∧ MOK H A B m' ∧ Grow m m' ∧ (y.1 < H.length → hasK m' y = true)) :
    ∀ (ms : List Mv) (m : Memo) (c : Nat) (best : Int × Int), (∀ mv ∈ ms, mv.2.1 = h + 1 ∧ mv.2.2.1 ≤ A.length ∧ mv.2.2.2 ≤ B.length) → MOK H A B m → Bst n c best → c + ms.length ≤ 13 →
      ∃ m', resta_l1 N self (ms.map movP) u u2 (T, H, f, A, B) m x x2 x3 g3 g4 best.1 best.2 = some ((T, H, f, A, B), m', x, x2, x3, g3, g4, (ms.foldl (stepT mayA h (tvx mayA H A B n)) best).1, (ms.foldl (stepT mayA h (tvx mayA H A B n)) best).2) ∧ MOK H A B m' ∧ Grow m m' ∧ ∀ mv ∈ ms, mv.2.1 < H.length → hasK m' mv.2 = true
  | [], m, c, best, _, hm, _, _ => ⟨m, rfl, hm, fun _ h => h, fun _ h => (by cases h)⟩
  | mv :: ms, m, c, best, hv, hm, hb, hc => by
    obtain ⟨hv1, hv2, hv3⟩ := hv mv (by simp)
    obtain ⟨m1, he, hm1, hg1, hk1⟩ := hself mv.2 m hv1 hv2 hv3 hm
    have ht := tvx_bnd mayA (H := H) hA hB n mv.2
    have hb' := stepT_bnd (may := mayA) (h := h) (t := tvx mayA H A B n) (m := mv) ht hb
    obtain ⟨m2, h2, hm2, hg2, hk2⟩ := resta_l1_q (u := u) (u2 := u2) (x := x) (x2 := x2) (x3 := x3) (g3 := g3) (g4 := g4) hH hA hB hself ms m1 (c + 1) _ (fun v hv' => hv v (by simp [hv'])) hm1 hb' (by simp only [List.length_cons] at hc; omega)
    refine ⟨m2, ?_, hm2, fun z hz => hg2 z (hg1 z hz), fun v hv' hlt => ?_⟩
    rotate_left
    · rcases List.mem_cons.1 hv' with rfl | hv'
      · exact hg2 _ (hk1 hlt)
      · exact hk2 v hv' hlt
    rw [List.map_cons, List.foldl_cons, ← h2]
    have hp := pow13 (n := n) (by omega)
    have hbb : (((c + 1) * 13 ^ n : Nat) : Int) ≤ 13 * 137858491849 := by
      have : (c + 1) * 13 ^ n ≤ 13 * 137858491849 := Nat.mul_le_mul (by simp only [List.length_cons] at hc; omega) hp
      omega
    have hb2 : best.2 + (tvx mayA H A B n mv.2).2 ≤ 13 * 137858491849 := by
      have e : (((c + 1) * 13 ^ n : Nat) : Int) = ((c * 13 ^ n : Nat) : Int) + ((13 ^ n : Nat) : Int) := by rw [Nat.succ_mul]; simp
      have := hb.2.2.2
      have := ht.2.2.2
      omega
    have h0 := hb.2.2.1
    have h1 := ht.2.2.1
    have hn1 := ht.1
    have hn2 := ht.2.1
    simp only [resta_l1, resta_l1_b, movP, all1_S, Option.bind_some, Bool.not_true, br_false]
    rw [he]
    have hst : stepT mayA h (tvx mayA H A B n) best mv = (if best.1 < wT mv.1.1 (tvx mayA H A B n mv.2).1 then (wT mv.1.1 (tvx mayA H A B n mv.2).1, (tvx mayA H A B n mv.2).2) else if wT mv.1.1 (tvx mayA H A B n mv.2).1 = best.1 then (best.1, best.2 + (tvx mayA H A B n mv.2).2) else best) := by
      unfold stepT; exact if_pos rfl
    rw [hst]
    simp only [Option.bind_some, wT]
    clear hst h2 he hb' hself
    generalize tvx mayA H A B n mv.2 = t at *
    obtain ⟨tw, ty⟩ := t
    obtain ⟨bw, by_⟩ := best
    simp only at *
    by_cases c1 : 0 ≤ tw
    · rw [br_dec c1]
      by_cases c2 : mv.1.1 = 3
      · refine (br_nd c2).trans ?_
        have c2' : ¬ (0 ≤ tw ∧ mv.1.1 ≠ 3) := fun h => h.2 c2
        rw [if_neg c2']
        by_cases c3 : bw < tw
        · rw [br_dec c3, if_pos c3]
        · rw [br_ndec c3, if_neg c3]
          by_cases c4 : tw = bw
          · rw [br_dec c4, if_pos c4, chk_eq (by omega)]
          · rw [br_ndec c4, if_neg c4]
      · refine (br_nnd c2).trans ?_
        have c2' : 0 ≤ tw ∧ mv.1.1 ≠ 3 := ⟨c1, c2⟩
        rw [chk_eq (by omega), if_pos c2']
        by_cases c3 : bw < tw + 1
        · rw [br_dec c3, if_pos c3]
        · rw [br_ndec c3, if_neg c3]
          by_cases c4 : tw + 1 = bw
          · rw [br_dec c4, if_pos c4, chk_eq (by omega)]
          · rw [br_ndec c4, if_neg c4]
    · have c2' : ¬ (0 ≤ tw ∧ mv.1.1 ≠ 3) := fun h => c1 h.1
      rw [br_ndec c1, if_neg c2']
      by_cases c3 : bw < tw
      · rw [br_dec c3, if_pos c3]
      · rw [br_ndec c3, if_neg c3]
        by_cases c4 : tw = bw
        · rw [br_dec c4, if_pos c4, chk_eq (by omega)]
        · rw [br_ndec c4, if_neg c4]
theorem resta_R_q (hH : H.length ≤ 10) (hA : A.length ≤ 6) (hB : B.length ≤ 6) : ∀ (fu : Nat) (x : At3) (m : Memo), H.length < fu + x.1 → x.1 ≤ H.length → x.2.1 ≤ A.length → x.2.2 ≤ B.length → MOK H A B m →
    ∃ m', resta_R N fu x.1 x.2.1 x.2.2 (T, H, f, A, B) (T, H, f, A, B) m = some ((tv mayA H A B x).1, (tv mayA H A B x).2, (T, H, f, A, B), m') ∧ MOK H A B m' ∧ Grow m m' ∧ (x.1 < H.length → hasK m' x = true)
  | 0, x, m, h, h1, _, _, _ => by omega
  | fu + 1, x, m, h, hx, ha, hb, hm => by
    show ∃ m', resta_S N (resta_R N fu) x.1 x.2.1 x.2.2 (T, H, f, A, B) (T, H, f, A, B) m = _ ∧ _
    unfold resta_S
    by_cases c1 : x.1 = H.length
    · rw [br_dec (by dsimp only; omega)]
      refine ⟨m, ?_, hm, fun _ h => h, fun h => by omega⟩
      simp [tv, tvx, c1]
    · rw [br_ndec (by dsimp only; omega)]
      cases hf : m.find? (fun y => Ty.beq (.pair (.int .i64) (.pair (.int .i64) (.int .i64))) y.1 (((x.1 : Nat) : Int), ((x.2.1 : Nat) : Int), ((x.2.2 : Nat) : Int))) with
      | some e =>
        have := hm.1.find x hf
        refine ⟨m, ?_, hm, fun _ h => h, fun _ => by unfold hasK; rw [hf]; rfl⟩
        simp [br, this]
      | none =>
        simp only [Option.isSome_none, br_false, next_S, Option.bind_some]
        have hnx : nextR (((x.1 : Nat) : Int), ((x.2.1 : Nat) : Int), ((x.2.2 : Nat) : Int)) (T, H, f, A, B) = some ((movesL A B (H.getD x.1 0) x).map movP) := by
          unfold nextR
          rw [if_pos (by dsimp only; omega)]
          simp only [Int.toNat_natCast]
        rw [hnx]
        simp only [Option.bind_some]
        obtain ⟨n, hn⟩ : ∃ n, H.length - x.1 = n + 1 := ⟨H.length - x.1 - 1, by omega⟩
        obtain ⟨m1, h2, hm1, hg1, hk1⟩ := resta_l1_q (N := N) (T := T) (f := f) (self := resta_R N fu) (h := x.1) (n := n) (u := (((x.1 : Nat) : Int), ((x.2.1 : Nat) : Int), ((x.2.2 : Nat) : Int))) (u2 := (T, H, f, A, B)) (x := x.1) (x2 := x.2.1) (x3 := x.2.2) (g3 := 0) (g4 := 0) (by omega) hA hB (fun y m' hy hya hyb hm' => by
          have := resta_R_q hH hA hB fu y m' (by omega) (by omega) hya hyb hm'
          rw [show tv mayA H A B y = tvx mayA H A B n y by unfold tv; rw [show H.length - y.1 = n by omega]] at this
          exact this) (movesL A B (H.getD x.1 0) x) m 0 (-1, 0) (fun mv hv => movesL_ok ha hb hv) hm (by refine ⟨?_, ?_, ?_, ?_⟩ <;> simp; omega) (by have := movesL_len A B (H.getD x.1 0) x; omega)
        have e : (movesL A B (H.getD x.1 0) x).foldl (stepT mayA x.1 (tvx mayA H A B n)) (-1, 0) = tv mayA H A B x := by
          unfold tv; rw [hn, tvx]
        rw [e] at h2
        rw [h2]
        exact ⟨_, rfl, hm1.cons hk1, fun z hz => hasK_cons.2 (.inr (hg1 z hz)), fun _ => hasK_cons.2 (.inl rfl)⟩
theorem restsa_q (hN : 12 ≤ N) (hH : H.length ≤ 10) (hA : A.length ≤ 6) (hB : B.length ≤ 6) : ∃ m, restsa_S N (T, H, f, A, B) = some m ∧ MOK H A B m ∧ (0 < H.length → hasK m (0, 0, 0) = true) := by
  unfold restsa_S restsa_j1
  obtain ⟨m, h, hm, _, hk⟩ := resta_R_q (N := N) (T := T) (f := f) hH hA hB N (0, 0, 0) [] (by dsimp only; omega) (by dsimp only; omega) (by dsimp only; omega) (by dsimp only; omega) MOK.nil
  simp only [Int.natCast_zero] at h
  rw [h]
  refine ⟨_, rfl, ?_, fun _ => hasK_cons (x := (0, 0, 0)).2 (.inl rfl)⟩
  by_cases c : 0 < H.length
  · exact hm.cons (fun mv hmv hl => hm.2 _ (hk c) c mv hmv hl)
  · refine ⟨hm.1.cons (0, 0, 0), fun z hz hlt => by omega⟩
/-- What is remembered of a place. -/
def look (m : Memo) (x : At3) : Int := (((m.find? fun y => Ty.beq keyT y.1 (keyA x)).map (·.2)).getD (Ty.dflt (.pair (.int .i64) (.int .i64)))).1
theorem look_v {m : Memo} (h : MOK H A B m) {x : At3} (hx : hasK m x = true ∨ x.1 = H.length) : look m x = (tv mayA H A B x).1 := by
  unfold look
  cases hf : m.find? fun y => Ty.beq keyT y.1 (keyA x) with
  | some e =>
    have := h.1.find x hf
    simp [this]
  | none =>
    rcases hx with hx | hx
    · unfold hasK at hx; rw [hf] at hx; cases hx
    · simp [tv, tvx, hx, Ty.dflt]
def wTn (m : Memo) (mv : Mv) : Int := if mv.1.1 = 3 then look m mv.2 else look m mv.2 + 1
theorem reading_l2_p {m : Memo} {u : Int} {d u3 : Desk} {u2 : Int × Int × Int} {x : At3} {out : List (Int × Int)} (ho : out.length ≤ 1000) : ∀ ms : List Mv, (∀ mv ∈ ms, -1 ≤ look m mv.2 ∧ look m mv.2 ≤ 100) → (∃ mv ∈ ms, wTn m mv = look m x) →
    ∃ mv ∈ ms, wTn m mv = look m x ∧ reading_l2 N (ms.map movP) u d u2 u3 x.1 x.2.1 x.2.2 m out = some (u, d, ((mv.2.1 : Nat) : Int), ((mv.2.2.1 : Nat) : Int), ((mv.2.2.2 : Nat) : Int), m, out ++ [mv.1])
  | [], _, h => by obtain ⟨_, h, _⟩ := h; cases h
  | mv :: ms, hb, he => by
    have hb0 := hb mv (by simp)
    have el : (((m.find? fun y => Ty.beq keyT y.1 (((mv.2.1 : Nat) : Int), ((mv.2.2.1 : Nat) : Int), ((mv.2.2.2 : Nat) : Int))).map (·.2)).getD (Ty.dflt (.pair (.int .i64) (.int .i64)))).1 = look m mv.2 := rfl
    have ex : (((m.find? fun y => Ty.beq keyT y.1 (((x.1 : Nat) : Int), ((x.2.1 : Nat) : Int), ((x.2.2 : Nat) : Int))).map (·.2)).getD (Ty.dflt (.pair (.int .i64) (.int .i64)))).1 = look m x := rfl
    have st : reading_l2 N ((mv :: ms).map movP) u d u2 u3 x.1 x.2.1 x.2.2 m out = if wTn m mv = look m x then some (u, d, ((mv.2.1 : Nat) : Int), ((mv.2.2.1 : Nat) : Int), ((mv.2.2.2 : Nat) : Int), m, out ++ [mv.1]) else reading_l2 N (ms.map movP) u d u2 u3 x.1 x.2.1 x.2.2 m out := by
      rw [List.map_cons, reading_l2, reading_l2_b]
      dsimp only [movP]
      by_cases c : mv.1.1 = 3
      · have hw : wTn m mv = look m mv.2 := if_pos c
        refine (br_nd c).trans ?_
        rw [hw]
        by_cases c2 : look m mv.2 = look m x
        · rw [if_pos c2]
          refine (br_dec c2).trans ?_
          rw [lim_eq (by simp; omega)]
        · rw [if_neg c2]
          exact br_ndec c2
      · have hw : wTn m mv = look m mv.2 + 1 := if_neg c
        refine (br_nnd c).trans ?_
        refine (chk_eq (by rw [el]; omega)).trans ?_
        rw [hw]
        by_cases c2 : look m mv.2 + 1 = look m x
        · rw [if_pos c2]
          refine (br_dec c2).trans ?_
          rw [lim_eq (by simp; omega)]
        · rw [if_neg c2]
          exact br_ndec c2
    rw [st]
    by_cases c : wTn m mv = look m x
    · rw [if_pos c]
      exact ⟨mv, by simp, c, rfl⟩
    · rw [if_neg c]
      obtain ⟨v, hv, h1, h2⟩ := reading_l2_p (u := u) (d := d) (u3 := u3) (u2 := u2) (x := x) ho ms (fun v hv => hb v (by simp [hv])) (by
        obtain ⟨v, hv, e⟩ := he
        rcases List.mem_cons.1 hv with rfl | hv
        · exact absurd e c
        · exact ⟨v, hv, e⟩)
      exact ⟨v, by simp [hv], h1, h2⟩
end
end Go.Proofs.Ytfcnhnbnjdccfaa

namespace Go.Proofs.Ytfcnhnbnjdccfaa
set_option linter.all false
open Go

section
variable {N : Nat} {T : List (List Int)} {H A B : List Int} {f a b : Int}
theorem reading_l1_p (hH : H.length ≤ 10) (hA : A.length ≤ 6) (hB : B.length ≤ 6) {u : Int} {m : Memo} (hm : MOK H A B m) : ∀ (k n : Nat) (x : At3) (out : List (Int × Int)), H.length = x.1 + k → k < n → x.2.1 ≤ A.length → x.2.2 ≤ B.length → (x.1 < H.length → hasK m x = true) → out.length + k ≤ 100 →
    ∃ r ∈ rdx H A B k x, toldN r = (tvx mayA H A B k x).1 ∧ reading_l1 N n u (T, H, f, A, B) x.1 x.2.1 x.2.2 m out = some (out ++ r)
  | k, 0, x, out, _, h, _, _, _, _ => by omega
  | 0, n + 1, x, out, hk, _, _, _, _, _ => by
    refine ⟨[], by simp [rdx], by simp [toldN, tvx], ?_⟩
    unfold reading_l1
    rw [br_ndec (by dsimp only; omega), List.append_nil]
  | k + 1, n + 1, x, out, hk, hn, ha, hb, hx, ho => by
    have hxl : x.1 < H.length := by omega
    have tve : ∀ (j : Nat) (y : At3), H.length = y.1 + j → tv mayA H A B y = tvx mayA H A B j y := fun j y hy => by unfold tv; rw [show H.length - y.1 = j by omega]
    have hmv : ∀ mv ∈ movesL A B (H.getD x.1 0) x, look m mv.2 = (tvx mayA H A B k mv.2).1 := fun mv hmv => by
      obtain ⟨h1, _, _⟩ := movesL_ok ha hb hmv
      rw [look_v hm, tve k _ (by omega)]
      rcases Nat.lt_or_ge mv.2.1 H.length with c | c
      · exact .inl (hm.2 x (hx hxl) hxl mv hmv c)
      · exact .inr (by omega)
    have hlx : look m x = (tvx mayA H A B (k + 1) x).1 := by
      rw [look_v hm (.inl (hx hxl)), tve (k + 1) _ hk]
    have hex : ∃ mv ∈ movesL A B (H.getD x.1 0) x, wTn m mv = look m x := by
      have nn := tvx_nonneg H A B (h := x.1) (i := x.2.1) (k := x.2.2) hk
      rw [show ((x.1, x.2.1, x.2.2) : At3) = x from rfl] at nn
      rw [hlx, tvx]
      rw [tvx] at nn
      rcases fold_has (h := x.1) (t := tvx mayA H A B k) (movesL A B (H.getD x.1 0) x) (-1, 0) with h1 | ⟨mv, hmm, h1⟩
      · rw [h1] at nn; exact absurd nn (by decide)
      · obtain ⟨hy, _, _⟩ := movesL_ok ha hb hmm
        have h0 := tvx_nonneg H A B (h := mv.2.1) (i := mv.2.2.1) (k := mv.2.2.2) (n := k) (by omega)
        rw [show ((mv.2.1, mv.2.2.1, mv.2.2.2) : At3) = mv.2 from rfl] at h0
        refine ⟨mv, hmm, ?_⟩
        rw [h1]
        unfold wTn wT
        rw [hmv mv hmm]
        by_cases c : mv.1.1 = 3
        · rw [if_pos c, if_neg (fun h => h.2 c)]
        · rw [if_neg c, if_pos ⟨h0, c⟩]
    obtain ⟨mv, hmm, hw, e⟩ := reading_l2_p (N := N) (u := u) (d := (T, H, f, A, B)) (u3 := (T, H, f, A, B)) (u2 := (((x.1 : Nat) : Int), ((x.2.1 : Nat) : Int), ((x.2.2 : Nat) : Int))) (x := x) (out := out) (by omega) (movesL A B (H.getD x.1 0) x) (fun mv hmm => by
      have := tvx_bnd mayA (H := H) hA hB k mv.2
      rw [hmv mv hmm]
      have h1 := this.1; have h2 := this.2.1
      omega) hex
    obtain ⟨hy, hya, hyb⟩ := movesL_ok ha hb hmm
    obtain ⟨r, hr, er, e2⟩ := reading_l1_p hH hA hB hm k n mv.2 (out ++ [mv.1]) (by omega) (by omega) hya hyb (fun hl => hm.2 x (hx hxl) hxl mv hmm hl) (by rw [List.length_append, List.length_singleton]; omega)
    refine ⟨mv.1 :: r, List.mem_flatMap.2 ⟨mv, hmm, List.mem_map.2 ⟨r, hr, rfl⟩⟩, ?_, ?_⟩
    · rw [← hlx, ← hw]
      unfold toldN wTn
      rw [hmv mv hmm, er]
      split <;> omega
    · unfold reading_l1
      rw [br_dec (by dsimp only; omega)]
      simp only [next_S, Option.bind_some]
      have nx := nextR_v (T := T) (f := f) hxl hH hA hB ha hb
      rw [show ((x.1, x.2.1, x.2.2) : At3) = x from rfl] at nx
      rw [nx]
      simp only [Option.bind_some]
      rw [e]
      simp only [Option.bind_some]
      rw [e2, List.append_assoc]; rfl
theorem reading_v (hN : 20 ≤ N) (h : openE T H f a b = 0) : ∃ r ∈ rdAll H (T.getD a.toNat []) (T.getD b.toNat []), toldN r = (tv mayA H (T.getD a.toNat []) (T.getD b.toNat []) (0, 0, 0)).1 ∧ reading_S N T H f a b = some (r, 0) := by
  obtain ⟨hF, ha, hb, e⟩ := opened_good hN h
  have hH := hF.h
  have lA := hF.l (T.getD a.toNat []) (getD_mem (by omega))
  have lB := hF.l (T.getD b.toNat []) (getD_mem (by omega))
  obtain ⟨m, em, hm, hk⟩ := restsa_q (N := N) (T := T) (f := f) (by omega) hH lA.2 lB.2
  obtain ⟨r, hr, er, e2⟩ := reading_l1_p (N := N) (T := T) (f := f) (u := 0) hH lA.2 lB.2 hm H.length N (0, 0, 0) [] (by simp) (by omega) (Nat.zero_le _) (Nat.zero_le _) hk (by simp; omega)
  refine ⟨r, hr, er, ?_⟩
  unfold reading_S
  rw [e]
  simp only [Option.bind_some, decide_true, Bool.not_true, br_false, all_S]
  rw [em]
  simp only [Option.bind_some]
  dsimp only at e2
  rw [show ((0 : Nat) : Int) = 0 from rfl] at e2
  rw [e2]; rfl
theorem reading_bad (hN : 20 ≤ N) (h : openE T H f a b ≠ 0) : reading_S N T H f a b = some ([], openE T H f a b) := by
  unfold reading_S
  rw [opened_bad hN h]
  simp only [Option.bind_some]
  rw [br_nnd h]
end
end Go.Proofs.Ytfcnhnbnjdccfaa

namespace Go.Proofs.Ytfcnhnbnjdccfaa
set_option linter.all false
open Go

/-- A word is of a side. -/
def mayS (i : Nat) (s : Int) : Nat → Int × Int → Bool := fun h q => decide (h ≠ i) || decide (q.1 = s)
section
variable {N : Nat} {T : List (List Int)} {H A B : List Int} {f : Int}
theorem sure1_mayS {h i : Nat} {s p p2 : Int} : sure1_S N h p p2 i s = some (mayS i s h (p, p2)) := by
  unfold sure1_S mayS
  by_cases c : h = i
  · rw [br_nd (by omega)]; simp [c]
  · rw [br_nnd (by omega)]; simp [c]
theorem rests_l1_p {self : Int → Int → Int → Desk → Int → Int → Desk → Int → Int → Memo → Option (Int × Int × Desk × Int × Int × Memo)} {h n i : Nat} {s : Int} (hH : n ≤ 9) (hA : A.length ≤ 6) (hB : B.length ≤ 6) {u : Int × Int × Int} {u2 : Desk} {x2 x3 g3 g4 : Int}
    (hself : ∀ (y : At3) (m : Memo), y.1 = h + 1 → y.2.1 ≤ A.length → y.2.2 ≤ B.length → MapOK (mayS i s) H A B m → ∃ m', self y.1 y.2.1 y.2.2 (T, H, f, A, B) i s (T, H, f, A, B) i s m = some ((tvx (mayS i s) H A B n y).1, (tvx (mayS i s) H A B n y).2, (T, H, f, A, B), (i : Int), s, m') ∧ MapOK (mayS i s) H A B m') :
    ∀ (ms : List Mv) (m : Memo) (c : Nat) (best : Int × Int), (∀ mv ∈ ms, mv.2.1 = h + 1 ∧ mv.2.2.1 ≤ A.length ∧ mv.2.2.2 ≤ B.length) → MapOK (mayS i s) H A B m → Bst n c best → c + ms.length ≤ 13 →
      ∃ m', rests_l1 N self (ms.map movP) i s u u2 (T, H, f, A, B) i s m h x2 x3 g3 g4 best.1 best.2 = some ((T, H, f, A, B), (i : Int), s, m', (h : Int), x2, x3, g3, g4, (ms.foldl (stepT (mayS i s) h (tvx (mayS i s) H A B n)) best).1, (ms.foldl (stepT (mayS i s) h (tvx (mayS i s) H A B n)) best).2) ∧ MapOK (mayS i s) H A B m'
  | [], m, c, best, _, hm, _, _ => ⟨m, rfl, hm⟩
  | mv :: ms, m, c, best, hv, hm, hb, hc => by
    obtain ⟨hv1, hv2, hv3⟩ := hv mv (by simp)
    by_cases cm : mayS i s h mv.1 = true
    rotate_left
    · have hst : stepT (mayS i s) h (tvx (mayS i s) H A B n) best mv = best := by
        unfold stepT; exact if_neg cm
      have hb' := stepT_bnd (may := mayS i s) (h := h) (t := tvx (mayS i s) H A B n) (m := mv) (tvx_bnd (mayS i s) (H := H) hA hB n mv.2) hb
      rw [hst] at hb'
      obtain ⟨m2, h2, hm2⟩ := rests_l1_p (u := u) (u2 := u2) (x2 := x2) (x3 := x3) (g3 := g3) (g4 := g4) hH hA hB hself ms m (c + 1) _ (fun v hv' => hv v (by simp [hv'])) hm hb' (by simp only [List.length_cons] at hc; omega)
      refine ⟨m2, ?_, hm2⟩
      rw [List.map_cons, List.foldl_cons, hst, ← h2]
      rw [Bool.not_eq_true] at cm
      simp only [rests_l1, rests_l1_b, movP, sure1_mayS, Option.bind_some]
      rw [cm]; rfl
    obtain ⟨m1, he, hm1⟩ := hself mv.2 m hv1 hv2 hv3 hm
    have ht := tvx_bnd (mayS i s) (H := H) hA hB n mv.2
    have hb' := stepT_bnd (may := (mayS i s)) (h := h) (t := tvx (mayS i s) H A B n) (m := mv) ht hb
    obtain ⟨m2, h2, hm2⟩ := rests_l1_p (u := u) (u2 := u2) (x2 := x2) (x3 := x3) (g3 := g3) (g4 := g4) hH hA hB hself ms m1 (c + 1) _ (fun v hv' => hv v (by simp [hv'])) hm1 hb' (by simp only [List.length_cons] at hc; omega)
    refine ⟨m2, ?_, hm2⟩
    rw [List.map_cons, List.foldl_cons, ← h2]
    have hp := pow13 (n := n) (by omega)
    have hbb : (((c + 1) * 13 ^ n : Nat) : Int) ≤ 13 * 137858491849 := by
      have : (c + 1) * 13 ^ n ≤ 13 * 137858491849 := Nat.mul_le_mul (by simp only [List.length_cons] at hc; omega) hp
      omega
    have hb2 : best.2 + (tvx (mayS i s) H A B n mv.2).2 ≤ 13 * 137858491849 := by
      have e : (((c + 1) * 13 ^ n : Nat) : Int) = ((c * 13 ^ n : Nat) : Int) + ((13 ^ n : Nat) : Int) := by rw [Nat.succ_mul]; simp
      have := hb.2.2.2
      have := ht.2.2.2
      omega
    have h0 := hb.2.2.1
    have h1 := ht.2.2.1
    have hn1 := ht.1
    have hn2 := ht.2.1
    simp only [rests_l1, rests_l1_b, movP, sure1_mayS, Option.bind_some]
    rw [cm]
    simp only [Bool.not_true, br_false]
    rw [he]
    have hst : stepT (mayS i s) h (tvx (mayS i s) H A B n) best mv = (if best.1 < wT mv.1.1 (tvx (mayS i s) H A B n mv.2).1 then (wT mv.1.1 (tvx (mayS i s) H A B n mv.2).1, (tvx (mayS i s) H A B n mv.2).2) else if wT mv.1.1 (tvx (mayS i s) H A B n mv.2).1 = best.1 then (best.1, best.2 + (tvx (mayS i s) H A B n mv.2).2) else best) := by
      unfold stepT; exact if_pos cm
    rw [hst]
    simp only [Option.bind_some, wT]
    clear hst h2 he hb' hself
    generalize tvx (mayS i s) H A B n mv.2 = t at *
    obtain ⟨tw, ty⟩ := t
    obtain ⟨bw, by_⟩ := best
    simp only at *
    by_cases c1 : 0 ≤ tw
    · rw [br_dec c1]
      by_cases c2 : mv.1.1 = 3
      · refine (br_nd c2).trans ?_
        have c2' : ¬ (0 ≤ tw ∧ mv.1.1 ≠ 3) := fun h => h.2 c2
        rw [if_neg c2']
        by_cases c3 : bw < tw
        · rw [br_dec c3, if_pos c3]
        · rw [br_ndec c3, if_neg c3]
          by_cases c4 : tw = bw
          · rw [br_dec c4, if_pos c4, chk_eq (by omega)]
          · rw [br_ndec c4, if_neg c4]
      · refine (br_nnd c2).trans ?_
        have c2' : 0 ≤ tw ∧ mv.1.1 ≠ 3 := ⟨c1, c2⟩
        rw [chk_eq (by omega), if_pos c2']
        by_cases c3 : bw < tw + 1
        · rw [br_dec c3, if_pos c3]
        · rw [br_ndec c3, if_neg c3]
          by_cases c4 : tw + 1 = bw
          · rw [br_dec c4, if_pos c4, chk_eq (by omega)]
          · rw [br_ndec c4, if_neg c4]
    · have c2' : ¬ (0 ≤ tw ∧ mv.1.1 ≠ 3) := fun h => c1 h.1
      rw [br_ndec c1, if_neg c2']
      by_cases c3 : bw < tw
      · rw [br_dec c3, if_pos c3]
      · rw [br_ndec c3, if_neg c3]
        by_cases c4 : tw = bw
        · rw [br_dec c4, if_pos c4, chk_eq (by omega)]
        · rw [br_ndec c4, if_neg c4]
theorem rests_R_p {i : Nat} {s : Int} (hH : H.length ≤ 10) (hA : A.length ≤ 6) (hB : B.length ≤ 6) : ∀ (fu : Nat) (x : At3) (m : Memo), H.length < fu + x.1 → x.1 ≤ H.length → x.2.1 ≤ A.length → x.2.2 ≤ B.length → MapOK (mayS i s) H A B m →
    ∃ m', rests_R N fu x.1 x.2.1 x.2.2 (T, H, f, A, B) i s (T, H, f, A, B) i s m = some ((tv (mayS i s) H A B x).1, (tv (mayS i s) H A B x).2, (T, H, f, A, B), (i : Int), s, m') ∧ MapOK (mayS i s) H A B m'
  | 0, x, m, h, h1, _, _, _ => by omega
  | fu + 1, x, m, h, hx, ha, hb, hm => by
    show ∃ m', rests_S N (rests_R N fu) x.1 x.2.1 x.2.2 (T, H, f, A, B) i s (T, H, f, A, B) i s m = _ ∧ _
    unfold rests_S
    by_cases c1 : x.1 = H.length
    · rw [br_dec (by dsimp only; omega)]
      refine ⟨m, ?_, hm⟩
      simp [tv, tvx, c1]
    · rw [br_ndec (by dsimp only; omega)]
      cases hf : m.find? (fun y => Ty.beq (.pair (.int .i64) (.pair (.int .i64) (.int .i64))) y.1 (((x.1 : Nat) : Int), ((x.2.1 : Nat) : Int), ((x.2.2 : Nat) : Int))) with
      | some e =>
        have := hm.find x hf
        refine ⟨m, ?_, hm⟩
        simp [br, this]
      | none =>
        simp only [Option.isSome_none, br_false, next_S, Option.bind_some]
        have hnx : nextR (((x.1 : Nat) : Int), ((x.2.1 : Nat) : Int), ((x.2.2 : Nat) : Int)) (T, H, f, A, B) = some ((movesL A B (H.getD x.1 0) x).map movP) := by
          unfold nextR
          rw [if_pos (by dsimp only; omega)]
          simp only [Int.toNat_natCast]
        rw [hnx]
        simp only [Option.bind_some]
        obtain ⟨n, hn⟩ : ∃ n, H.length - x.1 = n + 1 := ⟨H.length - x.1 - 1, by omega⟩
        obtain ⟨m1, h2, hm1⟩ := rests_l1_p (N := N) (T := T) (f := f) (self := rests_R N fu) (h := x.1) (n := n) (i := i) (s := s) (u := (((x.1 : Nat) : Int), ((x.2.1 : Nat) : Int), ((x.2.2 : Nat) : Int))) (u2 := (T, H, f, A, B)) (x2 := x.2.1) (x3 := x.2.2) (g3 := 0) (g4 := 0) (by omega) hA hB (fun y m' hy hya hyb hm' => by
          have := rests_R_p hH hA hB fu y m' (by omega) (by omega) hya hyb hm'
          rw [show tv (mayS i s) H A B y = tvx (mayS i s) H A B n y by unfold tv; rw [show H.length - y.1 = n by omega]] at this
          exact this) (movesL A B (H.getD x.1 0) x) m 0 (-1, 0) (fun mv hv => movesL_ok ha hb hv) hm (by refine ⟨?_, ?_, ?_, ?_⟩ <;> simp; omega) (by have := movesL_len A B (H.getD x.1 0) x; omega)
        have e : (movesL A B (H.getD x.1 0) x).foldl (stepT (mayS i s) x.1 (tvx (mayS i s) H A B n)) (-1, 0) = tv (mayS i s) H A B x := by
          unfold tv; rw [hn, tvx]
        rw [e] at h2
        rw [h2]
        exact ⟨_, rfl, hm1.cons x⟩
theorem firsts_v {i : Nat} {s : Int} (hN : 12 ≤ N) (hH : H.length ≤ 10) (hA : A.length ≤ 6) (hB : B.length ≤ 6) : firsts_S N (T, H, f, A, B) i s = some (tv (mayS i s) H A B (0, 0, 0)) := by
  unfold firsts_S restss_S restss_j1
  obtain ⟨m, h, hm⟩ := rests_R_p (N := N) (T := T) (f := f) (i := i) (s := s) hH hA hB N (0, 0, 0) [] (by dsimp only; omega) (by dsimp only; omega) (by dsimp only; omega) (by dsimp only; omega) (MapOK.nil _ _ _ _)
  simp only [Int.natCast_zero] at h
  rw [h]
  simp [Ty.beq]
end
end Go.Proofs.Ytfcnhnbnjdccfaa

namespace Go.Proofs.Ytfcnhnbnjdccfaa
set_option linter.all false
open Go

section
variable {N : Nat} {T : List (List Int)} {H A B : List Int} {f a b : Int}
/-- Whether places may be. -/
def mayR (may : Nat → Int × Int → Bool) : Nat → List (Int × Int) → Bool
  | _, [] => true
  | h, q :: r => may h q && mayR may (h + 1) r
/-- As many words are told in the best of these, of which there are so many, if there is one. -/
def Gd (C : List (List (Int × Int))) (v : Int × Int) : Prop := BestOf C v ∧ (C = [] ∧ v.1 = -1 ∨ ∃ r ∈ C, toldN r = v.1)
theorem Gd.ge {C : List (List (Int × Int))} {v : Int × Int} (h : Gd C v) : -1 ≤ v.1 := by
  rcases h.2 with ⟨_, h⟩ | ⟨r, _, h⟩
  · omega
  · have := toldN_bnd r; omega
theorem Gd.add {may : Nat → Int × Int → Bool} {h : Nat} {t : At3 → Int × Int} {m : Mv} {C D : List (List (Int × Int))} {best : Int × Int} (hb : Gd C best) (hd : Gd D (t m.2)) : Gd (C ++ if may h m.1 = true then D.map fun r => m.1 :: r else []) (stepT may h t best m) := by
  by_cases c : may h m.1 = true
  · rw [if_pos c]
    have st : stepT may h t best m = stepT mayA h t best m := by
      unfold stepT; rw [if_pos c]; exact (if_pos rfl).symm
    rw [st]
    have st2 : stepT mayA h t best m = (if best.1 < wT m.1.1 (t m.2).1 then (wT m.1.1 (t m.2).1, (t m.2).2) else if wT m.1.1 (t m.2).1 = best.1 then (best.1, best.2 + (t m.2).2) else best) := by
      unfold stepT; exact if_pos rfl
    have hge := hb.ge
    rcases hd.2 with ⟨rfl, hv⟩ | ⟨r, hr, hv⟩
    · have h2 := hd.1.2
      rw [List.countP_nil] at h2
      have hw : wT m.1.1 (t m.2).1 = -1 := by
        unfold wT; rw [hv]; exact if_neg (fun h => absurd h.1 (by decide))
      rw [st2, hw, List.map_nil, List.append_nil, if_neg (by omega)]
      by_cases k : -1 = best.1
      · rw [if_pos k, h2]
        rw [show ((best.1, best.2 + ((0 : Nat) : Int)) : Int × Int) = best by simp]
        exact hb
      · rw [if_neg k]; exact hb
    · have t0 := toldN_bnd r
      have h0 : 0 ≤ (t m.2).1 := by omega
      refine ⟨BestOf.add (n := 0) hb.1 hd.1 h0, .inr ?_⟩
      have hw : toldN (m.1 :: r) = wT m.1.1 (t m.2).1 := by
        unfold wT toldN
        by_cases c : m.1.1 = 3
        · rw [if_pos c, if_neg (fun h => h.2 c)]; omega
        · rw [if_neg c, if_pos ⟨h0, c⟩]; omega
      rw [st2]
      by_cases k1 : best.1 < wT m.1.1 (t m.2).1
      · rw [if_pos k1]
        exact ⟨m.1 :: r, List.mem_append.2 (.inr (List.mem_map.2 ⟨r, hr, rfl⟩)), hw⟩
      · rw [if_neg k1]
        have t1 := toldN_bnd (m.1 :: r)
        rcases hb.2 with ⟨_, e⟩ | ⟨r', hr', e⟩
        · omega
        · refine ⟨r', List.mem_append.2 (.inl hr'), ?_⟩
          split <;> exact e
  · have st : stepT may h t best m = best := by
      unfold stepT; rw [if_neg c]
    rw [if_neg c, st, List.append_nil]
    exact hb
theorem Gd.fold {may : Nat → Int × Int → Bool} {h n : Nat} {t : At3 → Int × Int} (hd : ∀ y, y.1 = h + 1 → Gd ((rdx H A B n y).filter (mayR may (h + 1))) (t y)) : ∀ (ms : List Mv) (C : List (List (Int × Int))) (best : Int × Int), (∀ m ∈ ms, m.2.1 = h + 1) → Gd C best → Gd (C ++ (ms.flatMap fun m => (rdx H A B n m.2).map fun r => m.1 :: r).filter (mayR may h)) (ms.foldl (stepT may h t) best)
  | [], C, best, _, hb => by simpa using hb
  | m :: ms, C, best, hm, hb => by
    rw [List.flatMap_cons, List.filter_append, ← List.append_assoc, List.foldl_cons]
    have e : ((rdx H A B n m.2).map fun r => m.1 :: r).filter (mayR may h) = if may h m.1 = true then ((rdx H A B n m.2).filter (mayR may (h + 1))).map fun r => m.1 :: r else [] := by
      rw [List.filter_map]
      by_cases c : may h m.1 = true
      · rw [if_pos c]
        congr 1
        apply List.filter_congr
        intro r _
        simp [mayR, c]
      · rw [if_neg c]
        rw [Bool.not_eq_true] at c
        rw [List.map_eq_nil_iff, List.filter_eq_nil_iff]
        intro r _
        simp [mayR, c]
    rw [e]
    exact Gd.fold hd ms _ _ (fun m' h' => hm m' (by simp [h'])) (Gd.add hb (hd m.2 (hm m (by simp))))
theorem movesL_next {w : Int} {x : At3} {m : Mv} (h : m ∈ movesL A B w x) : m.2.1 = x.1 + 1 := by
  simp only [movesL, List.mem_cons, List.mem_append, List.mem_map] at h
  rcases h with rfl | ⟨j, _, rfl⟩ | ⟨j, _, rfl⟩ <;> rfl
theorem rdx_gd (may : Nat → Int × Int → Bool) : ∀ (n : Nat) (x : At3), H.length = x.1 + n → Gd ((rdx H A B n x).filter (mayR may x.1)) (tvx may H A B n x)
  | 0, x, _ => by
    have e : (rdx H A B 0 x).filter (mayR may x.1) = [[]] := rfl
    rw [e]
    exact ⟨⟨fun r hr => by simp at hr; subst hr; simp [tvx, toldN], by simp [tvx, toldN]⟩, .inr ⟨[], by simp, by simp [toldN, tvx]⟩⟩
  | n + 1, x, hx => by
    have := Gd.fold (H := H) (A := A) (B := B) (may := may) (h := x.1) (n := n) (t := tvx may H A B n) (fun y hy => by have := rdx_gd may n y (by omega); rw [hy] at this; exact this) (movesL A B (H.getD x.1 0) x) [] (-1, 0) (fun m hm => movesL_next hm) ⟨⟨(fun r hr => by cases hr), rfl⟩, .inl ⟨rfl, rfl⟩⟩
    exact this
theorem mayR_side {i : Nat} {s : Int} : ∀ (r : List (Int × Int)) (h : Nat), mayR (mayS i s) h r = (decide (i < h ∨ h + r.length ≤ i) || decide ((r.getD (i - h) (0, 0)).1 = s))
  | [], h => by
    have : i < h ∨ h + ([] : List (Int × Int)).length ≤ i := by simp; omega
    rw [decide_eq_true this]; rfl
  | q :: r, h => by
    rw [mayR, mayR_side r (h + 1)]
    unfold mayS
    rw [List.length_cons]
    by_cases c : h = i
    · subst c
      rw [decide_eq_true (show h < h + 1 ∨ h + 1 + r.length ≤ h by omega), decide_eq_false (show ¬ (h < h ∨ h + (r.length + 1) ≤ h) by omega)]
      simp
    · rw [decide_eq_true (show h ≠ i from c)]
      by_cases c2 : i < h
      · rw [decide_eq_true (show i < h + 1 ∨ h + 1 + r.length ≤ i by omega), decide_eq_true (show i < h ∨ h + (r.length + 1) ≤ i by omega)]
        rfl
      · rw [show i - h = (i - (h + 1)) + 1 by omega, List.getD_cons_succ]
        rw [show decide (i < h + 1 ∨ h + 1 + r.length ≤ i) = decide (i < h ∨ h + (r.length + 1) ≤ i) by apply decide_eq_decide.2; omega]
        rfl
theorem countP_and {α : Type} {p q : α → Bool} : ∀ {l : List α}, l.countP (fun x => p x && q x) = l.countP p → ∀ x ∈ l, p x = true → q x = true
  | [], _, x, hx, _ => by cases hx
  | y :: l, h, x, hx, hp => by
    rw [List.countP_cons, List.countP_cons] at h
    have le : l.countP (fun x => p x && q x) ≤ l.countP p := List.countP_mono_left (fun x _ hx => by simp only [Bool.and_eq_true] at hx; exact hx.1)
    have h1 : l.countP (fun x => p x && q x) = l.countP p := by
      cases hpy : p y <;> cases hqy : q y <;> simp [hpy, hqy] at h <;> omega
    rcases List.mem_cons.1 hx with rfl | hx
    · cases hq : q x with
      | true => rfl
      | false => rw [hp, hq] at h; simp at h; omega
    · exact countP_and h1 x hx hp
/-- The best readings. -/
def bestR (H A B : List Int) : List (List (Int × Int)) := (rdAll H A B).filter fun r => decide (toldN r = (tv mayA H A B (0, 0, 0)).1)
theorem bestR_ne : ∃ r, r ∈ bestR H A B := by
  obtain ⟨r, hr, e⟩ := rdAll_has (H := H) (A := A) (B := B)
  exact ⟨r, List.mem_filter.2 ⟨hr, by simpa using e⟩⟩
theorem bestR_len {r : List (Int × Int)} (h : r ∈ bestR H A B) : r.length = H.length := rdx_length H.length (0, 0, 0) r (List.mem_filter.1 h).1
/-- Whether a word is of a side in each best reading. -/
def allS (H A B : List Int) (i : Nat) (s : Int) : Bool := (bestR H A B).all fun r => decide ((r.getD i (0, 0)).1 = s)
theorem first_iff {i : Nat} {s : Int} (hi : i < H.length) : tv (mayS i s) H A B (0, 0, 0) = tv mayA H A B (0, 0, 0) ↔ allS H A B i s = true := by
  have gd : Gd ((rdAll H A B).filter (mayR (mayS i s) 0)) (tv (mayS i s) H A B (0, 0, 0)) := rdx_gd (H := H) (A := A) (B := B) (mayS i s) H.length (0, 0, 0) (by simp)
  have sid : ∀ r ∈ rdAll H A B, mayR (mayS i s) 0 r = decide ((r.getD i (0, 0)).1 = s) := fun r hr => by
    have hl : r.length = H.length := rdx_length H.length (0, 0, 0) r hr
    rw [mayR_side, decide_eq_false (by omega)]; simp
  have cnt := rdAll_count (H := H) (A := A) (B := B)
  have le := rdAll_le (H := H) (A := A) (B := B)
  obtain ⟨r0, hr0, e0⟩ := rdAll_has (H := H) (A := A) (B := B)
  generalize tv (mayS i s) H A B (0, 0, 0) = W at gd ⊢
  unfold allS bestR
  generalize tv mayA H A B (0, 0, 0) = V at cnt le e0 ⊢
  have cp : ((rdAll H A B).filter (mayR (mayS i s) 0)).countP (fun r => decide (toldN r = V.1)) = (rdAll H A B).countP fun r => decide (toldN r = V.1) && mayR (mayS i s) 0 r := by
    rw [List.countP_filter]
  rw [List.all_eq_true]
  constructor
  · rintro rfl r hr
    obtain ⟨h1, h2⟩ := List.mem_filter.1 hr
    have := gd.1.2
    rw [cp, cnt] at this
    rw [← sid r h1]
    exact countP_and (Int.ofNat.inj this).symm r h1 h2
  · intro h
    have hs : ∀ r ∈ rdAll H A B, toldN r = V.1 → mayR (mayS i s) 0 r = true := fun r hr e => by
      rw [sid r hr]
      exact h r (List.mem_filter.2 ⟨hr, by simpa using e⟩)
    have m0 : r0 ∈ (rdAll H A B).filter (mayR (mayS i s) 0) := List.mem_filter.2 ⟨hr0, hs r0 hr0 e0⟩
    have l1 := gd.1.1 r0 m0
    have e1 : W.1 = V.1 := by
      rcases gd.2 with ⟨e, _⟩ | ⟨r, hr, e⟩
      · rw [e] at m0; cases m0
      · have := le r (List.mem_filter.1 hr).1
        omega
    have e2 := gd.1.2
    rw [e1, cp] at e2
    have e3 : ((rdAll H A B).countP fun r => decide (toldN r = V.1) && mayR (mayS i s) 0 r) = (rdAll H A B).countP fun r => decide (toldN r = V.1) := by
      apply List.countP_congr
      intro r hr
      simp only [Bool.and_eq_true, decide_eq_true_eq]
      exact ⟨fun h => h.1, fun e => ⟨e, hs r hr e⟩⟩
    rw [e3, ← cnt] at e2
    exact Prod.ext e1 e2
/-- Whose a word surely is. -/
def sureV (H A B : List Int) (i : Nat) : Int := if allS H A B i 1 = true then 1 else if allS H A B i 2 = true then 2 else if allS H A B i 3 = true then 3 else 0
theorem allS_one {i : Nat} {s t : Int} (h1 : allS H A B i s = true) (h2 : allS H A B i t = true) : s = t := by
  obtain ⟨r, hr⟩ := bestR_ne (H := H) (A := A) (B := B)
  have a := List.all_eq_true.1 h1 r hr
  have b := List.all_eq_true.1 h2 r hr
  simp only [decide_eq_true_eq] at a b
  omega
theorem sure_l2_p (hN : 20 ≤ N) (hH : H.length ≤ 10) (hA : A.length ≤ 6) (hB : B.length ≤ 6) {i : Nat} (hi : i < H.length) {u : Int} {out : List Int} (ho : out.length = H.length) (h0 : out.getD i 0 = 0) :
    sure_l2 N N (T, H, f, A, B) u i [1, 2, 3] 0 (tv mayA H A B (0, 0, 0)).1 (tv mayA H A B (0, 0, 0)).2 out i = some ((T, H, f, A, B), u, (i : Int), (tv mayA H A B (0, 0, 0)).1, (tv mayA H A B (0, 0, 0)).2, out.set i (sureV H A B i)) := by
  have step : ∀ (n : Nat) (k s : Int) (o : List Int), 0 ≤ k → k < 3 → [(1 : Int), 2, 3][k.toNat]? = some s → o.length = H.length → sure_l2 N (n + 1) (T, H, f, A, B) u i [1, 2, 3] k (tv mayA H A B (0, 0, 0)).1 (tv mayA H A B (0, 0, 0)).2 o i = sure_l2 N n (T, H, f, A, B) u i [1, 2, 3] (k + 1) (tv mayA H A B (0, 0, 0)).1 (tv mayA H A B (0, 0, 0)).2 (if allS H A B i s = true then o.set i s else o) i := by
    intro n k s o k0 k3 hk hol
    rw [sure_l2, br_dec k3, idx_eq k0 hk, firsts_v (by omega) hH hA hB]
    simp only [Option.bind_some]
    by_cases c : allS H A B i s = true
    · rw [if_pos c, (first_iff hi).2 c]
      simp only [decide_true, Bool.and_self, br_true]
      rw [rng_eq (by omega), get_eq (a := o.getD i 0) (by have : i < o.length := by omega
                                                          simp [List.getD, this])]
      unfold sure_j1
      rw [chk_eq (by omega), Int.toNat_natCast]
    · have hne : ¬ tv (mayS i s) H A B (0, 0, 0) = tv mayA H A B (0, 0, 0) := fun h => c ((first_iff hi).1 h)
      have : (decide ((tv (mayS i s) H A B (0, 0, 0)).1 = (tv mayA H A B (0, 0, 0)).1) && decide ((tv (mayS i s) H A B (0, 0, 0)).2 = (tv mayA H A B (0, 0, 0)).2)) = false := by
        rw [Bool.eq_false_iff]
        intro h
        simp only [Bool.and_eq_true, decide_eq_true_eq] at h
        exact hne (Prod.ext h.1 h.2)
      rw [if_neg c, this, br_false]
      unfold sure_j1
      rw [chk_eq (by omega)]
  obtain ⟨n, hn⟩ : ∃ n, N = n + 1 + 1 + 1 + 1 := ⟨N - 4, by omega⟩
  have last : ∀ o, sure_l2 N (n + 1) (T, H, f, A, B) u i [1, 2, 3] 3 (tv mayA H A B (0, 0, 0)).1 (tv mayA H A B (0, 0, 0)).2 o i = some ((T, H, f, A, B), u, (i : Int), (tv mayA H A B (0, 0, 0)).1, (tv mayA H A B (0, 0, 0)).2, o) := fun o => by
    rw [sure_l2, br_ndec (by decide)]
  have e0 : sure_l2 N N (T, H, f, A, B) u i [1, 2, 3] 0 (tv mayA H A B (0, 0, 0)).1 (tv mayA H A B (0, 0, 0)).2 out i = sure_l2 N (n + 1 + 1 + 1 + 1) (T, H, f, A, B) u i [1, 2, 3] 0 (tv mayA H A B (0, 0, 0)).1 (tv mayA H A B (0, 0, 0)).2 out i := by
    rw [← hn]
  rw [e0, step _ 0 1 out (by decide) (by decide) rfl ho, show (0 : Int) + 1 = 1 from rfl]
  rw [step _ 1 2 _ (by decide) (by decide) rfl (by split <;> simp [ho]), show (1 : Int) + 1 = 2 from rfl]
  rw [step _ 2 3 _ (by decide) (by decide) rfl (by split <;> split <;> simp [ho]), show (2 : Int) + 1 = 3 from rfl, last]
  congr 1
  simp only [Prod.mk.injEq, true_and]
  unfold sureV
  by_cases c1 : allS H A B i 1 = true
  · have c2 : ¬ allS H A B i 2 = true := fun h => absurd (allS_one c1 h) (by decide)
    have c3 : ¬ allS H A B i 3 = true := fun h => absurd (allS_one c1 h) (by decide)
    rw [if_neg c3, if_neg c2, if_pos c1, if_pos c1]
  · by_cases c2 : allS H A B i 2 = true
    · have c3 : ¬ allS H A B i 3 = true := fun h => absurd (allS_one c2 h) (by decide)
      rw [if_neg c3, if_pos c2, if_neg c1, if_neg c1, if_pos c2]
    · by_cases c3 : allS H A B i 3 = true
      · rw [if_pos c3, if_neg c2, if_neg c1, if_neg c1, if_neg c2, if_pos c3]
      · rw [if_neg c3, if_neg c2, if_neg c1, if_neg c1, if_neg c2, if_neg c3]
        have hl : i < out.length := by omega
        apply List.ext_getElem
        · simp
        · intro j h1 h2
          rw [List.getElem_set]
          split
          · next h => subst h; rw [← h0]; simp [List.getD, hl]
          · rfl
/-- So many of the words, and the others not yet. -/
def sureTo (H A B : List Int) (k : Nat) : List Int := (List.range k).map (sureV H A B) ++ List.replicate (H.length - k) 0
theorem sureTo_len {k : Nat} (h : k ≤ H.length) : (sureTo H A B k).length = H.length := by
  unfold sureTo
  simp; omega
theorem sureTo_set {k : Nat} (h : k < H.length) : (sureTo H A B k).set k (sureV H A B k) = sureTo H A B (k + 1) ∧ (sureTo H A B k).getD k 0 = 0 := by
  unfold sureTo
  obtain ⟨m, hm⟩ : ∃ m, H.length - k = m + 1 := ⟨H.length - k - 1, by omega⟩
  rw [hm, show H.length - (k + 1) = m by omega, List.range_succ, List.map_append, List.append_assoc, List.replicate_succ]
  constructor
  · rw [List.set_append_right _ _ (by simp)]
    simp
  · simp [List.getD, List.getElem?_append_right]
theorem sure_l1_p (hN : 20 ≤ N) (hH : H.length ≤ 10) (hA : A.length ≤ 6) (hB : B.length ≤ 6) : ∀ (n k : Nat), H.length < n + k → k ≤ H.length →
    sure_l1 N n (T, H, f, A, B) (H.length : Int) k (tv mayA H A B (0, 0, 0)).1 (tv mayA H A B (0, 0, 0)).2 (sureTo H A B k) = some ((List.range H.length).map (sureV H A B))
  | 0, k, h, _ => by omega
  | n + 1, k, h, hk => by
    unfold sure_l1
    by_cases c : k < H.length
    · have ⟨e1, e2⟩ := sureTo_set (A := A) (B := B) c
      rw [br_dec (by omega), sure_l2_p hN hH hA hB c (sureTo_len hk) e2]
      simp only [Option.bind_some]
      rw [chk_eq (by omega), e1]
      have := sure_l1_p hN hH hA hB n (k + 1) (by omega) (by omega)
      rw [show ((k + 1 : Nat) : Int) = (k : Int) + 1 by omega] at this
      exact this
    · have e : k = H.length := by omega
      rw [br_ndec (by omega), e]
      unfold sureTo
      simp
theorem sure_v (hN : 20 ≤ N) (h : openE T H f a b = 0) : sure_S N T H f a b = some ((List.range H.length).map (sureV H (T.getD a.toNat []) (T.getD b.toNat [])), 0) := by
  obtain ⟨hF, ha, hb, e⟩ := opened_good hN h
  have hH := hF.h
  have lA := hF.l (T.getD a.toNat []) (getD_mem (by omega))
  have lB := hF.l (T.getD b.toNat []) (getD_mem (by omega))
  unfold sure_S
  rw [e]
  simp only [Option.bind_some, decide_true, Bool.not_true, br_false, all_S]
  rw [firsta_v (by omega) hH lA.2 lB.2]
  simp only [Option.bind_some]
  rw [grd_eq (lmI_iff.2 (by omega))]
  have e2 := sure_l1_p (N := N) (T := T) (f := f) hN hH lA.2 lB.2 N 0 (by omega) (by omega)
  rw [show sureTo H (T.getD a.toNat []) (T.getD b.toNat []) 0 = List.replicate H.length 0 by unfold sureTo; simp] at e2
  rw [show ((List.replicate (H.length : Int).toNat (0 : Int)).length : Int) = H.length by simp, show List.replicate (H.length : Int).toNat (0 : Int) = List.replicate H.length 0 by simp]
  rw [show ((0 : Nat) : Int) = 0 from rfl] at e2
  rw [e2]; rfl
theorem sure_bad (hN : 20 ≤ N) (h : openE T H f a b ≠ 0) : sure_S N T H f a b = some ([], openE T H f a b) := by
  unfold sure_S
  rw [opened_bad hN h]
  simp only [Option.bind_some]
  rw [br_nnd h]
end
end Go.Proofs.Ytfcnhnbnjdccfaa

namespace Go.Proofs.Ytfcnhnbnjdccfaa
set_option linter.all false
open Go

section
variable {N : Nat} {T : List (List Int)} {H A B : List Int} {f a b : Int}
theorem rdx_side : ∀ (n : Nat) (x : At3), ∀ r ∈ rdx H A B n x, ∀ q ∈ r, q.1 = 1 ∨ q.1 = 2 ∨ q.1 = 3
  | 0, x, r, hr, q, hq => by simp [rdx] at hr; subst hr; cases hq
  | n + 1, x, r, hr, q, hq => by
    obtain ⟨m, hm, h⟩ := List.mem_flatMap.1 hr
    obtain ⟨r', hr', rfl⟩ := List.mem_map.1 h
    rcases List.mem_cons.1 hq with rfl | hq
    · simp only [movesL, List.mem_cons, List.mem_append, List.mem_map] at hm
      rcases hm with rfl | ⟨j, _, rfl⟩ | ⟨j, _, rfl⟩ <;> simp
    · exact rdx_side n m.2 r' hr' q hq
theorem rdx_fit : ∀ (n : Nat) (x : At3), ∀ r ∈ rdx H A B n x, fitL H A B r x = true
  | 0, x, r, hr => by simp [rdx] at hr; subst hr; rfl
  | n + 1, x, r, hr => by
    obtain ⟨m, hm, h⟩ := List.mem_flatMap.1 hr
    obtain ⟨r', hr', rfl⟩ := List.mem_map.1 h
    unfold fitL
    rw [mem_movesL.1 hm]
    exact rdx_fit n m.2 r' hr'
theorem rsure_l2_p {L : List (List (Int × Int))} {i : Nat} {out : List Int} (hL : L.length ≤ 1000000) (hl : ∀ r ∈ L, r.length = H.length) (hi : i < H.length) : ∀ (n k : Nat) (s : Int), L.length < n + k → k ≤ L.length →
    rsure_l2 N n L i s k T H f out = some (L, (i : Int), (if ((L.drop k).all fun r => decide ((r.getD i (0, 0)).1 = s)) = true then s else 0), T, H, f, out)
  | 0, k, s, h, _ => by omega
  | n + 1, k, s, h, hk => by
    rw [rsure_l2]
    by_cases c : k < L.length
    · have hd : L.drop k = L.getD k [] :: L.drop (k + 1) := by
        rw [List.drop_eq_getElem_cons c]; simp [List.getD, c]
      have hk' : L[((k : Nat) : Int).toNat]? = some (L.getD k []) := by simp [List.getD, c]
      have hl' := hl (L.getD k []) (getD_mem c)
      generalize L.getD k [] = r at *
      rw [br_dec (by omega), idx_eq (by omega) hk', idx_get (0, 0) (by omega) (by omega), Int.toNat_natCast, hd, List.all_cons]
      have next := fun s => rsure_l2_p (out := out) hL hl hi n (k + 1) s (by omega) (by omega)
      rw [show ((k + 1 : Nat) : Int) = (k : Int) + 1 by omega] at next
      by_cases d : (r.getD i (0, 0)).1 = s
      · rw [br_nd d]
        unfold rsure_j1
        rw [chk_eq (by omega), next, decide_eq_true d, Bool.true_and]
      · rw [br_nnd d]
        unfold rsure_j1
        rw [chk_eq (by omega), next, decide_eq_false d, Bool.false_and]
        simp
    · rw [br_ndec (by omega), List.drop_of_length_le (by omega)]; simp
theorem rsure_one {i : Nat} (hi : i < H.length) {r0 : List (Int × Int)} (h0 : r0 ∈ bestR H A B) : (if ((bestR H A B).all fun r => decide ((r.getD i (0, 0)).1 = (r0.getD i (0, 0)).1)) = true then (r0.getD i (0, 0)).1 else 0) = sureV H A B i := by
  have hl := bestR_len h0
  have hm : r0.getD i (0, 0) ∈ r0 := getD_mem (by omega)
  have hs := rdx_side (H := H) (A := A) (B := B) H.length (0, 0, 0) r0 (List.mem_filter.1 h0).1 _ hm
  have e : ((bestR H A B).all fun r => decide ((r.getD i (0, 0)).1 = (r0.getD i (0, 0)).1)) = allS H A B i (r0.getD i (0, 0)).1 := rfl
  have one : ∀ s, allS H A B i s = true → s = (r0.getD i (0, 0)).1 := fun s h => by
    have := List.all_eq_true.1 h r0 h0
    simp only [decide_eq_true_eq] at this
    omega
  rw [e]
  generalize (r0.getD i (0, 0)).1 = s0 at *
  unfold sureV
  by_cases c1 : allS H A B i 1 = true
  · have := one 1 c1
    subst this
    rw [if_pos c1, if_pos c1]
  · rw [if_neg c1]
    by_cases c2 : allS H A B i 2 = true
    · have := one 2 c2
      subst this
      rw [if_pos c2, if_pos c2]
    · rw [if_neg c2]
      by_cases c3 : allS H A B i 3 = true
      · have := one 3 c3
        subst this
        rw [if_pos c3]
      · rw [if_neg c3]
        rcases hs with rfl | rfl | rfl
        · rw [if_neg c1]
        · rw [if_neg c2]
        · rw [if_neg c3]
theorem rsure_l1_p {L : List (List (Int × Int))} (hL : L = bestR H A B) (hn : L.length ≤ 1000000) (hN : L.length < N) (hH : H.length ≤ 10) : ∀ (n k : Nat), H.length < n + k → k ≤ H.length →
    rsure_l1 N n L k T H f ((List.range k).map (sureV H A B)) = some ((List.range H.length).map (sureV H A B))
  | 0, k, h, _ => by omega
  | n + 1, k, h, hk => by
    rw [rsure_l1]
    by_cases c : k < H.length
    · obtain ⟨r0, hr0⟩ := bestR_ne (H := H) (A := A) (B := B)
      rw [← hL] at hr0
      have hp := List.length_pos_of_mem hr0
      have h0 : L.getD 0 [] ∈ L := getD_mem hp
      have hl' : ∀ r ∈ L, r.length = H.length := fun r hr => bestR_len (by rw [hL] at hr; exact hr)
      have hl0 := hl' _ h0
      rw [br_dec (by omega), idx_get [] (by omega) (by omega), show (0 : Int).toNat = 0 from rfl, idx_get (0, 0) (by omega) (by omega), Int.toNat_natCast]
      have e := rsure_l2_p (N := N) (T := T) (f := f) (L := L) (i := k) (out := (List.range k).map (sureV H A B)) hn hl' c N 0 ((L.getD 0 []).getD k (0, 0)).1 (by omega) (by omega)
      rw [List.drop_zero, show ((0 : Nat) : Int) = 0 from rfl] at e
      rw [e]
      simp only [Option.bind_some]
      have e2 : (if (L.all fun r => decide ((r.getD k (0, 0)).1 = ((L.getD 0 []).getD k (0, 0)).1)) = true then ((L.getD 0 []).getD k (0, 0)).1 else 0) = sureV H A B k := by
        rw [hL]; rw [hL] at h0
        exact rsure_one c h0
      rw [e2, lim_eq (by simp; omega), chk_eq (by omega)]
      have := rsure_l1_p hL hn hN hH n (k + 1) (by omega) (by omega)
      rw [List.range_succ, List.map_append, show ((k + 1 : Nat) : Int) = (k : Int) + 1 by omega] at this
      exact this
    · have e : k = H.length := by omega
      rw [br_ndec (by omega), e]
theorem rsure_v {L : List (List (Int × Int))} (hL : L = bestR H A B) (hn : L.length ≤ 1000000) (hN : L.length < N) (hN2 : 20 ≤ N) (hH : H.length ≤ 10) : rsure_S N T H f L = some ((List.range H.length).map (sureV H A B)) := by
  unfold rsure_S
  have := rsure_l1_p (N := N) (T := T) (f := f) hL hn hN hH N 0 (by omega) (by omega)
  rw [List.range_zero, List.map_nil, show ((0 : Nat) : Int) = 0 from rfl] at this
  rw [this]; rfl
theorem ereads_l1_p {W : List Int} {l : List (Int × Int)} {least p p2 f2 f3 : Int} {T2 T3 : List (List Int)} {H2 H3 : List Int} (hW : W.length ≤ 1000) : ∀ (n k : Nat), W.length < n + k → k ≤ W.length →
    ereads_l1 N n l W least W (W.length : Int) k T H f p p2 T2 H2 f2 T3 H3 f3 = some (.inr (l, least, T, H, f, p, p2, T2, H2, f2, T3, H3, f3))
  | 0, k, h, _ => by omega
  | n + 1, k, h, hk => by
    rw [ereads_l1]
    by_cases c : k < W.length
    · rw [br_dec (by omega), idx_get 0 (by omega) (by omega), idx_get 0 (by omega) (by omega), br_nd (by first | trivial | rfl), chk_eq (by omega)]
      have := ereads_l1_p (l := l) (least := least) (p := p) (p2 := p2) (f2 := f2) (f3 := f3) (T2 := T2) (T3 := T3) (H2 := H2) (H3 := H3) hW n (k + 1) (by omega) (by omega)
      rw [show ((k + 1 : Nat) : Int) = (k : Int) + 1 by omega] at this
      exact this
    · rw [br_ndec (by omega)]
theorem count_v2 (hN : 20 ≤ N) (h : openE T H f a b = 0) : count_S N T H f a b = some (((bestR H (T.getD a.toNat []) (T.getD b.toNat [])).length : Int), 0) := by
  unfold count_S
  obtain ⟨hF, ha, hb, e⟩ := opened_good hN h
  have hH := hF.h
  have lA := hF.l (T.getD a.toNat []) (getD_mem (by omega))
  have lB := hF.l (T.getD b.toNat []) (getD_mem (by omega))
  rw [e]
  simp only [Option.bind_some, decide_true, Bool.not_true, br_false, all_S]
  rw [firsta_v (by omega) hH lA.2 lB.2]
  simp only [Option.bind_some]
  rw [rdAll_count, List.countP_eq_length_filter]
  rfl
theorem count_bad (hN : 20 ≤ N) (h : openE T H f a b ≠ 0) : count_S N T H f a b = some (0, openE T H f a b) := by
  unfold count_S
  rw [opened_bad hN h]
  simp only [Option.bind_some]
  rw [br_nnd h]
theorem least_bad2 (hN : 20 ≤ N) (h : openE T H f a b ≠ 0) : least_S N T H f a b = some (0, openE T H f a b) := by
  unfold least_S
  rw [opened_bad hN h]
  simp only [Option.bind_some]
  rw [br_nnd h]
theorem awake_60000 : awake_S 60000 = some true := by kernel_rfl
theorem ereads_true {p p2 : Int} (h0 : (Ty.pair (.sl (.sl (.int .i64))) (.pair (.sl (.int .i64)) (.int .i64))).inB (T, H, f)) (h1 : (Ty.pair (.int .i64) (.int .i64)).inB (p, p2)) : ereads_S 60000 T H f p p2 = some true := by
  unfold ereads_S
  rcases great_v (N := 60000) (by omega) T H f with e | ⟨e, hm⟩
  · rw [e]; simp only [Option.bind_some, br_true, awake_60000]
  · rw [e]
    simp only [Option.bind_some, br_false]
    have hmn := hm.n
    rcases wide_v (N := 60000) (T := T) (H := H) (f := f) (heard := 5) (words := 4) hm.n (by omega) with e | ⟨e, w1, w2⟩
    · rw [e]; simp only [Option.bind_some, br_true, awake_60000]
    · rw [e]
      simp only [Option.bind_some, br_false]
      rw [copye_small (by omega) hm]
      simp only [Option.bind_some]
      rw [check_v (by omega), rcheck_v (by omega) hm]
      simp only [Option.bind_some, decide_true, Bool.not_true, br_false]
      by_cases c : openE T H f p p2 = 0
      · obtain ⟨hF, ha, hb, _⟩ := opened_good (N := 60000) (by omega) c
        have hH := hF.h
        have hs : Slim T H 9 60000 := by
          have hl : H.length ≤ 5 := by omega
          have hp : 9 ^ H.length ≤ 9 ^ 5 := Nat.pow_le_pow_right (by decide) hl
          refine ⟨fun x hx y hy => ?_, by omega, by omega⟩
          have a1 := w2 x hx; have a2 := hF.l x hx
          have b1 := w2 y hy; have b2 := hF.l y hy
          omega
        obtain ⟨r, hr, er, e1⟩ := reading_v (N := 60000) (by omega) c
        have hrl : r.length = H.length := rdx_length H.length (0, 0, 0) r hr
        have rl := rdx_len (H := H) (A := T.getD p.toNat []) (B := T.getD p2.toNat []) (M := 9) (hs.w _ (getD_mem (by omega)) _ (getD_mem (by omega))) H.length (0, 0, 0)
        have bl : (bestR H (T.getD p.toNat []) (T.getD p2.toNat [])).length ≤ 9 ^ H.length := Nat.le_trans (List.length_filter_le _ _) rl
        have hp1 := hs.p
        have hp2 := hs.n
        rw [least_v (by omega) hF ha hb, e1, count_v2 (by omega) c, sure_v (by omega) c, rtwo_v (by omega) hm]
        simp only [Option.bind_some]
        rw [br_nd c, rbest_v (by omega) hF hs ha hb]
        simp only [Option.bind_some, decide_true, Bool.not_true, br_false, List.length_map, List.length_range]
        have eb : ((rdAll H (T.getD p.toNat []) (T.getD p2.toNat [])).filter fun r => decide (toldN r = (tv mayA H (T.getD p.toNat []) (T.getD p2.toNat []) (0, 0, 0)).1)) = bestR H (T.getD p.toNat []) (T.getD p2.toNat []) := rfl
        rw [eb, br_nd (by first | trivial | rfl), rsure_v rfl (by omega) (by omega) (by omega) hH]
        simp only [Option.bind_some]
        have e2 := ereads_l1_p (N := 60000) (T := T) (H := H) (f := f) (W := (List.range H.length).map (sureV H (T.getD p.toNat []) (T.getD p2.toNat []))) (l := r) (least := leastV H (T.getD p.toNat []) (T.getD p2.toNat [])) (p := p) (p2 := p2) (f2 := f) (f3 := f) (T2 := T) (T3 := T) (H2 := H) (H3 := H) (by simp; omega) 60000 0 (by simp; omega) (by omega)
        rw [show ((0 : Nat) : Int) = 0 from rfl] at e2
        rw [e2]
        simp only [Option.bind_some]
        rw [places_v (by omega) (by omega)]
        simp only [Option.bind_some]
        have hfit : fitL H (T.getD p.toNat []) (T.getD p2.toNat []) r (0, 0, 0) = true := rdx_fit H.length (0, 0, 0) r hr
        rw [rfaults_v (by omega) hm p p2 r (by omega), if_neg (by simpa using c), if_neg (by simpa using hrl), if_pos hfit]
        simp only [Option.bind_some, decide_true, br_true]
        rw [br_dec (by rw [er]; rfl), same_v (by omega) hm, awake_60000]
        rfl
      · rw [least_bad2 (by omega) c, reading_bad (by omega) c, count_bad (by omega) c, sure_bad (by omega) c, rtwo_v (by omega) hm]
        simp only [Option.bind_some]
        rw [br_nnd c]
        simp only [decide_true, br_true, List.length_nil]
        rw [chk_eq (by omega), chk_eq (by omega), chk_eq (by omega), br_dec (by rfl), same_v (by omega) hm, awake_60000]
        rfl
end
end Go.Proofs.Ytfcnhnbnjdccfaa

/-
  Parts of a proof, put together: Pl5, Pl6, Pl7, Pl8, Pl9, Pl10, Pl11, E4, Pl12, InB, Pl13, Pl14, Pl15, E6, Pl19, Pl20, Pl21, Pl22, Pl23, Pl30, Pl27, Pl28.
  Conditions: none.
-/
import Derived.Test.YtfcnhnbnjdccfaaZa
import Derived.Test.YtfcnhnbnjdccfaaZe
namespace Go.Proofs.Ytfcnhnbnjdccfaa
set_option linter.all false
open Go

def mayA : Nat → Int × Int → Bool := fun _ _ => true
section
variable {N : Nat} {T : List (List Int)} {H A B : List Int} {f : Int}
theorem resta_l1_p {self : Int → Int → Int → Desk → Desk → Memo → Option (Int × Int × Desk × Memo)} {h n : Nat} (hH : n ≤ 9) (hA : A.length ≤ 6) (hB : B.length ≤ 6) {u : Int × Int × Int} {u2 : Desk} {x x2 x3 g3 g4 : Int}
  (hself : ∀ (y : At3) (m : Memo), y.1 = h + 1 → y.2.1 ≤ A.length → y.2.2 ≤ B.length → MapOK mayA H A B m → ∃ m', self y.1 y.2.1 y.2.2 (T, H, f, A, B) (T, H, f, A, B) m = some ((tvx mayA H A B n y).1, (tvx mayA H A B n y).2, (T, H, f, A, B), m') ∧ MapOK mayA H A B m') :
  ∀ (ms : List Mv) (m : Memo) (c : Nat) (best : Int × Int), (∀ mv ∈ ms, mv.2.1 = h + 1 ∧ mv.2.2.1 ≤ A.length ∧ mv.2.2.2 ≤ B.length) → MapOK mayA H A B m → Bst n c best → c + ms.length ≤ 13 →
   ∃ m', resta_l1 N self (ms.map movP) u u2 (T, H, f, A, B) m x x2 x3 g3 g4 best.1 best.2 = some ((T, H, f, A, B), m', x, x2, x3, g3, g4, (ms.foldl (stepT mayA h (tvx mayA H A B n)) best).1, (ms.foldl (stepT mayA h (tvx mayA H A B n)) best).2) ∧ MapOK mayA H A B m'
 | [], m, c, best, _, hm, _, _ => ⟨m, rfl, hm⟩
 | mv :: ms, m, c, best, hv, hm, hb, hc => by
  obtain ⟨hv1, hv2, hv3⟩ := hv mv (by simp)
  obtain ⟨m1, he, hm1⟩ := hself mv.2 m hv1 hv2 hv3 hm
  have ht := tvx_bnd mayA (H := H) hA hB n mv.2
  have hb' := stepT_bnd (may := mayA) (h := h) (t := tvx mayA H A B n) (m := mv) ht hb
  obtain ⟨m2, h2, hm2⟩ := resta_l1_p (u := u) (u2 := u2) (x := x) (x2 := x2) (x3 := x3) (g3 := g3) (g4 := g4) hH hA hB hself ms m1 (c + 1) _ (fun v hv' => hv v (by simp [hv'])) hm1 hb' (by simp only [List.length_cons] at hc; omega)
  refine ⟨m2, ?_, hm2⟩
  rw [List.map_cons, List.foldl_cons, ← h2]
  have hp := pow13 (n := n) (by omega)
  have hbb : (((c + 1) * 13 ^ n : Nat) : Int) ≤ 13 * 137858491849 := by
   have : (c + 1) * 13 ^ n ≤ 13 * 137858491849 := Nat.mul_le_mul (by simp only [List.length_cons] at hc; omega) hp
   omega
  have hb2 : best.2 + (tvx mayA H A B n mv.2).2 ≤ 13 * 137858491849 := by
   have e : (((c + 1) * 13 ^ n : Nat) : Int) = ((c * 13 ^ n : Nat) : Int) + ((13 ^ n : Nat) : Int) := by rw [Nat.succ_mul]; simp
   have := hb.2.2.2
   have := ht.2.2.2
   omega
  have h0 := hb.2.2.1
  have h1 := ht.2.2.1
  have hn1 := ht.1
  have hn2 := ht.2.1
  simp only [resta_l1, resta_l1_b, movP, all1_S, Option.bind_some, Bool.not_true, br_false]
  rw [he]
  have hst : stepT mayA h (tvx mayA H A B n) best mv = (if best.1 < wT mv.1.1 (tvx mayA H A B n mv.2).1 then (wT mv.1.1 (tvx mayA H A B n mv.2).1, (tvx mayA H A B n mv.2).2) else if wT mv.1.1 (tvx mayA H A B n mv.2).1 = best.1 then (best.1, best.2 + (tvx mayA H A B n mv.2).2) else best) := by
   unfold stepT; exact if_pos rfl
  rw [hst]
  simp only [Option.bind_some, wT]
  clear hst h2 he hb' hself
  generalize tvx mayA H A B n mv.2 = t at *
  obtain ⟨tw, ty⟩ := t
  obtain ⟨bw, by_⟩ := best
  simp only at *
  by_cases c1 : 0 ≤ tw
  ·rw [br_dec c1]
   by_cases c2 : mv.1.1 = 3
   ·refine (br_nd c2).trans ?_
    have c2' : ¬ (0 ≤ tw ∧ mv.1.1 ≠ 3) := fun h => h.2 c2
    rw [if_neg c2']
    by_cases c3 : bw < tw
    ·rw [br_dec c3, if_pos c3]
    ·rw [br_ndec c3, if_neg c3]
     by_cases c4 : tw = bw
     ·rw [br_dec c4, if_pos c4, chk_eq (by omega)]
     ·rw [br_ndec c4, if_neg c4]
   ·refine (br_nnd c2).trans ?_
    have c2' : 0 ≤ tw ∧ mv.1.1 ≠ 3 := ⟨c1, c2⟩
    rw [chk_eq (by omega), if_pos c2']
    by_cases c3 : bw < tw + 1
    ·rw [br_dec c3, if_pos c3]
    ·rw [br_ndec c3, if_neg c3]
     by_cases c4 : tw + 1 = bw
     ·rw [br_dec c4, if_pos c4, chk_eq (by omega)]
     ·rw [br_ndec c4, if_neg c4]
  ·have c2' : ¬ (0 ≤ tw ∧ mv.1.1 ≠ 3) := fun h => c1 h.1
   rw [br_ndec c1, if_neg c2']
   by_cases c3 : bw < tw
   ·rw [br_dec c3, if_pos c3]
   ·rw [br_ndec c3, if_neg c3]
    by_cases c4 : tw = bw
    ·rw [br_dec c4, if_pos c4, chk_eq (by omega)]
    ·rw [br_ndec c4, if_neg c4]
theorem resta_R_p (hH : H.length ≤ 10) (hA : A.length ≤ 6) (hB : B.length ≤ 6) : ∀ (fu : Nat) (x : At3) (m : Memo), H.length < fu + x.1 → x.1 ≤ H.length → x.2.1 ≤ A.length → x.2.2 ≤ B.length → MapOK mayA H A B m →
  ∃ m', resta_R N fu x.1 x.2.1 x.2.2 (T, H, f, A, B) (T, H, f, A, B) m = some ((tv mayA H A B x).1, (tv mayA H A B x).2, (T, H, f, A, B), m') ∧ MapOK mayA H A B m'
 | 0, x, m, h, h1, _, _, _ => by omega
 | fu + 1, x, m, h, hx, ha, hb, hm => by
  show ∃ m', resta_S N (resta_R N fu) x.1 x.2.1 x.2.2 (T, H, f, A, B) (T, H, f, A, B) m = _ ∧ _
  unfold resta_S
  by_cases c1 : x.1 = H.length
  ·rw [br_dec (by dsimp only; omega)]
   refine ⟨m, ?_, hm⟩
   simp [tv, tvx, c1]
  ·rw [br_ndec (by dsimp only; omega)]
   cases hf : m.find? (fun y => Ty.beq (.pair (.int .i64) (.pair (.int .i64) (.int .i64))) y.1 (((x.1 : Nat) : Int), ((x.2.1 : Nat) : Int), ((x.2.2 : Nat) : Int))) with
   | some e =>
    have := hm.find x hf
    refine ⟨m, ?_, hm⟩
    simp [br, this]
   | none =>
    simp only [Option.isSome_none, br_false, next_S, Option.bind_some]
    have hnx : nextR (((x.1 : Nat) : Int), ((x.2.1 : Nat) : Int), ((x.2.2 : Nat) : Int)) (T, H, f, A, B) = some ((movesL A B (H.getD x.1 0) x).map movP) := by
     unfold nextR
     rw [if_pos (by dsimp only; omega)]
     simp only [Int.toNat_natCast]
    rw [hnx]
    simp only [Option.bind_some]
    obtain ⟨n, hn⟩ : ∃ n, H.length - x.1 = n + 1 := ⟨H.length - x.1 - 1, by omega⟩
    obtain ⟨m1, h2, hm1⟩ := resta_l1_p (N := N) (T := T) (f := f) (self := resta_R N fu) (h := x.1) (n := n) (u := (((x.1 : Nat) : Int), ((x.2.1 : Nat) : Int), ((x.2.2 : Nat) : Int))) (u2 := (T, H, f, A, B)) (x := x.1) (x2 := x.2.1) (x3 := x.2.2) (g3 := 0) (g4 := 0) (by omega) hA hB (fun y m' hy hya hyb hm' => by
     have := resta_R_p hH hA hB fu y m' (by omega) (by omega) hya hyb hm'
     rw [show tv mayA H A B y = tvx mayA H A B n y by unfold tv; rw [show H.length - y.1 = n by omega]] at this
     exact this) (movesL A B (H.getD x.1 0) x) m 0 (-1, 0) (fun mv hv => movesL_ok ha hb hv) hm (by refine ⟨?_, ?_, ?_, ?_⟩ <;> simp; omega) (by have := movesL_len A B (H.getD x.1 0) x; omega)
    have e : (movesL A B (H.getD x.1 0) x).foldl (stepT mayA x.1 (tvx mayA H A B n)) (-1, 0) = tv mayA H A B x := by
     unfold tv; rw [hn, tvx]
    rw [e] at h2
    rw [h2]
    exact ⟨_, rfl, hm1.cons x⟩
theorem firsta_v (hN : 12 ≤ N) (hH : H.length ≤ 10) (hA : A.length ≤ 6) (hB : B.length ≤ 6) : firsta_S N (T, H, f, A, B) = some (tv mayA H A B (0, 0, 0)) := by
 unfold firsta_S restsa_S restsa_j1
 obtain ⟨m, h, hm⟩ := resta_R_p (N := N) (T := T) (f := f) hH hA hB N (0, 0, 0) [] (by dsimp only; omega) (by dsimp only; omega) (by dsimp only; omega) (by dsimp only; omega) (MapOK.nil _ _ _ _)
 simp only [Int.natCast_zero] at h
 rw [h]
 simp [Ty.beq]
end
end Go.Proofs.Ytfcnhnbnjdccfaa

namespace Go.Proofs.Ytfcnhnbnjdccfaa
set_option linter.all false
open Go

section
variable {N : Nat}
/-! ### Echoes that are made -/
theorem made_l2_p {words heard many u u2 u3 g x : Int} {b : List Int} {x2 : List (List Int)} (hm : 0 ≤ many ∧ many ≤ 4) (h3 : u3 ≤ 100) : ∀ (n : Nat) (u4 b2 b3 : Int) (l : List Int), (u3 - u4).toNat < n → 0 ≤ u4 → u4 ≤ u3 → Bell b b2 → InR 0 many l → (l.length : Int) = u4 →
  ∃ b2' b3' l', made_l2 N n words heard many u u2 u3 u4 b b2 b3 g x l x2 = some (words, heard, many, u, u2, b, b2', b3', g, x, l', x2) ∧ Bell b b2' ∧ InR 0 many l' ∧ (l'.length : Int) = u3
 | 0, u4, b2, b3, l, h, _, _, _, _, _ => by omega
 | n + 1, u4, b2, b3, l, h, h0, h1, hb, hl, hlen => by
  unfold made_l2
  by_cases c : u4 < u3
  ·rw [br_dec c]
   obtain ⟨⟨y, b', y2, y3⟩, e, hy, hb', hbl⟩ := stroke_ok N (n := many) (b3 := b3) hb (by omega)
   dsimp only at hb' hbl hy
   subst hb'
   rw [e]
   simp only [Option.bind_some]
   rw [lim_eq (by simp; omega), chk_eq (by omega)]
   exact made_l2_p hm h3 n (u4 + 1) y2 y3 _ (by omega) (by omega) (by omega) hbl (hl.append (by omega)) (by simp; omega)
  ·rw [br_ndec c]
   exact ⟨b2, b3, l, rfl, hb, hl, by omega⟩
/-- Texts of some words, of some numbers. -/
def Txt (many wo : Int) (T : List (List Int)) : Prop := ∀ t ∈ T, InR 0 many t ∧ 1 ≤ t.length ∧ (t.length : Int) ≤ wo
theorem made_l1_p {words heard many u g x : Int} {b : List Int} (hN : 110 ≤ N) (hm : 0 ≤ many ∧ many ≤ 4) (hw : 1 ≤ words ∧ words ≤ 100) (hu : u ≤ 100) : ∀ (n : Nat) (u2 b2 b3 : Int) (T : List (List Int)), (u - u2).toNat < n → 0 ≤ u2 → u2 ≤ u → Bell b b2 → Txt many words T → (T.length : Int) = u2 →
  ∃ b2' b3' T', made_l1 N n words heard many u u2 b b2 b3 g x T = some (heard, many, b, b2', b3', g, x, T') ∧ Bell b b2' ∧ Txt many words T' ∧ (T'.length : Int) = u
 | 0, u2, b2, b3, T, h, _, _, _, _, _ => by omega
 | n + 1, u2, b2, b3, T, h, h0, h1, hb, hT, hlen => by
  unfold made_l1
  by_cases c : u2 < u
  ·rw [br_dec c]
   obtain ⟨⟨y, b', y2, y3⟩, e, hy, hb', hbl⟩ := strike_ok N (lo := 1) (hi := words) (b3 := b3) hb (by omega)
   dsimp only at hb' hbl hy
   subst hb'
   rw [e]
   simp only [Option.bind_some]
   obtain ⟨b2', b3', l', e2, hb2, hl, hl2⟩ := made_l2_p (N := N) (words := words) (heard := heard) (u := u) (u2 := u2) (u3 := y) (g := g) (x := x) (x2 := T) hm (by omega) N 0 y2 y3 [] (by omega) (by omega) (by omega) hbl InR.nil (by simp)
   rw [e2]
   simp only [Option.bind_some]
   rw [lim_eq (by simp; omega), chk_eq (by omega)]
   refine made_l1_p hN hm hw hu n (u2 + 1) b2' b3' _ (by omega) (by omega) (by omega) hb2 (fun t ht => ?_) (by simp; omega)
   rcases List.mem_append.1 ht with ht | ht
   ·exact hT t ht
   ·simp at ht; subst ht; exact ⟨hl, by omega, by omega⟩
  ·rw [br_ndec c]
   exact ⟨b2, b3, T, rfl, hb, hT, by omega⟩
theorem made_l3_p {heard many g x : Int} {b : List Int} {T : List (List Int)} (hm : 0 ≤ many ∧ many ≤ 4) (hh : 0 ≤ heard ∧ heard ≤ 100) : ∀ (n : Nat) (b2 b3 : Int) (p q H : List Int), p.length + q.length < n → p.length + q.length ≤ 1000 → InR 0 many p → InR 0 many q → Bell b b2 → InR 0 many H → (H.length : Int) ≤ heard →
  ∃ b2' b3' H', made_l3 N n heard many b b2 b3 g x p q T H = some (b, b2', b3', g, x, T, H') ∧ Bell b b2' ∧ InR 0 many H' ∧ (H'.length : Int) ≤ heard
 | 0, b2, b3, p, q, H, h, _, _, _, _, _, _ => by omega
 | n + 1, b2, b3, p, q, H, h, h1, hp, hq, hb, hH, hl => by
  unfold made_l3
  rw [chk_eq (by omega)]
  by_cases c : 0 < (p.length : Int) + (q.length : Int)
  ·rw [br_dec c]
   by_cases c2 : (H.length : Int) < heard
   ·rw [br_dec c2]
    -- one word of p or q goes
    have rcp : ∀ (y2 y3 : Int) (H2 : List Int), 0 < p.length → Bell b y2 → InR 0 many H2 → (H2.length : Int) ≤ heard → ∃ b2' b3' H', made_l3 N n heard many b y2 y3 g x (p.drop 1) q T H2 = some (b, b2', b3', g, x, T, H') ∧ Bell b b2' ∧ InR 0 many H' ∧ (H'.length : Int) ≤ heard := fun y2 y3 H2 h0 hb2 hH2 hl2 =>
     made_l3_p hm hh n y2 y3 (p.drop 1) q H2 (by rw [List.length_drop]; omega) (by rw [List.length_drop]; omega) (hp.drop 1) hq hb2 hH2 hl2
    have rcq : ∀ (y2 y3 : Int) (H2 : List Int), 0 < q.length → Bell b y2 → InR 0 many H2 → (H2.length : Int) ≤ heard → ∃ b2' b3' H', made_l3 N n heard many b y2 y3 g x p (q.drop 1) T H2 = some (b, b2', b3', g, x, T, H') ∧ Bell b b2' ∧ InR 0 many H' ∧ (H'.length : Int) ≤ heard := fun y2 y3 H2 h0 hb2 hH2 hl2 =>
     made_l3_p hm hh n y2 y3 p (q.drop 1) H2 (by rw [List.length_drop]; omega) (by rw [List.length_drop]; omega) hp (hq.drop 1) hb2 hH2 hl2
    have g1 : ∀ l : List Int, 0 < l.length → decide ((0 : Int) ≤ 1 ∧ 1 ≤ (l.length : Int)) = true := fun l hl => by simp; omega
    have tail : ∀ (fr : List Int) (rec : Int → Int → List Int → Option (List Int × Int × Int × Int × Int × List (List Int) × List Int)) (y2 y3 : Int) (H2 : List Int), 0 < fr.length → InR 0 many fr → Bell b y2 → InR 0 many H2 → (H2.length : Int) ≤ heard →
      (∀ (y2 y3 : Int) (H2 : List Int), Bell b y2 → InR 0 many H2 → (H2.length : Int) ≤ heard → ∃ b2' b3' H', rec y2 y3 H2 = some (b, b2', b3', g, x, T, H') ∧ Bell b b2' ∧ InR 0 many H' ∧ (H'.length : Int) ≤ heard) →
      ∃ b2' b3' H', ((seldom_S N 5 b y2 y3).bind fun (x_59, y_60, y_61, y_62) => br (!x_59) (br (decide ((H2.length : Int) < heard)) (idx fr 0 fun x_63 => lim (H2.length + [x_63].length) <| grd (decide ((0 : Int) ≤ 1 ∧ 1 ≤ (fr.length : Int))) <| rec y_61 y_62 (H2 ++ [x_63])) (grd (decide ((0 : Int) ≤ 1 ∧ 1 ≤ (fr.length : Int))) <| rec y_61 y_62 H2)) (grd (decide ((0 : Int) ≤ 1 ∧ 1 ≤ (fr.length : Int))) <| rec y_61 y_62 H2)) = some (b, b2', b3', g, x, T, H') ∧ Bell b b2' ∧ InR 0 many H' ∧ (H'.length : Int) ≤ heard := by
     intro fr rec y2 y3 H2 hfr hfi hb2 hH2 hl2 hrec
     obtain ⟨⟨s, b', z2, z3⟩, e, hb', hbl⟩ := seldom_ok N (n := 5) (b3 := y3) hb2 (by omega)
     dsimp only at hb' hbl
     rw [e]
     simp only [Option.bind_some]
     cases s with
     | true => simp only [Bool.not_true, br_false]; rw [grd_eq (g1 fr hfr)]; exact hrec z2 z3 H2 hbl hH2 hl2
     | false =>
      simp only [Bool.not_false, br_true]
      by_cases c3 : (H2.length : Int) < heard
      ·rw [br_dec c3, idx_get 0 (by omega) (by omega), lim_eq (by simp; omega), grd_eq (g1 fr hfr)]
       exact hrec z2 z3 _ hbl (hH2.append (hfi _ (getD_mem (by omega)))) (by simp; omega)
      ·rw [br_ndec c3, grd_eq (g1 fr hfr)]; exact hrec z2 z3 H2 hbl hH2 hl2
    have j1 : ∀ (y2 y3 : Int) (H2 : List Int), Bell b y2 → InR 0 many H2 → (H2.length : Int) ≤ heard → ∃ b2' b3' H', made_j1 N (made_l3 N n) heard many b y2 y3 g x p q T H2 = some (b, b2', b3', g, x, T, H') ∧ Bell b b2' ∧ InR 0 many H' ∧ (H'.length : Int) ≤ heard := by
     intro y2 y3 H2 hb2 hH2 hl2
     unfold made_j1
     have tq : ∀ y2 y3, Bell b y2 → 0 < q.length → _ := fun y2 y3 hb2 h0 => tail q (fun y2 y3 H2 => made_l3 N n heard many b y2 y3 g x p (q.drop 1) T H2) y2 y3 H2 h0 hq hb2 hH2 hl2 (fun y2 y3 H2 => rcq y2 y3 H2 h0)
     have tp : ∀ y2 y3, Bell b y2 → 0 < p.length → _ := fun y2 y3 hb2 h0 => tail p (fun y2 y3 H2 => made_l3 N n heard many b y2 y3 g x (p.drop 1) q T H2) y2 y3 H2 h0 hp hb2 hH2 hl2 (fun y2 y3 H2 => rcp y2 y3 H2 h0)
     have bb : ∀ (k : Int), -1000 ≤ k ∧ k ≤ 1000 → ∀ y2 y3, Bell b y2 → ∃ s z2 z3, seldom_S N k b y2 y3 = some (s, b, z2, z3) ∧ Bell b z2 := fun k hk y2 y3 hb2 => by
      obtain ⟨⟨s, b', z2, z3⟩, e, hb', hbl⟩ := seldom_ok N (n := k) (b3 := y3) hb2 hk
      dsimp only at hb' hbl
      subst hb'
      exact ⟨s, z2, z3, e, hbl⟩
     by_cases d1 : (p.length : Int) = 0
     ·rw [br_dec d1]
      obtain ⟨s, z2, z3, e, hbl⟩ := bb 5 (by omega) y2 y3 hb2
      have := tq y2 y3 hb2 (by omega)
      rw [e] at this ⊢
      exact this
     ·rw [br_ndec d1]
      by_cases d2 : 0 < (q.length : Int)
      ·rw [br_dec d2]
       obtain ⟨s, z2, z3, e, hbl⟩ := bb 2 (by omega) y2 y3 hb2
       rw [e]
       simp only [Option.bind_some]
       obtain ⟨s', z2', z3', e', hbl'⟩ := bb 5 (by omega) z2 z3 hbl
       cases s with
       | true =>
        rw [br_true]
        have := tq z2 z3 hbl (by omega)
        rw [e'] at this ⊢
        exact this
       | false =>
        rw [br_false]
        have := tp z2 z3 hbl (by omega)
        rw [e'] at this ⊢
        exact this
      ·rw [br_ndec d2]
       obtain ⟨s, z2, z3, e, hbl⟩ := bb 5 (by omega) y2 y3 hb2
       have := tp y2 y3 hb2 (by omega)
       rw [e] at this ⊢
       exact this
    obtain ⟨⟨s, b', z2, z3⟩, e, hb', hbl⟩ := seldom_ok N (n := 8) (b3 := b3) hb (by omega)
    dsimp only at hb' hbl
    subst hb'
    rw [e]
    simp only [Option.bind_some]
    cases s with
    | false => rw [br_false]; exact j1 z2 z3 H hbl hH hl
    | true =>
     rw [br_true]
     obtain ⟨⟨y, b', y2, y3⟩, e, hy, hb', hbl'⟩ := stroke_ok N (n := many) (b3 := z3) hbl (by omega)
     dsimp only at hb' hbl' hy
     subst hb'
     rw [e]
     simp only [Option.bind_some]
     rw [lim_eq (by simp; omega)]
     exact j1 y2 y3 _ hbl' (hH.append (by omega)) (by simp; omega)
   ·rw [br_ndec c2]; exact ⟨b2, b3, H, rfl, hb, hH, hl⟩
  ·rw [br_ndec c]; exact ⟨b2, b3, H, rfl, hb, hH, hl⟩
theorem made_p (hN : 1100 ≤ N) {tx wo he : Int} (h1 : 1 ≤ tx ∧ tx ≤ 100) (h2 : 1 ≤ wo ∧ wo ≤ 100) (h3 : 0 ≤ he ∧ he ≤ 100) {b : List Int} {b2 b3 : Int} (hb : Bell b b2) :
  ∃ T H f b2' b3', made_S N tx wo he b b2 b3 = some (T, H, f, b, b2', b3') ∧ Bell b b2' ∧ Txt 4 wo T ∧ (1 ≤ (T.length : Int) ∧ (T.length : Int) ≤ tx) ∧ InR 0 4 H ∧ (H.length : Int) ≤ he ∧ 0 ≤ f ∧ f ≤ 4 := by
 unfold made_S
 obtain ⟨⟨f, b', y2, y3⟩, e, hf, hb', hbl⟩ := stroke_ok N (n := 4) (b3 := b3) hb (by omega)
 dsimp only at hb' hbl hf
 subst hb'
 rw [e]; simp only [Option.bind_some]
 obtain ⟨⟨many, b', y2, y3⟩, e, hm, hb', hbl⟩ := strike_ok N (lo := 1) (hi := 4) (b3 := y3) hbl (by omega)
 dsimp only at hb' hbl hm
 subst hb'
 rw [e]; simp only [Option.bind_some]
 obtain ⟨⟨u, b', y2, y3⟩, e, hu, hb', hbl⟩ := strike_ok N (lo := 1) (hi := tx) (b3 := y3) hbl (by omega)
 dsimp only at hb' hbl hu
 subst hb'
 rw [e]; simp only [Option.bind_some]
 obtain ⟨z2, z3, T, e, hbl, hT, hTl⟩ := made_l1_p (N := N) (words := wo) (heard := he) (many := many) (u := u) (g := 0) (x := f) (by omega) (by omega) h2 (by omega) N 0 y2 y3 [] (by omega) (by omega) (by omega) hbl (fun _ h => by cases h) (by simp)
 rw [e]; simp only [Option.bind_some]
 rw [chk_eq (by omega)]
 obtain ⟨⟨i, b', y2, y3⟩, e, hi, hb', hbl⟩ := stroke_ok N (n := (T.length : Int) - 1) (b3 := z3) hbl (by omega)
 dsimp only at hb' hbl hi
 subst hb'
 rw [e]; simp only [Option.bind_some]
 rw [rng_eq (by omega), get_get [] (by omega), chk_eq (by omega)]
 obtain ⟨⟨k, b', y2, y3⟩, e, hk, hb', hbl⟩ := stroke_ok N (n := (T.length : Int) - 1) (b3 := y3) hbl (by omega)
 dsimp only at hb' hbl hk
 subst hb'
 rw [e]; simp only [Option.bind_some]
 rw [rng_eq (by omega), get_get [] (by omega)]
 have hp := hT (T.getD i.toNat []) (getD_mem (by omega))
 have hq := hT (T.getD k.toNat []) (getD_mem (by omega))
 obtain ⟨z2, z3, H, e, hbl, hH, hHl⟩ := made_l3_p (N := N) (heard := he) (many := many) (g := 0) (x := f) (T := T) (by omega) h3 N y2 y3 (T.getD i.toNat []) (T.getD k.toNat []) [] (by omega) (by omega) hp.1 hq.1 hbl InR.nil (by simp; omega)
 rw [e]; simp only [Option.bind_some]
 exact ⟨T, H, f, z2, z3, rfl, hbl, fun t ht => ⟨(hT t ht).1.mono (by omega) (by omega), (hT t ht).2⟩, by omega, hH.mono (by omega) (by omega), hHl, by omega, by omega⟩
end
end Go.Proofs.Ytfcnhnbnjdccfaa

namespace Go.Proofs.Ytfcnhnbnjdccfaa
set_option linter.all false
open Go

section
variable {N : Nat} {T : List (List Int)} {H : List Int} {f : Int}
def leastV (H A B : List Int) : Int := (A.length : Int) + B.length + H.length - 2 * (tv mayA H A B (0, 0, 0)).1
theorem tv_bnd (may : Nat → Int × Int → Bool) {H A B : List Int} (hA : A.length ≤ 6) (hB : B.length ≤ 6) : -1 ≤ (tv may H A B (0, 0, 0)).1 ∧ (tv may H A B (0, 0, 0)).1 ≤ H.length := by
 have := tvx_bnd may (H := H) hA hB (H.length - 0) (0, 0, 0)
 exact ⟨this.1, this.2.1⟩
theorem dfaults_v {A B : List Int} {t : Int} (hH : H.length ≤ 10) (hA : A.length ≤ 6) (hB : B.length ≤ 6) (ht : -1 ≤ t ∧ t ≤ 10) : dfaults_S N (T, H, f, A, B) t = some ((A.length : Int) + B.length + H.length - 2 * t) := by
 unfold dfaults_S
 rw [chk_eq (by dsimp only; omega), chk_eq (by dsimp only; omega), chk_eq (by omega), chk_eq (by dsimp only; omega)]
theorem eleast_v (hN : 20 ≤ N) (h : Fine T H f) {a b : Int} (ha : 0 ≤ a ∧ a < T.length) (hb : 0 ≤ b ∧ b < T.length) : eleast_S N T H f a b = some (leastV H (T.getD a.toNat []) (T.getD b.toNat [])) := by
 unfold eleast_S
 have la := h.l (T.getD a.toNat []) (getD_mem (by omega))
 have lb := h.l (T.getD b.toNat []) (getD_mem (by omega))
 have hH := h.h
 rw [idx_get [] ha.1 ha.2, idx_get [] hb.1 hb.2]
 simp only [all_S, Option.bind_some]
 rw [firsta_v (by omega) h.h la.2 lb.2]
 simp only [Option.bind_some]
 have := tv_bnd mayA (H := H) la.2 lb.2
 rw [dfaults_v h.h la.2 lb.2 (by omega)]
 rfl
theorem least_v (hN : 20 ≤ N) (h : Fine T H f) {a b : Int} (ha : 0 ≤ a ∧ a < T.length) (hb : 0 ≤ b ∧ b < T.length) : least_S N T H f a b = some (leastV H (T.getD a.toNat []) (T.getD b.toNat []), 0) := by
 unfold least_S
 obtain ⟨_, _, _, e⟩ := opened_good hN (h.open ha hb)
 rw [e]
 have la := h.l (T.getD a.toNat []) (getD_mem (by omega))
 have lb := h.l (T.getD b.toNat []) (getD_mem (by omega))
 have hH := h.h
 simp only [Option.bind_some, decide_true, Bool.not_true, br_false, all_S]
 rw [firsta_v (by omega) h.h la.2 lb.2]
 simp only [Option.bind_some]
 have := tv_bnd mayA (H := H) la.2 lb.2
 rw [dfaults_v h.h la.2 lb.2 (by omega)]
 rfl
/-! ### Pairs -/
def pE (T : List (List Int)) (H : List Int) (f : Int) (i j : Nat) : Bool := decide (leastV H (T.getD i []) (T.getD j []) ≤ f)
theorem epairs_l2_p (hN : 20 ≤ N) (h : Fine T H f) {a s : Nat} {u u2 : Int} {O : List (Int × Int)} (ha : a < T.length) (hO : O.length ≤ 1000) : ∀ (n k : Nat), T.length < n + k → s ≤ k → k ≤ T.length →
  epairs_l2 N n a k u u2 T H f (O ++ rowTo (pE T H f) a s k) = some (u, u2, T, H, f, O ++ rowTo (pE T H f) a s T.length)
 | 0, k, h1, h2, h3 => by omega
 | n + 1, k, h1, h2, h3 => by
  unfold epairs_l2
  have hT := h.n
  by_cases c : k < T.length
  ·rw [br_dec (by omega), eleast_v hN h (by omega) (by omega)]
   simp only [Option.bind_some, Int.toNat_natCast]
   have rl := rowTo_len (pE T H f) a s k
   have next := epairs_l2_p hN h (s := s) (u := u) (u2 := u2) ha hO n (k + 1) (by omega) (by omega) (by omega)
   rw [show ((k + 1 : Nat) : Int) = (k : Int) + 1 by omega] at next
   by_cases d : leastV H (T.getD a []) (T.getD k []) ≤ f
   ·rw [br_dec d, lim_eq (by simp; omega)]
    unfold epairs_j1
    rw [chk_eq (by omega), List.append_assoc, ← rowTo_yes h2 (by simpa [pE] using d)]
    exact next
   ·rw [br_ndec d]
    unfold epairs_j1
    rw [chk_eq (by omega), ← rowTo_no (p := pE T H f) (a := a) h2 (by simpa [pE] using d)]
    exact next
  ·have e : k = T.length := by omega
   rw [br_ndec (by omega), e]
theorem epairs_l1_p (hN : 20 ≤ N) (h : Fine T H f) : ∀ (n k : Nat), T.length < n + k → k ≤ T.length → epairs_l1 N n (T.length : Int) k T H f (allTo (pE T H f) T.length 0 k) = some (allTo (pE T H f) T.length 0 T.length)
 | 0, k, h1, h2 => by omega
 | n + 1, k, h1, h2 => by
  unfold epairs_l1
  have hT := h.n
  by_cases c : k < T.length
  ·have al := allTo_len (pE T H f) T.length 0 k
   have : k * T.length ≤ 5 * 5 := Nat.mul_le_mul (by omega) (by omega)
   rw [br_dec (by omega)]
   have e := epairs_l2_p (N := N) hN h (s := k) (u := (T.length : Int)) (u2 := (k : Int)) (O := allTo (pE T H f) T.length 0 k) c (by omega) N k (by omega) (by omega) (by omega)
   rw [rowTo_zero, List.append_nil] at e
   rw [e]
   simp only [Option.bind_some]
   rw [chk_eq (by omega)]
   have next := epairs_l1_p hN h n (k + 1) (by omega) (by omega)
   rw [allTo_succ, Nat.add_zero, show ((k + 1 : Nat) : Int) = (k : Int) + 1 by omega] at next
   exact next
  ·have e : k = T.length := by omega
   rw [br_ndec (by omega), e]
theorem epairs_v (hN : 20 ≤ N) (h : Fine T H f) : epairs_S N T H f = some (allTo (pE T H f) T.length 0 T.length) := by
 unfold epairs_S
 have hT := h.n
 have := epairs_l1_p (N := N) hN h N 0 (by omega) (by omega)
 rw [show allTo (pE T H f) T.length 0 0 = [] from rfl] at this
 rw [show ((0 : Nat) : Int) = 0 from rfl] at this
 rw [this]; rfl
theorem pairs_v (hN : 20 ≤ N) (h : Fine T H f) : pairs_S N T H f = some (allTo (pE T H f) T.length 0 T.length, 0) := by
 unfold pairs_S
 rw [check_v hN, h.check]
 simp only [Option.bind_some, decide_true, Bool.not_true, br_false]
 rw [epairs_v hN h]; rfl
/-! ### Confused texts -/
/-! ### Lists -/
theorem indexp_gen (N : Nat) (v v2 : Int) : ∀ (n : Nat) (s : List (Int × Int)) (u u2 : Int), indexp_l1 N n s u u2 v v2 = ixL (fun x => some (decide (v = x.1) && decide (v2 = x.2))) n s u u2
 | 0, _, _, _ => rfl
 | n + 1, s, u, u2 => by simp only [indexp_l1, ixL, indexp_gen N v v2 n, Option.bind_some]
theorem containsp_v {s : List (Int × Int)} {v v2 : Int} (hs : s.length ≤ 1000) (hN : s.length < N) : containsp_S N s v v2 = some (s.contains (v, v2)) := by
 have := ixS_any (f := fun x : Int × Int => some (decide (v = x.1) && decide (v2 = x.2))) (p := fun x => decide (v = x.1) && decide (v2 = x.2)) (s := s) (N := N) (fun _ _ => rfl) (by omega) hN
 unfold containsp_S
 have e : indexp_S N s v v2 = ixS (fun x : Int × Int => some (decide (v = x.1) && decide (v2 = x.2))) N s := by
  unfold indexp_S ixS
  rw [indexp_gen] <;> rfl
 rw [e, this]
 congr 1
 rw [Bool.eq_iff_iff, List.any_eq_true, List.contains_iff_mem]
 simp only [Bool.and_eq_true, decide_eq_true_eq]
 constructor
 ·rintro ⟨⟨a, b⟩, h, rfl, rfl⟩; exact h
 ·intro h; exact ⟨_, h, rfl, rfl⟩
end
end Go.Proofs.Ytfcnhnbnjdccfaa

namespace Go.Proofs.Ytfcnhnbnjdccfaa
set_option linter.all false
open Go

section
variable {N : Nat}
theorem Fine.of_txt {T : List (List Int)} {H : List Int} {f wo : Int} (h : Txt 4 wo T) (hw : wo ≤ 6) (hn : 1 ≤ (T.length : Int) ∧ (T.length : Int) ≤ 4) (hH : InR 0 4 H) (hl : (H.length : Int) ≤ 10) (hf : 0 ≤ f ∧ f ≤ 8) : Fine T H f :=
 ⟨by omega, by omega, fun x hx => by have := h x hx; omega, fun x hx => (h x hx).1.mono (by omega) (by omega), hH.mono (by omega) (by omega), hf⟩
theorem awake_v : awake_S 1100 = some true := by kernel_rfl
end
end Go.Proofs.Ytfcnhnbnjdccfaa

namespace Go.Proofs.Ytfcnhnbnjdccfaa
set_option linter.all false
open Go

/-! ### The greatest of several -/
theorem stepT_fst (h : Nat) (t : At3 → Int × Int) (best : Int × Int) (m : Mv) : (stepT mayA h t best m).1 = max best.1 (wT m.1.1 (t m.2).1) := by
 have : stepT mayA h t best m = (if best.1 < wT m.1.1 (t m.2).1 then (wT m.1.1 (t m.2).1, (t m.2).2) else if wT m.1.1 (t m.2).1 = best.1 then (best.1, best.2 + (t m.2).2) else best) := by unfold stepT; exact if_pos rfl
 rw [this]
 split
 ·first | omega | (dsimp only; omega)
 ·split <;> first | omega | (dsimp only; omega)
theorem fold_ge {h : Nat} {t : At3 → Int × Int} : ∀ (ms : List Mv) (best : Int × Int), best.1 ≤ (ms.foldl (stepT mayA h t) best).1 ∧ ∀ m ∈ ms, wT m.1.1 (t m.2).1 ≤ (ms.foldl (stepT mayA h t) best).1
 | [], best => ⟨Int.le_refl _, fun _ h => by cases h⟩
 | m :: ms, best => by
  obtain ⟨h1, h2⟩ := fold_ge (h := h) (t := t) ms (stepT mayA h t best m)
  rw [stepT_fst] at h1
  rw [List.foldl_cons]
  refine ⟨by omega, fun m' hm => ?_⟩
  rcases List.mem_cons.1 hm with rfl | hm
  ·omega
  ·exact h2 m' hm
/-! ### All words are told -/
inductive Told (H A B : List Int) : Nat → Nat → Nat → Prop
 | done (i k : Nat) : Told H A B H.length i k
 | ta {h i k j : Nat} (hh : h < H.length) (hij : i ≤ j) (hj : j < A.length) (e : A.getD j 0 = H.getD h 0) (t : Told H A B (h + 1) (j + 1) k) : Told H A B h i k
 | tb {h i k j : Nat} (hh : h < H.length) (hij : k ≤ j) (hj : j < B.length) (e : B.getD j 0 = H.getD h 0) (t : Told H A B (h + 1) i (j + 1)) : Told H A B h i k
theorem Told.mono {H A B : List Int} {h i k : Nat} (t : Told H A B h i k) : ∀ (i' k' : Nat), i' ≤ i → k' ≤ k → Told H A B h i' k' := by
 induction t with
 | done i k => intro i' k' _ _; exact .done i' k'
 | ta hh hij hj e _ ih => intro i' k' h1 h2; exact .ta hh (Nat.le_trans h1 hij) hj e (ih _ _ (Nat.le_refl _) h2)
 | tb hh hij hj e _ ih => intro i' k' h1 h2; exact .tb hh (Nat.le_trans h2 hij) hj e (ih _ _ h1 (Nat.le_refl _))
theorem Told.tv {H A B : List Int} {h i k : Nat} (t : Told H A B h i k) : ∀ n, H.length = h + n → (n : Int) ≤ (tvx mayA H A B n (h, i, k)).1 := by
 induction t with
 | done i k => intro n hn; have : n = 0 := by omega
               subst this; simp [tvx]
 | @ta h i k j hh hij hj e t ih =>
  intro n hn
  obtain ⟨n, rfl⟩ : ∃ m, n = m + 1 := ⟨n - 1, by omega⟩
  have := ih n (by omega)
  have g := (fold_ge (h := h) (t := tvx mayA H A B n) (movesL A B (H.getD h 0) (h, i, k)) (-1, 0)).2 ((1, (j : Int)), (h + 1, j + 1, k)) (by
   simp only [movesL, List.mem_cons, List.mem_append, List.mem_map]
   exact .inr (.inl ⟨j, mem_standsL.2 ⟨hij, hj, e⟩, rfl⟩))
  rw [tvx]
  dsimp only
  dsimp only [wT] at g
  rw [if_pos ⟨by omega, by decide⟩] at g
  omega
 | @tb h i k j hh hij hj e t ih =>
  intro n hn
  obtain ⟨n, rfl⟩ : ∃ m, n = m + 1 := ⟨n - 1, by omega⟩
  have := ih n (by omega)
  have g := (fold_ge (h := h) (t := tvx mayA H A B n) (movesL A B (H.getD h 0) (h, i, k)) (-1, 0)).2 ((2, (j : Int)), (h + 1, i, j + 1)) (by
   simp only [movesL, List.mem_cons, List.mem_append, List.mem_map]
   exact .inr (.inr ⟨j, mem_standsL.2 ⟨hij, hj, e⟩, rfl⟩))
  rw [tvx]
  dsimp only
  dsimp only [wT] at g
  rw [if_pos ⟨by omega, by decide⟩] at g
  omega
/-- Two texts run into each other, with words lost. -/
inductive Shuf : List Int → List Int → List Int → Prop
 | nil : Shuf [] [] []
 | skipA {S a b : List Int} (w : Int) (s : Shuf S a b) : Shuf S (w :: a) b
 | skipB {S a b : List Int} (w : Int) (s : Shuf S a b) : Shuf S a (w :: b)
 | takeA {S a b : List Int} (w : Int) (s : Shuf S a b) : Shuf (w :: S) (w :: a) b
 | takeB {S a b : List Int} (w : Int) (s : Shuf S a b) : Shuf (w :: S) a (w :: b)
theorem drop_step {l : List Int} {i : Nat} {w : Int} {r : List Int} (h : l.drop i = w :: r) : i < l.length ∧ l.getD i 0 = w ∧ l.drop (i + 1) = r := by
 have hi : i < l.length := by
  rcases Nat.lt_or_ge i l.length with h1 | h1
  ·exact h1
  ·rw [List.drop_of_length_le h1] at h; cases h
 rw [drop_cons hi] at h
 simp only [List.cons.injEq] at h
 exact ⟨hi, h.1, h.2⟩
theorem Shuf.told {H A B S a b : List Int} (s : Shuf S a b) : ∀ (h i k : Nat), h ≤ H.length → H.drop h = S → A.drop i = a → B.drop k = b → Told H A B h i k := by
 induction s with
 | nil =>
  intro h i k hh hS _ _
  have : h = H.length := by
   have := congrArg List.length hS
   rw [List.length_drop] at this
   simp at this; omega
  subst this; exact .done i k
 | skipA w s ih => intro h i k hh hS ha hb; obtain ⟨_, _, h3⟩ := drop_step ha; exact (ih h (i + 1) k hh hS h3 hb).mono _ _ (by omega) (Nat.le_refl _)
 | skipB w s ih => intro h i k hh hS ha hb; obtain ⟨_, _, h3⟩ := drop_step hb; exact (ih h i (k + 1) hh hS ha h3).mono _ _ (Nat.le_refl _) (by omega)
 | takeA w s ih =>
  intro h i k hh hS ha hb
  obtain ⟨h1, h2, h3⟩ := drop_step ha
  obtain ⟨g1, g2, g3⟩ := drop_step hS
  exact .ta g1 (Nat.le_refl _) h1 (by rw [h2, g2]) (ih (h + 1) (i + 1) k (by omega) g3 h3 hb)
 | takeB w s ih =>
  intro h i k hh hS ha hb
  obtain ⟨h1, h2, h3⟩ := drop_step hb
  obtain ⟨g1, g2, g3⟩ := drop_step hS
  exact .tb g1 (Nat.le_refl _) h1 (by rw [h2, g2]) (ih (h + 1) i (k + 1) (by omega) g3 ha h3)
theorem Shuf.len {S a b : List Int} (s : Shuf S a b) : S.length ≤ a.length + b.length := by
 induction s <;> simp only [List.length_cons, List.length_nil] at * <;> omega
theorem Shuf.least {S a b : List Int} (s : Shuf S a b) (ha : a.length ≤ 6) (hb : b.length ≤ 6) : leastV S a b = (a.length : Int) + b.length - S.length := by
 have t := (s.told (H := S) (A := a) (B := b) 0 0 0 (Nat.zero_le _) rfl rfl rfl).tv S.length (by omega)
 have := tv_bnd mayA (H := S) ha hb
 unfold leastV
 have e : (tvx mayA S a b S.length (0, 0, 0)).1 = (Proofs.Ytfcnhnbnjdccfaa.tv mayA S a b (0, 0, 0)).1 := rfl
 omega
end Go.Proofs.Ytfcnhnbnjdccfaa

namespace Go.Proofs.Ytfcnhnbnjdccfaa
set_option linter.all false
open Go

section
variable {N : Nat} {T : List (List Int)} {H : List Int} {f : Int}
theorem indexi_gen (N : Nat) (v : Int) : ∀ (n : Nat) (s : List Int) (u u2 : Int), indexi_l1 N n s v u u2 = ixL (fun x => some (decide (v = x))) n s u u2
 | 0, _, _, _ => rfl
 | n + 1, s, u, u2 => by simp only [indexi_l1, ixL, indexi_gen N v n, Option.bind_some]
end
end Go.Proofs.Ytfcnhnbnjdccfaa

namespace Go.Proofs.Ytfcnhnbnjdccfaa
set_option linter.all false
open Go

/-- Words of two texts are told in what was heard, between noise. -/
inductive Rd : List Int → List Int → List Int → Prop
 | nil : Rd [] [] []
 | noise (w : Int) {H a b : List Int} (s : Rd H a b) : Rd (w :: H) a b
 | ta (w : Int) {H a b : List Int} (s : Rd H a b) : Rd (w :: H) (w :: a) b
 | tb (w : Int) {H a b : List Int} (s : Rd H a b) : Rd (w :: H) a (w :: b)
theorem Rd.none : ∀ H : List Int, Rd H [] []
 | [] => .nil
 | w :: H => .noise w (Rd.none H)
theorem Rd.sub {H a b : List Int} (s : Rd H a b) : ∀ a' b' : List Int, a'.Sublist a → b'.Sublist b → Rd H a' b' := by
 induction s with
 | nil => intro a' b' ha hb; rw [List.sublist_nil.1 ha, List.sublist_nil.1 hb]; exact .nil
 | noise w s ih => intro a' b' ha hb; exact .noise w (ih a' b' ha hb)
 | ta w s ih =>
  intro a' b' ha hb
  cases ha with
  | cons _ h => exact .noise w (ih a' b' h hb)
  | cons_cons _ h => exact .ta w (ih _ b' h hb)
 | tb w s ih =>
  intro a' b' ha hb
  cases hb with
  | cons _ h => exact .noise w (ih a' b' ha h)
  | cons_cons _ h => exact .tb w (ih a' _ ha h)
theorem sub_at {A a : List Int} {w : Int} : ∀ (n i : Nat), A.length = i + n → (w :: a).Sublist (A.drop i) → ∃ j, i ≤ j ∧ j < A.length ∧ A.getD j 0 = w ∧ a.Sublist (A.drop (j + 1))
 | 0, i, h, hs => by rw [List.drop_of_length_le (by omega)] at hs; cases hs
 | n + 1, i, h, hs => by
  rw [drop_cons (by omega)] at hs
  cases hs with
  | cons _ h' =>
   obtain ⟨j, h1, h2, h3, h4⟩ := sub_at n (i + 1) (by omega) h'
   exact ⟨j, by omega, h2, h3, h4⟩
  | cons_cons _ h' => exact ⟨i, Nat.le_refl _, by omega, rfl, h'⟩
theorem tvx_ge (H A B : List Int) : ∀ (n h i k : Nat) (a b : List Int), H.length = h + n → Rd (H.drop h) a b → a.Sublist (A.drop i) → b.Sublist (B.drop k) → ((a.length : Int) + b.length) ≤ (tvx mayA H A B n (h, i, k)).1
 | 0, h, i, k, a, b, hn, s, _, _ => by
  rw [List.drop_of_length_le (by omega)] at s
  cases s; simp [tvx]
 | n + 1, h, i, k, a, b, hn, s, ha, hb => by
  rw [drop_cons (by omega)] at s
  have g := (fold_ge (h := h) (t := tvx mayA H A B n) (movesL A B (H.getD h 0) (h, i, k)) (-1, 0)).2
  rw [tvx]
  dsimp only
  cases s with
  | noise _ s =>
   have := tvx_ge H A B n (h + 1) i k a b (by omega) s ha hb
   have g1 := g ((3, 0), (h + 1, i, k)) (by simp [movesL])
   have e : ∀ w : Int, wT 3 w = w := fun w => by simp [wT]
   dsimp only at g1
   rw [e] at g1
   omega
  | ta _ s =>
   obtain ⟨j, h1, h2, h3, h4⟩ := sub_at (A.length - i) i (by have := ha.length_le; simp at this; omega) ha
   have := tvx_ge H A B n (h + 1) (j + 1) k _ b (by omega) s h4 hb
   have g1 := g ((1, (j : Int)), (h + 1, j + 1, k)) (by
    simp only [movesL, List.mem_cons, List.mem_append, List.mem_map]
    exact .inr (.inl ⟨j, mem_standsL.2 ⟨h1, h2, h3⟩, rfl⟩))
   dsimp only [wT] at g1
   rw [if_pos ⟨by omega, by decide⟩] at g1
   simp only [List.length_cons]
   omega
  | tb _ s =>
   obtain ⟨j, h1, h2, h3, h4⟩ := sub_at (B.length - k) k (by have := hb.length_le; simp at this; omega) hb
   have := tvx_ge H A B n (h + 1) i (j + 1) a _ (by omega) s ha h4
   have g1 := g ((2, (j : Int)), (h + 1, i, j + 1)) (by
    simp only [movesL, List.mem_cons, List.mem_append, List.mem_map]
    exact .inr (.inr ⟨j, mem_standsL.2 ⟨h1, h2, h3⟩, rfl⟩))
   dsimp only [wT] at g1
   rw [if_pos ⟨by omega, by decide⟩] at g1
   simp only [List.length_cons]
   omega
theorem fold_has {h : Nat} {t : At3 → Int × Int} : ∀ (ms : List Mv) (best : Int × Int), (ms.foldl (stepT mayA h t) best).1 = best.1 ∨ ∃ m ∈ ms, (ms.foldl (stepT mayA h t) best).1 = wT m.1.1 (t m.2).1
 | [], best => .inl rfl
 | m :: ms, best => by
  rw [List.foldl_cons]
  rcases fold_has (h := h) (t := t) ms (stepT mayA h t best m) with h1 | ⟨m', hm, h1⟩
  ·rw [stepT_fst] at h1
   rcases Int.le_total best.1 (wT m.1.1 (t m.2).1) with h2 | h2
   ·exact .inr ⟨m, by simp, by omega⟩
   ·exact .inl (by omega)
  ·exact .inr ⟨m', by simp [hm], h1⟩
theorem tvx_nonneg (H A B : List Int) {n h i k : Nat} (hn : H.length = h + n) : 0 ≤ (tvx mayA H A B n (h, i, k)).1 := by
 have := tvx_ge H A B n h i k [] [] hn (Rd.none _) (List.nil_sublist _) (List.nil_sublist _)
 simpa using this
theorem tvx_has (H A B : List Int) : ∀ (n h i k : Nat), H.length = h + n → ∃ a b, Rd (H.drop h) a b ∧ a.Sublist (A.drop i) ∧ b.Sublist (B.drop k) ∧ ((a.length : Int) + b.length) = (tvx mayA H A B n (h, i, k)).1
 | 0, h, i, k, hn => ⟨[], [], by rw [List.drop_of_length_le (by omega)]; exact .nil, List.nil_sublist _, List.nil_sublist _, by simp [tvx]⟩
 | n + 1, h, i, k, hn => by
  have nn := tvx_nonneg H A B (i := i) (k := k) hn
  rw [tvx] at nn ⊢
  dsimp only at nn ⊢
  rw [drop_cons (a := H) (by omega)]
  rcases fold_has (h := h) (t := tvx mayA H A B n) (movesL A B (H.getD h 0) (h, i, k)) (-1, 0) with h1 | ⟨m, hm, h1⟩
  ·rw [h1] at nn; exact absurd nn (by decide)
  ·rw [h1]
   simp only [movesL, List.mem_cons, List.mem_append, List.mem_map] at hm
   rcases hm with rfl | ⟨j, hj, rfl⟩ | ⟨j, hj, rfl⟩
   ·obtain ⟨a, b, s, ha, hb, e⟩ := tvx_has H A B n (h + 1) i k (by omega)
    have e3 : ∀ w : Int, wT 3 w = w := fun w => by simp [wT]
    exact ⟨a, b, .noise _ s, ha, hb, by rw [e3]; exact e⟩
   ·obtain ⟨a, b, s, ha, hb, e⟩ := tvx_has H A B n (h + 1) (j + 1) k (by omega)
    obtain ⟨j1, j2, j3⟩ := mem_standsL.1 hj
    have h0 := tvx_nonneg H A B (n := n) (h := h + 1) (i := j + 1) (k := k) (by omega)
    refine ⟨H.getD h 0 :: a, b, .ta _ s, ?_, hb, ?_⟩
    ·have s1 : (H.getD h 0 :: a).Sublist (A.drop j) := by rw [drop_cons j2, j3]; exact ha.cons_cons _
     have : A.drop j = (A.drop i).drop (j - i) := by rw [List.drop_drop]; congr 1; omega
     rw [this] at s1
     exact s1.trans (List.drop_sublist _ _)
    ·dsimp only [wT]
     rw [if_pos ⟨by omega, by decide⟩]
     simp only [List.length_cons]; omega
   ·obtain ⟨a, b, s, ha, hb, e⟩ := tvx_has H A B n (h + 1) i (j + 1) (by omega)
    obtain ⟨j1, j2, j3⟩ := mem_standsL.1 hj
    have h0 := tvx_nonneg H A B (n := n) (h := h + 1) (i := i) (k := j + 1) (by omega)
    refine ⟨a, H.getD h 0 :: b, .tb _ s, ha, ?_, ?_⟩
    ·have s1 : (H.getD h 0 :: b).Sublist (B.drop j) := by rw [drop_cons j2, j3]; exact hb.cons_cons _
     have : B.drop j = (B.drop k).drop (j - k) := by rw [List.drop_drop]; congr 1; omega
     rw [this] at s1
     exact s1.trans (List.drop_sublist _ _)
    ·dsimp only [wT]
     rw [if_pos ⟨by omega, by decide⟩]
     simp only [List.length_cons]; omega
/-- The most words that are told. -/
theorem leastV_le {H A B a b : List Int} (s : Rd H a b) (ha : a.Sublist A) (hb : b.Sublist B) : leastV H A B ≤ (A.length : Int) + B.length + H.length - 2 * (a.length + b.length) := by
 have := tvx_ge H A B H.length 0 0 0 a b (by omega) s ha hb
 have e : (tvx mayA H A B H.length (0, 0, 0)).1 = (tv mayA H A B (0, 0, 0)).1 := rfl
 unfold leastV
 omega
theorem leastV_has (H A B : List Int) : ∃ a b, Rd H a b ∧ a.Sublist A ∧ b.Sublist B ∧ leastV H A B = (A.length : Int) + B.length + H.length - 2 * (a.length + b.length) := by
 obtain ⟨a, b, s, ha, hb, h⟩ := tvx_has H A B H.length 0 0 0 (by omega)
 have e : (tvx mayA H A B H.length (0, 0, 0)).1 = (tv mayA H A B (0, 0, 0)).1 := rfl
 refine ⟨a, b, s, ha, hb, ?_⟩
 unfold leastV
 omega
/-- A word more. -/
theorem Rd.more (w : Int) {H a b : List Int} (s : Rd H a b) : ∀ p : Nat, Rd (H.take p ++ w :: H.drop p) a b := by
 induction s with
 | nil => intro p; cases p <;> simpa using Rd.noise w .nil
 | noise v s ih =>
  intro p; cases p with
  | zero => exact .noise w (.noise v s)
  | succ p => exact .noise v (ih p)
 | ta v s ih =>
  intro p; cases p with
  | zero => exact .noise w (.ta v s)
  | succ p => exact .ta v (ih p)
 | tb v s ih =>
  intro p; cases p with
  | zero => exact .noise w (.tb v s)
  | succ p => exact .tb v (ih p)
end Go.Proofs.Ytfcnhnbnjdccfaa

namespace Go.Proofs.Ytfcnhnbnjdccfaa
set_option linter.all false
open Go

def lfaults_j1 (N : Nat) (rec : Qi → Qe → Qe → Int → Int → Int → Qi → Int → Int → Qj → Qe → Int → Option ((Unit) ⊕ ((Unit) ⊕ Qn))) (l : List Qc) (a : List Int) (b : List Int) (n : Int) (i : Int) (k : Int) (u : List Qc) (u2 : Int) (u3 : Int) (x : List Qe) (x2 : List Int) (x3 : Int) : Option ((Unit) ⊕ ((Unit) ⊕ Qn)) :=
 chk (u3 + 1) <|
 rec l a b n i k u u2 (u3 + 1) x x2 x3
def lfaults_l1 (N : Nat) : Nat → Qi → Qe → Qe → Int → Int → Int → Qi → Int → Int → Qj → Qe → Int → Option ((Unit) ⊕ ((Unit) ⊕ Qn))
 | 0, _, _, _, _, _, _, _, _, _, _, _, _ => none
 | n_ + 1, l, a, b, n, i, k, u, u2, u3, x, x2, x3 =>
  br (decide (u3 < u2))
   (idx u u3 fun x_3 =>
   br (decide ((x2.length : Int) ≤ u3))
    (some (.inl ()))
    (br (decide (x_3.1 = 3) && decide (x_3.2 = 0))
     (chk (n + 1) <|
     lfaults_j1 N (lfaults_l1 N n_) l a b (n + 1) i k u u2 u3 x x2 x3)
     (br (decide (x_3.1 = 1))
      (br (decide (i ≤ x_3.2))
       (br (decide (x_3.2 < (a.length : Int)))
        (idx a x_3.2 fun x_4 =>
        idx x2 u3 fun x_5 =>
        br (decide (x_4 = x_5))
         (chk (n - 1) <|
         chk (x_3.2 + 1) <|
         lfaults_j1 N (lfaults_l1 N n_) l a b (n - 1) (x_3.2 + 1) k u u2 u3 x x2 x3)
         (br (decide (x_3.1 = 2))
          (br (decide (k ≤ x_3.2))
           (br (decide (x_3.2 < (b.length : Int)))
            (idx b x_3.2 fun x_6 =>
            idx x2 u3 fun x_7 =>
            br (decide (x_6 = x_7))
             (chk (n - 1) <|
             chk (x_3.2 + 1) <|
             lfaults_j1 N (lfaults_l1 N n_) l a b (n - 1) i (x_3.2 + 1) u u2 u3 x x2 x3)
             (some (.inr (.inl ()))))
            (some (.inr (.inl ()))))
           (some (.inr (.inl ()))))
          (some (.inr (.inl ())))))
        (br (decide (x_3.1 = 2))
         (br (decide (k ≤ x_3.2))
          (br (decide (x_3.2 < (b.length : Int)))
           (idx b x_3.2 fun x_8 =>
           idx x2 u3 fun x_9 =>
           br (decide (x_8 = x_9))
            (chk (n - 1) <|
            chk (x_3.2 + 1) <|
            lfaults_j1 N (lfaults_l1 N n_) l a b (n - 1) i (x_3.2 + 1) u u2 u3 x x2 x3)
            (some (.inr (.inl ()))))
           (some (.inr (.inl ()))))
          (some (.inr (.inl ()))))
         (some (.inr (.inl ())))))
       (br (decide (x_3.1 = 2))
        (br (decide (k ≤ x_3.2))
         (br (decide (x_3.2 < (b.length : Int)))
          (idx b x_3.2 fun x_10 =>
          idx x2 u3 fun x_11 =>
          br (decide (x_10 = x_11))
           (chk (n - 1) <|
           chk (x_3.2 + 1) <|
           lfaults_j1 N (lfaults_l1 N n_) l a b (n - 1) i (x_3.2 + 1) u u2 u3 x x2 x3)
           (some (.inr (.inl ()))))
          (some (.inr (.inl ()))))
         (some (.inr (.inl ()))))
        (some (.inr (.inl ())))))
      (br (decide (x_3.1 = 2))
       (br (decide (k ≤ x_3.2))
        (br (decide (x_3.2 < (b.length : Int)))
         (idx b x_3.2 fun x_12 =>
         idx x2 u3 fun x_13 =>
         br (decide (x_12 = x_13))
          (chk (n - 1) <|
          chk (x_3.2 + 1) <|
          lfaults_j1 N (lfaults_l1 N n_) l a b (n - 1) i (x_3.2 + 1) u u2 u3 x x2 x3)
          (some (.inr (.inl ()))))
         (some (.inr (.inl ()))))
        (some (.inr (.inl ()))))
       (some (.inr (.inl ())))))))
   (some (.inr (.inr (l, n, x, x2, x3))))
def lfaults_S (N : Nat) (x : List Qe) (x2 : List Int) (x3 : Int) (p : Int) (p2 : Int) (l : List Qc) : Option (Int × Bool) :=
 idx x p fun x_1 =>
 idx x p2 fun x_2 =>
 chk ((x_1.length : Int) + (x_2.length : Int)) <|
 (lfaults_l1 N N l x_1 x_2 ((x_1.length : Int) + (x_2.length : Int)) 0 0 l (l.length : Int) 0 x x2 x3).bind fun e => match e with
 | .inl _ =>
  some (0, false)
 | .inr (.inl _) =>
  some (0, false)
 | .inr (.inr (l_14, n_15, x_16, x2_17, x3_18)) =>
  some (n_15, (decide ((l_14.length : Int) = (x2_17.length : Int))))
noncomputable def lfaults_sp (N : Nat) : List Spec := []
theorem lfaults_all (N : Nat) : AllP (SpecOK Try.prog) (lfaults_sp N) := trivial
noncomputable def lfaults_c : Code := (Try.f36.body).getD .skip
noncomputable abbrev lfaults_B : Body := { c := lfaults_c, n := 129, res := [.tmp 6, .tmp 7], outs := [⟨[.i .i64, .b], []⟩], m0 := 0 }
abbrev lfaults_rt : altD lfaults_B.outs → Option (Int × Bool) := fun r => some (r.1.1, r.1.2.1)
abbrev lfaults_l1_at : List PI := [.c [1, 1, 1, 0, 1, 0, 0, 0], .c [1, 1, 1, 0, 1, 0, 0, 1], .l [1, 1, 1, 0, 1, 0, 0], .b 0, .c [1, 1, 1, 1]]
abbrev lfaults_l1_st : Sta := ⟨[2, 3, 8, 9, 10, 11, 12, 32, 33, 34], ⟨[.sl Qd, .own 0 0, .sl (.int .i64), .sl (.int .i64), .i .i64, .i .i64, .i .i64, .sl Qd, .i .i64, .i .i64], [.segs [.sl Qf, .sl (.int .i64), .i .i64]]⟩⟩
abbrev lfaults_l1_h (rec : Qi → Qe → Qe → Int → Int → Int → Qi → Int → Int → Qj → Qe → Int → Option ((Unit) ⊕ ((Unit) ⊕ Qn))) : Leaf ((Unit) ⊕ ((Unit) ⊕ Qn)) := ⟨lfaults_l1_at, lfaults_l1_st, fun p => rec p.1.1 p.1.2.2.1 p.1.2.2.2.1 p.1.2.2.2.2.1 p.1.2.2.2.2.2.1 p.1.2.2.2.2.2.2.1 p.1.2.2.2.2.2.2.2.1 p.1.2.2.2.2.2.2.2.2.1 p.1.2.2.2.2.2.2.2.2.2.1 p.2.1.1 p.2.1.2.1 p.2.1.2.2.1⟩
abbrev lfaults_l1_e0 : Leaf ((Unit) ⊕ ((Unit) ⊕ Qn)) := ⟨[.c [1, 1, 1, 0, 1, 0, 0, 1, 1, 0, 0, 1, 0, 1, 0, 0], .c [1, 1, 1, 0, 1, 0, 0, 1, 1, 0, 0, 1, 0, 1, 0, 1], .b 2, .b 1, .c [1, 1, 1, 0, 1, 0, 0, 1, 1, 1], .l [1, 1, 1, 0, 1, 0, 0], .b 0, .c [1, 1, 1, 1]], ⟨[], ⟨[], []⟩⟩, fun p => some (.inl ())⟩
abbrev lfaults_l1_e1 : Leaf ((Unit) ⊕ ((Unit) ⊕ Qn)) := ⟨[.c [1, 1, 1, 0, 1, 0, 0, 1, 1, 0, 0, 1, 0, 1, 1, 1, 1, 1, 1, 1, 1, 0], .c [1, 1, 1, 0, 1, 0, 0, 1, 1, 0, 0, 1, 0, 1, 1, 1, 1, 1, 1, 1, 1, 1], .b 2, .b 1, .c [1, 1, 1, 0, 1, 0, 0, 1, 1, 1], .l [1, 1, 1, 0, 1, 0, 0], .b 0, .c [1, 1, 1, 1]], ⟨[], ⟨[], []⟩⟩, fun p => some (.inr (.inl ()))⟩
abbrev lfaults_l1_e2 : Leaf ((Unit) ⊕ ((Unit) ⊕ Qn)) := ⟨[.c [1, 1, 1, 1, 0], .c [1, 1, 1, 1, 1]], ⟨[2, 3, 10], ⟨[.sl Qd, .own 0 0, .i .i64], [.segs [.sl Qf, .sl (.int .i64), .i .i64]]⟩⟩, fun p => some (.inr (.inr (p.1.1, p.1.2.2.1, p.2.1.1, p.2.1.2.1, p.2.1.2.2.1)))⟩
abbrev lfaults_j1_at : List PI := [.c [1, 1, 1, 0, 1, 0, 0, 1, 1, 1], .l [1, 1, 1, 0, 1, 0, 0], .b 0, .c [1, 1, 1, 1]]
abbrev lfaults_j1_st : Sta := ⟨[2, 3, 8, 9, 10, 11, 12, 32, 33, 34], ⟨[.sl Qd, .own 0 0, .sl (.int .i64), .sl (.int .i64), .i .i64, .i .i64, .i .i64, .sl Qd, .i .i64, .i .i64], [.segs [.sl Qf, .sl (.int .i64), .i .i64]]⟩⟩
abbrev lfaults_j1_k (N : Nat) (rec : Qi → Qe → Qe → Int → Int → Int → Qi → Int → Int → Qj → Qe → Int → Option ((Unit) ⊕ ((Unit) ⊕ Qn))) : Leaf ((Unit) ⊕ ((Unit) ⊕ Qn)) := ⟨lfaults_j1_at, lfaults_j1_st, fun p => lfaults_j1 N rec p.1.1 p.1.2.2.1 p.1.2.2.2.1 p.1.2.2.2.2.1 p.1.2.2.2.2.2.1 p.1.2.2.2.2.2.2.1 p.1.2.2.2.2.2.2.2.1 p.1.2.2.2.2.2.2.2.2.1 p.1.2.2.2.2.2.2.2.2.2.1 p.2.1.1 p.2.1.2.1 p.2.1.2.2.1⟩
theorem lfaults_j1_eq (N : Nat) (rec : Qi → Qe → Qe → Int → Int → Int → Qi → Int → Int → Qj → Qe → Int → Option ((Unit) ⊕ ((Unit) ⊕ Qn))) (l : List Qc) (a : List Int) (b : List Int) (n : Int) (i : Int) (k : Int) (u : List Qc) (u2 : Int) (u3 : Int) (x : List Qe) (x2 : List Int) (x3 : Int) : ev (Z := (Unit) ⊕ ((Unit) ⊕ Qn)) Try.prog (lfaults_sp N) lfaults_B [] [lfaults_l1_h rec, lfaults_l1_e0, lfaults_l1_e1, lfaults_l1_e2] none 400 true lfaults_j1_at (stL lfaults_j1_st ((l, (), a, b, n, i, k, u, u2, u3, ()), ((x, x2, x3, ()), ()))) (stH lfaults_j1_st ((l, (), a, b, n, i, k, u, u2, u3, ()), ((x, x2, x3, ()), ()))) = lfaults_j1 N rec l a b n i k u u2 u3 x x2 x3 := by kernel_rfl
theorem lfaults_j1_lf (N : Nat) (rec : Qi → Qe → Qe → Int → Int → Int → Qi → Int → Int → Qj → Qe → Int → Option ((Unit) ⊕ ((Unit) ⊕ Qn))) {z : (Unit) ⊕ ((Unit) ⊕ Qn)} {top : Bool} {E : EE} {Xc : Ctx} (hE : EOK lfaults_B.m0 E) (hX : CxOK top Xc) (hrec : LeafOK Try.prog lfaults_B.c lfaults_B.n lfaults_B.m0 E Xc z (lfaults_l1_h rec)) (h0 : LeafOK Try.prog lfaults_B.c lfaults_B.n lfaults_B.m0 E Xc z lfaults_l1_e0) (h1 : LeafOK Try.prog lfaults_B.c lfaults_B.n lfaults_B.m0 E Xc z lfaults_l1_e1) (h2 : LeafOK Try.prog lfaults_B.c lfaults_B.n lfaults_B.m0 E Xc z lfaults_l1_e2) : LeafOK Try.prog lfaults_B.c lfaults_B.n lfaults_B.m0 E Xc z (lfaults_j1_k N rec) := leaf_of_ev (B := lfaults_B) (loops := []) (leaves := [lfaults_l1_h rec, lfaults_l1_e0, lfaults_l1_e1, lfaults_l1_e2]) (lfaults_all N) mixed trivial hE hX ⟨hrec, h0, h1, h2, trivial⟩ RetOK.no (fun p => lfaults_j1_eq N rec p.1.1 p.1.2.2.1 p.1.2.2.2.1 p.1.2.2.2.2.1 p.1.2.2.2.2.2.1 p.1.2.2.2.2.2.2.1 p.1.2.2.2.2.2.2.2.1 p.1.2.2.2.2.2.2.2.2.1 p.1.2.2.2.2.2.2.2.2.2.1 p.2.1.1 p.2.1.2.1 p.2.1.2.2.1)
noncomputable def lfaults_l1_L (N : Nat) : LoopS := { at_ := lfaults_l1_at, sta := lfaults_l1_st, exits := [([.c [1, 1, 1, 0, 1, 0, 0, 1, 1, 0, 0, 1, 0, 1, 0, 0], .c [1, 1, 1, 0, 1, 0, 0, 1, 1, 0, 0, 1, 0, 1, 0, 1], .b 2, .b 1, .c [1, 1, 1, 0, 1, 0, 0, 1, 1, 1], .l [1, 1, 1, 0, 1, 0, 0], .b 0, .c [1, 1, 1, 1]], ⟨[], ⟨[], []⟩⟩), ([.c [1, 1, 1, 0, 1, 0, 0, 1, 1, 0, 0, 1, 0, 1, 1, 1, 1, 1, 1, 1, 1, 0], .c [1, 1, 1, 0, 1, 0, 0, 1, 1, 0, 0, 1, 0, 1, 1, 1, 1, 1, 1, 1, 1, 1], .b 2, .b 1, .c [1, 1, 1, 0, 1, 0, 0, 1, 1, 1], .l [1, 1, 1, 0, 1, 0, 0], .b 0, .c [1, 1, 1, 1]], ⟨[], ⟨[], []⟩⟩), ([.c [1, 1, 1, 1, 0], .c [1, 1, 1, 1, 1]], ⟨[2, 3, 10], ⟨[.sl Qd, .own 0 0, .i .i64], [.segs [.sl Qf, .sl (.int .i64), .i .i64]]⟩⟩)], run := fun p k => (lfaults_l1 N N p.1.1 p.1.2.2.1 p.1.2.2.2.1 p.1.2.2.2.2.1 p.1.2.2.2.2.2.1 p.1.2.2.2.2.2.2.1 p.1.2.2.2.2.2.2.2.1 p.1.2.2.2.2.2.2.2.2.1 p.1.2.2.2.2.2.2.2.2.2.1 p.2.1.1 p.2.1.2.1 p.2.1.2.2.1).bind fun e => match e with | .inl x => k (.inl ((), ())) | .inr (.inl x) => k (.inr (.inl ((), ()))) | .inr (.inr x) => k (.inr (.inr (.inl ((x.1, (), x.2.1, ()), ((x.2.2.1, x.2.2.2.1, x.2.2.2.2, ()), ()))))) }
theorem lfaults_l1_eq (N n_ : Nat) (l : List Qc) (a : List Int) (b : List Int) (n : Int) (i : Int) (k : Int) (u : List Qc) (u2 : Int) (u3 : Int) (x : List Qe) (x2 : List Int) (x3 : Int) : ev (Z := (Unit) ⊕ ((Unit) ⊕ Qn)) Try.prog (lfaults_sp N) lfaults_B [] [lfaults_l1_h (lfaults_l1 N n_), lfaults_l1_e0, lfaults_l1_e1, lfaults_l1_e2, lfaults_j1_k N (lfaults_l1 N n_)] none 400 true lfaults_l1_at (stL lfaults_l1_st ((l, (), a, b, n, i, k, u, u2, u3, ()), ((x, x2, x3, ()), ()))) (stH lfaults_l1_st ((l, (), a, b, n, i, k, u, u2, u3, ()), ((x, x2, x3, ()), ()))) = lfaults_l1 N (n_ + 1) l a b n i k u u2 u3 x x2 x3 := by kernel_rfl
theorem lfaults_l1_ok (N : Nat) {top : Bool} : LoopOK Try.prog lfaults_B.c lfaults_B.n lfaults_B.m0 top (lfaults_l1_L N) := loop_of_ev (Z := (Unit) ⊕ ((Unit) ⊕ Qn)) (N := N) (fun m p => lfaults_l1 N m p.1.1 p.1.2.2.1 p.1.2.2.2.1 p.1.2.2.2.2.1 p.1.2.2.2.2.2.1 p.1.2.2.2.2.2.2.1 p.1.2.2.2.2.2.2.2.1 p.1.2.2.2.2.2.2.2.2.1 p.1.2.2.2.2.2.2.2.2.2.1 p.2.1.1 p.2.1.2.1 p.2.1.2.2.1) (fun e => match e with | .inl x => .inl ((), ()) | .inr (.inl x) => .inr (.inl ((), ())) | .inr (.inr x) => .inr (.inr (.inl ((x.1, (), x.2.1, ()), ((x.2.2.1, x.2.2.2.1, x.2.2.2.2, ()), ()))))) (fun _ p k => bind_congr_ (lfaults_l1 N N p.1.1 p.1.2.2.1 p.1.2.2.2.1 p.1.2.2.2.2.1 p.1.2.2.2.2.2.1 p.1.2.2.2.2.2.2.1 p.1.2.2.2.2.2.2.2.1 p.1.2.2.2.2.2.2.2.2.1 p.1.2.2.2.2.2.2.2.2.2.1 p.2.1.1 p.2.1.2.1 p.2.1.2.2.1) _ _ (fun e => by rcases e with x | x | x <;> rfl)) (fun _ => rfl) (fun m z E Xc hE hX hrec hx => leaf_of_ev (B := lfaults_B) (loops := []) (leaves := [lfaults_l1_h (lfaults_l1 N m), lfaults_l1_e0, lfaults_l1_e1, lfaults_l1_e2, lfaults_j1_k N (lfaults_l1 N m)]) (lfaults_all N) mixed trivial hE hX ⟨hrec, (fun p hp => by obtain rfl := Option.some.inj hp; exact hx), (fun p hp => by obtain rfl := Option.some.inj hp; exact hx), (fun p hp => by obtain rfl := Option.some.inj hp; exact hx), lfaults_j1_lf N _ hE hX hrec (fun p hp => by obtain rfl := Option.some.inj hp; exact hx) (fun p hp => by obtain rfl := Option.some.inj hp; exact hx) (fun p hp => by obtain rfl := Option.some.inj hp; exact hx), trivial⟩ RetOK.no (fun p => lfaults_l1_eq N m p.1.1 p.1.2.2.1 p.1.2.2.2.1 p.1.2.2.2.2.1 p.1.2.2.2.2.2.1 p.1.2.2.2.2.2.2.1 p.1.2.2.2.2.2.2.2.1 p.1.2.2.2.2.2.2.2.2.1 p.1.2.2.2.2.2.2.2.2.2.1 p.2.1.1 p.2.1.2.1 p.2.1.2.2.1))
abbrev lfaults_st : Sta := ⟨[0, 1, 2], ⟨[.agg [.sl Qf, .sl (.int .i64), .i .i64], .agg [.i .i64, .i .i64], .sl Qd], []⟩⟩
theorem lfaults_eq (N : Nat) (x : List Qe) (x2 : List Int) (x3 : Int) (p : Int) (p2 : Int) (l : List Qc) : ev (Z := Int × Bool) Try.prog (lfaults_sp N) lfaults_B [lfaults_l1_L N] [] (some lfaults_rt) 400 false [.c [0], .c [1]] (stL lfaults_st (((x, x2, x3, ()), (p, p2, ()), l, ()), ())) (stH lfaults_st (((x, x2, x3, ()), (p, p2, ()), l, ()), ())) = lfaults_S N x x2 x3 p p2 l := by kernel_rfl
noncomputable def sp_lfaults (N : Nat) : Spec := { f := 36, ins := ⟨[.agg [.sl Qf, .sl (.int .i64), .i .i64], .agg [.i .i64, .i .i64], .sl Qd], []⟩, outs := [⟨[.i .i64, .b], []⟩], run := fun p k => (lfaults_S N p.1.1.1 p.1.1.2.1 p.1.1.2.2.1 p.1.2.1.1 p.1.2.1.2.1 p.1.2.2.1).bind fun r => k ((r.1, r.2, ()), ()) }
theorem sp_lfaults_ok (N : Nat) : SpecOK Try.prog (sp_lfaults N) := fn_sound (B := lfaults_B) (loops := [lfaults_l1_L N]) (leaves := []) (fun p => lfaults_S N p.1.1.1 p.1.1.2.1 p.1.1.2.2.1 p.1.2.1.1 p.1.2.1.2.1 p.1.2.2.1) (fun r => ((r.1, r.2, ()), ())) lfaults_rt (fun _ _ _ => rfl) (fun r z h => by cases h; rfl) Try.func36 (by kernel_rfl) (by kernel_rfl) (by kernel_rfl) rfl rfl (by kernel_rfl) (fun args w => Sem.pv_run _ _ _ (by kernel_rfl) w) (lfaults_all N) mixed ⟨lfaults_l1_ok N, trivial⟩ (fun z E Xc hE hX hret => trivial) (fun p => lfaults_eq N p.1.1.1 p.1.1.2.1 p.1.1.2.2.1 p.1.2.1.1 p.1.2.1.2.1 p.1.2.2.1)

def tried_j1 (N : Nat) (rec : Int → Int → Qe → Int → Int → Qe → Int → Int → Qj → Qe → Int → Int → Int → Qi → Option (List Int × Int × Int × Qi)) (i : Int) (k : Int) (u : List Int) (u2 : Int) (u3 : Int) (b : List Int) (b2 : Int) (b3 : Int) (x : List Qe) (x2 : List Int) (x3 : Int) (p : Int) (p2 : Int) (out : List Qc) (q : Int) (q2 : Int) : Option (List Int × Int × Int × Qi) :=
 lim (out.length + [(q, q2)].length) <|
 chk (u3 + 1) <|
 rec i k u u2 (u3 + 1) b b2 b3 x x2 x3 p p2 (out ++ [(q, q2)])
def tried_l1 (N : Nat) : Nat → Int → Int → Qe → Int → Int → Qe → Int → Int → Qj → Qe → Int → Int → Int → Qi → Option (List Int × Int × Int × Qi)
 | 0, _, _, _, _, _, _, _, _, _, _, _, _, _, _ => none
 | n_ + 1, i, k, u, u2, u3, b, b2, b3, x, x2, x3, p, p2, out =>
  br (decide (u3 < u2))
   (idx u u3 fun x_1 =>
   idx x p fun x_2 =>
   grd (decide ((0 : Int) ≤ i ∧ i ≤ (x_2.length : Int))) <|
   (indexi_S N (x_2.drop i.toNat) x_1).bind fun x_3 =>
   idx x p2 fun x_4 =>
   grd (decide ((0 : Int) ≤ k ∧ k ≤ (x_4.length : Int))) <|
   (indexi_S N (x_4.drop k.toNat) x_1).bind fun x_5 =>
   br (decide (0 ≤ x_3))
    (br (decide (x_5 < 0))
     ((seldom_S N 6 b b2 b3).bind fun (x_6, y_7, y_8, y_9) =>
     br (!x_6)
      (chk (i + x_3) <|
      chk ((i + x_3) + 1) <|
      tried_j1 N (tried_l1 N n_) ((i + x_3) + 1) k u u2 u3 y_7 y_8 y_9 x x2 x3 p p2 out 1 (i + x_3))
      (br (decide (0 ≤ x_5))
       ((seldom_S N 6 y_7 y_8 y_9).bind fun (x_10, y_11, y_12, y_13) =>
       br (!x_10)
        (chk (k + x_5) <|
        chk ((k + x_5) + 1) <|
        tried_j1 N (tried_l1 N n_) i ((k + x_5) + 1) u u2 u3 y_11 y_12 y_13 x x2 x3 p p2 out 2 (k + x_5))
        (tried_j1 N (tried_l1 N n_) i k u u2 u3 y_11 y_12 y_13 x x2 x3 p p2 out 3 0))
       (tried_j1 N (tried_l1 N n_) i k u u2 u3 y_7 y_8 y_9 x x2 x3 p p2 out 3 0)))
     ((seldom_S N 2 b b2 b3).bind fun (x_14, y_15, y_16, y_17) =>
     br x_14
      ((seldom_S N 6 y_15 y_16 y_17).bind fun (x_18, y_19, y_20, y_21) =>
      br (!x_18)
       (chk (i + x_3) <|
       chk ((i + x_3) + 1) <|
       tried_j1 N (tried_l1 N n_) ((i + x_3) + 1) k u u2 u3 y_19 y_20 y_21 x x2 x3 p p2 out 1 (i + x_3))
       (br (decide (0 ≤ x_5))
        ((seldom_S N 6 y_19 y_20 y_21).bind fun (x_22, y_23, y_24, y_25) =>
        br (!x_22)
         (chk (k + x_5) <|
         chk ((k + x_5) + 1) <|
         tried_j1 N (tried_l1 N n_) i ((k + x_5) + 1) u u2 u3 y_23 y_24 y_25 x x2 x3 p p2 out 2 (k + x_5))
         (tried_j1 N (tried_l1 N n_) i k u u2 u3 y_23 y_24 y_25 x x2 x3 p p2 out 3 0))
        (tried_j1 N (tried_l1 N n_) i k u u2 u3 y_19 y_20 y_21 x x2 x3 p p2 out 3 0)))
      (br (decide (0 ≤ x_5))
       ((seldom_S N 6 y_15 y_16 y_17).bind fun (x_26, y_27, y_28, y_29) =>
       br (!x_26)
        (chk (k + x_5) <|
        chk ((k + x_5) + 1) <|
        tried_j1 N (tried_l1 N n_) i ((k + x_5) + 1) u u2 u3 y_27 y_28 y_29 x x2 x3 p p2 out 2 (k + x_5))
        (tried_j1 N (tried_l1 N n_) i k u u2 u3 y_27 y_28 y_29 x x2 x3 p p2 out 3 0))
       (tried_j1 N (tried_l1 N n_) i k u u2 u3 y_15 y_16 y_17 x x2 x3 p p2 out 3 0))))
    (br (decide (0 ≤ x_5))
     ((seldom_S N 6 b b2 b3).bind fun (x_30, y_31, y_32, y_33) =>
     br (!x_30)
      (chk (k + x_5) <|
      chk ((k + x_5) + 1) <|
      tried_j1 N (tried_l1 N n_) i ((k + x_5) + 1) u u2 u3 y_31 y_32 y_33 x x2 x3 p p2 out 2 (k + x_5))
      (tried_j1 N (tried_l1 N n_) i k u u2 u3 y_31 y_32 y_33 x x2 x3 p p2 out 3 0))
     (tried_j1 N (tried_l1 N n_) i k u u2 u3 b b2 b3 x x2 x3 p p2 out 3 0)))
   (some ((b, b2, b3, out)))
def tried_S (N : Nat) (x : List Qe) (x2 : List Int) (x3 : Int) (p : Int) (p2 : Int) (b : List Int) (b2 : Int) (b3 : Int) : Option (Qi × List Int × Int × Int) :=
 (tried_l1 N N 0 0 x2 (x2.length : Int) 0 b b2 b3 x x2 x3 p p2 ([] : Qi)).bind fun (g_34, g2_35, g3_36, out_37) =>
 some (out_37, g_34, g2_35, g3_36)
noncomputable def tried_sp (N : Nat) : List Spec := [sp_seldom N, sp_indexi N]
theorem tried_all (N : Nat) : AllP (SpecOK Try.prog) (tried_sp N) := ⟨sp_seldom_ok N, sp_indexi_ok N, trivial⟩
noncomputable def tried_c : Code := (Try.f35.body).getD .skip
noncomputable abbrev tried_B : Body := { c := tried_c, n := 88, res := [.tmp 6], outs := [⟨[.sl Qd], [.segs [.sl (.int .u8), .i .i64, .i .u32]]⟩], m0 := 1 }
abbrev tried_rt : altD tried_B.outs → Option (Qi × List Int × Int × Int) := fun r => some (r.1.1, r.2.1.1, r.2.1.2.1, r.2.1.2.2.1)
abbrev tried_l1_at : List PI := [.c [1, 1, 1, 0, 1, 0, 0, 0], .c [1, 1, 1, 0, 1, 0, 0, 1], .l [1, 1, 1, 0, 1, 0, 0], .b 0, .c [1, 1, 1, 1]]
abbrev tried_l1_st : Sta := ⟨[0, 4, 5, 7, 8, 9, 17, 18, 19], ⟨[.own 0 0, .own 1 0, .own 2 0, .i .i64, .i .i64, .ols 3, .sl (.int .i64), .i .i64, .i .i64], [.segs [.sl (.int .u8), .i .i64, .i .u32], .segs [.sl Qf, .sl (.int .i64), .i .i64], .segs [.i .i64, .i .i64], .lst Qd]⟩⟩
abbrev tried_l1_h (rec : Int → Int → Qe → Int → Int → Qe → Int → Int → Qj → Qe → Int → Int → Int → Qi → Option (List Int × Int × Int × Qi)) : Leaf (List Int × Int × Int × Qi) := ⟨tried_l1_at, tried_l1_st, fun p => rec p.1.2.2.2.1 p.1.2.2.2.2.1 p.1.2.2.2.2.2.2.1 p.1.2.2.2.2.2.2.2.1 p.1.2.2.2.2.2.2.2.2.1 p.2.1.1 p.2.1.2.1 p.2.1.2.2.1 p.2.2.1.1 p.2.2.1.2.1 p.2.2.1.2.2.1 p.2.2.2.1.1 p.2.2.2.1.2.1 p.2.2.2.2.1⟩
abbrev tried_l1_e0 : Leaf (List Int × Int × Int × Qi) := ⟨[.c [1, 1, 1, 1, 0], .c [1, 1, 1, 1, 1]], ⟨[9], ⟨[.ols 1], [.segs [.sl (.int .u8), .i .i64, .i .u32], .lst Qd]⟩⟩, fun p => some ((p.2.1.1, p.2.1.2.1, p.2.1.2.2.1, p.2.2.1))⟩
abbrev tried_j1_at : List PI := [.c [1, 1, 1, 0, 1, 0, 0, 1, 1, 0, 0, 1, 1, 1, 1], .b 1, .c [1, 1, 1, 0, 1, 0, 0, 1, 1, 1], .l [1, 1, 1, 0, 1, 0, 0], .b 0, .c [1, 1, 1, 1]]
abbrev tried_j1_st : Sta := ⟨[0, 4, 5, 7, 8, 9, 12, 17, 18, 19], ⟨[.own 0 0, .own 1 0, .own 2 0, .i .i64, .i .i64, .ols 3, .own 4 0, .sl (.int .i64), .i .i64, .i .i64], [.segs [.sl (.int .u8), .i .i64, .i .u32], .segs [.sl Qf, .sl (.int .i64), .i .i64], .segs [.i .i64, .i .i64], .lst Qd, .segs [.i .i64, .i .i64]]⟩⟩
abbrev tried_j1_k (N : Nat) (rec : Int → Int → Qe → Int → Int → Qe → Int → Int → Qj → Qe → Int → Int → Int → Qi → Option (List Int × Int × Int × Qi)) : Leaf (List Int × Int × Int × Qi) := ⟨tried_j1_at, tried_j1_st, fun p => tried_j1 N rec p.1.2.2.2.1 p.1.2.2.2.2.1 p.1.2.2.2.2.2.2.2.1 p.1.2.2.2.2.2.2.2.2.1 p.1.2.2.2.2.2.2.2.2.2.1 p.2.1.1 p.2.1.2.1 p.2.1.2.2.1 p.2.2.1.1 p.2.2.1.2.1 p.2.2.1.2.2.1 p.2.2.2.1.1 p.2.2.2.1.2.1 p.2.2.2.2.1 p.2.2.2.2.2.1.1 p.2.2.2.2.2.1.2.1⟩
theorem tried_j1_eq (N : Nat) (rec : Int → Int → Qe → Int → Int → Qe → Int → Int → Qj → Qe → Int → Int → Int → Qi → Option (List Int × Int × Int × Qi)) (i : Int) (k : Int) (u : List Int) (u2 : Int) (u3 : Int) (b : List Int) (b2 : Int) (b3 : Int) (x : List Qe) (x2 : List Int) (x3 : Int) (p : Int) (p2 : Int) (out : List Qc) (q : Int) (q2 : Int) : ev (Z := List Int × Int × Int × Qi) Try.prog (tried_sp N) tried_B [] [tried_l1_h rec, tried_l1_e0] none 400 true tried_j1_at (stL tried_j1_st (((), (), (), i, k, (), (), u, u2, u3, ()), ((b, b2, b3, ()), (x, x2, x3, ()), (p, p2, ()), out, (q, q2, ()), ()))) (stH tried_j1_st (((), (), (), i, k, (), (), u, u2, u3, ()), ((b, b2, b3, ()), (x, x2, x3, ()), (p, p2, ()), out, (q, q2, ()), ()))) = tried_j1 N rec i k u u2 u3 b b2 b3 x x2 x3 p p2 out q q2 := by kernel_rfl
theorem tried_j1_lf (N : Nat) (rec : Int → Int → Qe → Int → Int → Qe → Int → Int → Qj → Qe → Int → Int → Int → Qi → Option (List Int × Int × Int × Qi)) {z : List Int × Int × Int × Qi} {top : Bool} {E : EE} {Xc : Ctx} (hE : EOK tried_B.m0 E) (hX : CxOK top Xc) (hrec : LeafOK Try.prog tried_B.c tried_B.n tried_B.m0 E Xc z (tried_l1_h rec)) (h0 : LeafOK Try.prog tried_B.c tried_B.n tried_B.m0 E Xc z tried_l1_e0) : LeafOK Try.prog tried_B.c tried_B.n tried_B.m0 E Xc z (tried_j1_k N rec) := leaf_of_ev (B := tried_B) (loops := []) (leaves := [tried_l1_h rec, tried_l1_e0]) (tried_all N) mixed trivial hE hX ⟨hrec, h0, trivial⟩ RetOK.no (fun p => tried_j1_eq N rec p.1.2.2.2.1 p.1.2.2.2.2.1 p.1.2.2.2.2.2.2.2.1 p.1.2.2.2.2.2.2.2.2.1 p.1.2.2.2.2.2.2.2.2.2.1 p.2.1.1 p.2.1.2.1 p.2.1.2.2.1 p.2.2.1.1 p.2.2.1.2.1 p.2.2.1.2.2.1 p.2.2.2.1.1 p.2.2.2.1.2.1 p.2.2.2.2.1 p.2.2.2.2.2.1.1 p.2.2.2.2.2.1.2.1)
noncomputable def tried_l1_L (N : Nat) : LoopS := { at_ := tried_l1_at, sta := tried_l1_st, exits := [([.c [1, 1, 1, 1, 0], .c [1, 1, 1, 1, 1]], ⟨[9], ⟨[.ols 1], [.segs [.sl (.int .u8), .i .i64, .i .u32], .lst Qd]⟩⟩)], run := fun p k => (tried_l1 N N p.1.2.2.2.1 p.1.2.2.2.2.1 p.1.2.2.2.2.2.2.1 p.1.2.2.2.2.2.2.2.1 p.1.2.2.2.2.2.2.2.2.1 p.2.1.1 p.2.1.2.1 p.2.1.2.2.1 p.2.2.1.1 p.2.2.1.2.1 p.2.2.1.2.2.1 p.2.2.2.1.1 p.2.2.2.1.2.1 p.2.2.2.2.1).bind fun e => k (.inl (((), ()), ((e.1, e.2.1, e.2.2.1, ()), e.2.2.2, ()))) }
theorem tried_l1_eq (N n_ : Nat) (i : Int) (k : Int) (u : List Int) (u2 : Int) (u3 : Int) (b : List Int) (b2 : Int) (b3 : Int) (x : List Qe) (x2 : List Int) (x3 : Int) (p : Int) (p2 : Int) (out : List Qc) : ev (Z := List Int × Int × Int × Qi) Try.prog (tried_sp N) tried_B [] [tried_l1_h (tried_l1 N n_), tried_l1_e0, tried_j1_k N (tried_l1 N n_)] none 400 true tried_l1_at (stL tried_l1_st (((), (), (), i, k, (), u, u2, u3, ()), ((b, b2, b3, ()), (x, x2, x3, ()), (p, p2, ()), out, ()))) (stH tried_l1_st (((), (), (), i, k, (), u, u2, u3, ()), ((b, b2, b3, ()), (x, x2, x3, ()), (p, p2, ()), out, ()))) = tried_l1 N (n_ + 1) i k u u2 u3 b b2 b3 x x2 x3 p p2 out := by kernel_rfl
theorem tried_l1_ok (N : Nat) {top : Bool} : LoopOK Try.prog tried_B.c tried_B.n tried_B.m0 top (tried_l1_L N) := loop_of_ev (Z := List Int × Int × Int × Qi) (N := N) (fun m p => tried_l1 N m p.1.2.2.2.1 p.1.2.2.2.2.1 p.1.2.2.2.2.2.2.1 p.1.2.2.2.2.2.2.2.1 p.1.2.2.2.2.2.2.2.2.1 p.2.1.1 p.2.1.2.1 p.2.1.2.2.1 p.2.2.1.1 p.2.2.1.2.1 p.2.2.1.2.2.1 p.2.2.2.1.1 p.2.2.2.1.2.1 p.2.2.2.2.1) (fun e => .inl (((), ()), ((e.1, e.2.1, e.2.2.1, ()), e.2.2.2, ()))) (fun _ _ _ => rfl) (fun _ => rfl) (fun m z E Xc hE hX hrec hx => leaf_of_ev (B := tried_B) (loops := []) (leaves := [tried_l1_h (tried_l1 N m), tried_l1_e0, tried_j1_k N (tried_l1 N m)]) (tried_all N) mixed trivial hE hX ⟨hrec, (fun p hp => by obtain rfl := Option.some.inj hp; exact hx), tried_j1_lf N _ hE hX hrec (fun p hp => by obtain rfl := Option.some.inj hp; exact hx), trivial⟩ RetOK.no (fun p => tried_l1_eq N m p.1.2.2.2.1 p.1.2.2.2.2.1 p.1.2.2.2.2.2.2.1 p.1.2.2.2.2.2.2.2.1 p.1.2.2.2.2.2.2.2.2.1 p.2.1.1 p.2.1.2.1 p.2.1.2.2.1 p.2.2.1.1 p.2.2.1.2.1 p.2.2.1.2.2.1 p.2.2.2.1.1 p.2.2.2.1.2.1 p.2.2.2.2.1))
abbrev tried_st : Sta := ⟨[0, 1, 2], ⟨[.own 0 0, .agg [.sl Qf, .sl (.int .i64), .i .i64], .agg [.i .i64, .i .i64]], [.segs [.sl (.int .u8), .i .i64, .i .u32]]⟩⟩
theorem tried_eq (N : Nat) (x : List Qe) (x2 : List Int) (x3 : Int) (p : Int) (p2 : Int) (b : List Int) (b2 : Int) (b3 : Int) : ev (Z := Qi × List Int × Int × Int) Try.prog (tried_sp N) tried_B [tried_l1_L N] [] (some tried_rt) 400 false [.c [0], .c [1]] (stL tried_st (((), (x, x2, x3, ()), (p, p2, ()), ()), ((b, b2, b3, ()), ()))) (stH tried_st (((), (x, x2, x3, ()), (p, p2, ()), ()), ((b, b2, b3, ()), ()))) = tried_S N x x2 x3 p p2 b b2 b3 := by kernel_rfl
noncomputable def sp_tried (N : Nat) : Spec := { f := 35, ins := ⟨[.own 0 0, .agg [.sl Qf, .sl (.int .i64), .i .i64], .agg [.i .i64, .i .i64]], [.segs [.sl (.int .u8), .i .i64, .i .u32]]⟩, outs := [⟨[.sl Qd], [.segs [.sl (.int .u8), .i .i64, .i .u32]]⟩], run := fun p k => (tried_S N p.1.2.1.1 p.1.2.1.2.1 p.1.2.1.2.2.1 p.1.2.2.1.1 p.1.2.2.1.2.1 p.2.1.1 p.2.1.2.1 p.2.1.2.2.1).bind fun r => k ((r.1, ()), ((r.2.1, r.2.2.1, r.2.2.2, ()), ())) }
theorem sp_tried_ok (N : Nat) : SpecOK Try.prog (sp_tried N) := fn_sound (B := tried_B) (loops := [tried_l1_L N]) (leaves := []) (fun p => tried_S N p.1.2.1.1 p.1.2.1.2.1 p.1.2.1.2.2.1 p.1.2.2.1.1 p.1.2.2.1.2.1 p.2.1.1 p.2.1.2.1 p.2.1.2.2.1) (fun r => ((r.1, ()), ((r.2.1, r.2.2.1, r.2.2.2, ()), ()))) tried_rt (fun _ _ _ => rfl) (fun r z h => by cases h; rfl) Try.func35 (by kernel_rfl) (by kernel_rfl) (by kernel_rfl) rfl rfl (by kernel_rfl) (fun args w => Sem.pv_run _ _ _ (by kernel_rfl) w) (tried_all N) mixed ⟨tried_l1_ok N, trivial⟩ (fun z E Xc hE hX hret => trivial) (fun p => tried_eq N p.1.2.1.1 p.1.2.1.2.1 p.1.2.1.2.2.1 p.1.2.2.1.1 p.1.2.2.1.2.1 p.2.1.1 p.2.1.2.1 p.2.1.2.2.1)

end Go.Proofs.Ytfcnhnbnjdccfaa

namespace Go.Proofs.Ytfcnhnbnjdccfaa
set_option linter.all false
open Go

section
variable {N : Nat} {T : List (List Int)} {H : List Int} {f : Int}
/-! ### The first least one -/
def tt2 (_ _ : Nat) : Bool := true
/-- All pairs of texts. -/
def prs (n : Nat) : List (Int × Int) := allTo tt2 n 0 n
theorem mem_prs {n : Nat} {x : Int × Int} : x ∈ prs n ↔ 0 ≤ x.1 ∧ x.1 ≤ x.2 ∧ x.2 < n := by
 unfold prs
 rw [mem_allTo]
 constructor
 ·rintro ⟨i, j, h1, h2, h3, _, rfl⟩; dsimp only; omega
 ·obtain ⟨a, b⟩ := x
  dsimp only
  intro h; exact ⟨a.toNat, b.toNat, by omega, by omega, by omega, rfl, by rw [Prod.mk.injEq]; omega⟩
theorem prs_len (n : Nat) : (prs n).length ≤ n * n := allTo_len tt2 n 0 n
theorem lpairs_l2_p {a s : Nat} {u u2 : Int} {O : List (Int × Int)} (hT : T.length ≤ 100) (ha : a < T.length) (hO : O.length ≤ 10000) : ∀ (n k : Nat), T.length < n + k → s ≤ k → k ≤ T.length →
  lpairs_l2 N n a k u u2 T H f (O ++ rowTo tt2 a s k) = some (u, u2, T, H, f, O ++ rowTo tt2 a s T.length)
 | 0, k, h1, h2, h3 => by omega
 | n + 1, k, h1, h2, h3 => by
  unfold lpairs_l2
  by_cases c : k < T.length
  ·rw [br_dec (by omega)]
   have rl := rowTo_len tt2 a s k
   have next := lpairs_l2_p (s := s) (u := u) (u2 := u2) hT ha hO n (k + 1) (by omega) (by omega) (by omega)
   rw [show ((k + 1 : Nat) : Int) = (k : Int) + 1 by omega] at next
   rw [lim_eq (by simp; omega), chk_eq (by omega), List.append_assoc, ← rowTo_yes h2 rfl]
   exact next
  ·have e : k = T.length := by omega
   rw [br_ndec (by omega), e]
theorem lpairs_l1_p (hT : T.length ≤ 20) (hN : T.length < N) : ∀ (n k : Nat), T.length < n + k → k ≤ T.length → lpairs_l1 N n (T.length : Int) k T H f (allTo tt2 T.length 0 k) = some (prs T.length)
 | 0, k, h1, h2 => by omega
 | n + 1, k, h1, h2 => by
  unfold lpairs_l1
  by_cases c : k < T.length
  ·have al := allTo_len tt2 T.length 0 k
   have : k * T.length ≤ 20 * 20 := Nat.mul_le_mul (by omega) (by omega)
   rw [br_dec (by omega)]
   have e := lpairs_l2_p (N := N) (T := T) (H := H) (f := f) (s := k) (u := (T.length : Int)) (u2 := (k : Int)) (O := allTo tt2 T.length 0 k) (by omega) c (by omega) N k (by omega) (by omega) (by omega)
   rw [rowTo_zero, List.append_nil] at e
   rw [e]
   simp only [Option.bind_some]
   rw [chk_eq (by omega)]
   have next := lpairs_l1_p hT hN n (k + 1) (by omega) (by omega)
   rw [allTo_succ, Nat.add_zero, show ((k + 1 : Nat) : Int) = (k : Int) + 1 by omega] at next
   exact next
  ·have e : k = T.length := by omega
   rw [br_ndec (by omega), e]; rfl
theorem lpairs_v (hT : T.length ≤ 20) (hN : T.length < N) : lpairs_S N T H f = some (prs T.length) := by
 unfold lpairs_S
 have := lpairs_l1_p (N := N) (T := T) (H := H) (f := f) hT hN N 0 (by omega) (by omega)
 rw [show allTo tt2 T.length 0 0 = [] from rfl] at this
 rw [show ((0 : Nat) : Int) = 0 from rfl] at this
 rw [this]; rfl
/-! ### The texts that are in all pairs -/
/-! ### The law -/
end
end Go.Proofs.Ytfcnhnbnjdccfaa

namespace Go.Proofs.Ytfcnhnbnjdccfaa
set_option linter.all false
open Go

/-- Numbers within their kind, lists no longer than may be. -/
def Ty.inB : (t : Ty) → t.den → Prop
 | .int k, n => inR k n
 | .bool, _ => True
 | .pair a b, x => a.inB x.1 ∧ b.inB x.2
 | .sl a, l => l.length ≤ 9223372036854775807 ∧ ∀ x ∈ (l : List a.den), a.inB x
 | .ptr a, x => a.inB x
theorem Ty.inB_of {M : Nat → Option Obj} : ∀ (t : Ty) (x : t.den) (vs : List Value), RepC M t x vs → t.inB x
 | .int k, n, vs, h => h.2
 | .bool, _, _, _ => trivial
 | .pair a b, x, vs, h => by
  obtain ⟨v1, v2, _, h1, h2⟩ := h
  exact ⟨Ty.inB_of a _ _ h1, Ty.inB_of b _ _ h2⟩
 | .sl a, l, vs, h => by
  obtain ⟨v, _, h1, ad, cap, _, _, h2⟩ := h
  refine ⟨h1, fun x hx => ?_⟩
  rcases h2 with rfl | ⟨b, o, us, ty, _, _, h3⟩
  ·cases hx
  ·obtain ⟨i, hi⟩ := List.getElem?_of_mem hx
   obtain ⟨us, _, h4⟩ := h3 i x hi
   exact Ty.inB_of a _ _ h4
 | .ptr a, x, vs, h => by
  obtain ⟨b, o, ws, ty, us, _, _, _, h4⟩ := h
  exact Ty.inB_of a _ _ h4
theorem Ty.inB_i64 {n : Int} (h : (Ty.int .i64).inB n) : -9223372036854775808 ≤ n ∧ n ≤ 9223372036854775807 := by
 have h1 : IntKind.i64.min = -9223372036854775808 := by decide
 have h2 : IntKind.i64.max = 9223372036854775807 := by decide
 unfold Ty.inB inR at h
 rw [h1, h2] at h
 exact h
end Go.Proofs.Ytfcnhnbnjdccfaa

namespace Go.Proofs.Ytfcnhnbnjdccfaa
set_option linter.all false
open Go

section
variable {N : Nat} {T : List (List Int)} {H : List Int} {f : Int}
/-! ### What is looked at, copies, comparisons -/
/-! ### The reference's errors -/
/-! ### Readings -/
/-- What is behind when a word that was heard has a place. -/
def stepF (A B : List Int) (w : Int) (x : At3) (q : Int × Int) : Option At3 :=
 if q.1 = 1 then (if (x.2.1 : Int) ≤ q.2 ∧ q.2 < A.length ∧ A.getD q.2.toNat 0 = w then some (x.1 + 1, q.2.toNat + 1, x.2.2) else none)
 else if q.1 = 2 then (if (x.2.2 : Int) ≤ q.2 ∧ q.2 < B.length ∧ B.getD q.2.toNat 0 = w then some (x.1 + 1, x.2.1, q.2.toNat + 1) else none)
 else if q.1 = 3 ∧ q.2 = 0 then some (x.1 + 1, x.2.1, x.2.2) else none
theorem mem_movesL {A B : List Int} {w : Int} {x : At3} {m : Mv} : m ∈ movesL A B w x ↔ stepF A B w x m.1 = some m.2 := by
 obtain ⟨⟨s, p⟩, y⟩ := m
 simp only [movesL, List.mem_cons, List.mem_append, List.mem_map, stepF]
 constructor
 ·rintro (h | ⟨j, hj, h⟩ | ⟨j, hj, h⟩)
  ·simp only [Prod.mk.injEq] at h
   obtain ⟨⟨rfl, rfl⟩, rfl⟩ := h
   simp
  ·simp only [Prod.mk.injEq] at h
   obtain ⟨⟨rfl, rfl⟩, rfl⟩ := h
   obtain ⟨h1, h2, h3⟩ := mem_standsL.1 hj
   rw [if_pos rfl, if_pos ⟨by omega, by omega, by simpa using h3⟩]; simp
  ·simp only [Prod.mk.injEq] at h
   obtain ⟨⟨rfl, rfl⟩, rfl⟩ := h
   obtain ⟨h1, h2, h3⟩ := mem_standsL.1 hj
   rw [if_neg (by decide), if_pos rfl, if_pos ⟨by omega, by omega, by simpa using h3⟩]; simp
 ·intro h
  by_cases c1 : s = 1
  ·rw [if_pos c1] at h
   split at h
   ·rename_i hc
    simp only [Option.some.injEq] at h
    refine .inr (.inl ⟨p.toNat, mem_standsL.2 ⟨by omega, by omega, hc.2.2⟩, ?_⟩)
    rw [← h, c1, show ((p.toNat : Nat) : Int) = p by omega]
   ·cases h
  ·rw [if_neg c1] at h
   by_cases c2 : s = 2
   ·rw [if_pos c2] at h
    split at h
    ·rename_i hc
     simp only [Option.some.injEq] at h
     refine .inr (.inr ⟨p.toNat, mem_standsL.2 ⟨by omega, by omega, hc.2.2⟩, ?_⟩)
     rw [← h, c2, show ((p.toNat : Nat) : Int) = p by omega]
    ·cases h
   ·rw [if_neg c2] at h
    split at h
    ·rename_i hc
     simp only [Option.some.injEq] at h
     exact .inl (by rw [← h, hc.1, hc.2])
    ·cases h
/-- A reading that goes on from some place. -/
def fitL (H A B : List Int) : List (Int × Int) → At3 → Bool
 | [], _ => true
 | q :: r, x => match stepF A B (H.getD x.1 0) x q with
  | none => false
  | some y => fitL H A B r y
def toldN : List (Int × Int) → Int
 | [] => 0
 | q :: r => (if q.1 = 3 then 0 else 1) + toldN r
theorem toldN_bnd : ∀ l : List (Int × Int), 0 ≤ toldN l ∧ toldN l ≤ l.length
 | [] => by simp [toldN]
 | q :: r => by
  have := toldN_bnd r
  unfold toldN
  simp only [List.length_cons]
  split <;> omega
theorem stepF_at {A B : List Int} {w : Int} {x y : At3} {q : Int × Int} (h : stepF A B w x q = some y) (ha : x.2.1 ≤ A.length) (hb : x.2.2 ≤ B.length) : y.1 = x.1 + 1 ∧ y.2.1 ≤ A.length ∧ y.2.2 ≤ B.length :=
 movesL_ok ha hb (mem_movesL.2 (show stepF A B w x ((q, y) : Mv).1 = some y from h))
theorem nextR_v {h i k : Nat} {T : List (List Int)} {H A B : List Int} {f : Int} (hh : h < H.length) (hH : H.length ≤ 10) (hA : A.length ≤ 6) (hB : B.length ≤ 6) (hi : i ≤ A.length) (hk : k ≤ B.length) : nextR ((h : Int), (i : Int), (k : Int)) (T, H, f, A, B) = some ((movesL A B (H.getD h 0) (h, i, k)).map movP) := by
 unfold nextR
 rw [if_pos ⟨⟨by simp, by simp; omega⟩, ⟨by simp, by simp; omega⟩, ⟨by simp, by simp; omega⟩, by dsimp only; omega, by dsimp only; omega, by dsimp only; omega⟩]
 simp
theorem faults_l2_p {u u2 words u4 u5 : Int} {d : Desk} {u3 : List (Int × Int)} {u6 : Int × Int × Int} {u7 : Desk} {x x2 x3 : Int} {q : Int × Int} : ∀ (ms : List Mv),
  faults_l2 N (ms.map movP) u u2 d words u3 u4 u5 u6 u7 x x2 x3 q.1 q.2 false = some (match ms.find? (fun m => m.1 == q) with
   | some m => (u, u2, d, words, u3, u4, u5, (m.2.1 : Int), (m.2.2.1 : Int), (m.2.2.2 : Int), q.1, q.2, true)
   | none => (u, u2, d, words, u3, u4, u5, x, x2, x3, q.1, q.2, false))
 | [] => rfl
 | m :: ms => by
  obtain ⟨⟨m1, m2⟩, y1, y2, y3⟩ := m
  obtain ⟨q1, q2⟩ := q
  rw [List.map_cons, List.find?_cons]
  have next := faults_l2_p (u := u) (u2 := u2) (words := words) (u4 := u4) (u5 := u5) (d := d) (u3 := u3) (u6 := u6) (u7 := u7) (x := x) (x2 := x2) (x3 := x3) (q := (q1, q2)) ms
  show br (decide (m1 = q1) && decide (m2 = q2)) (some (u, u2, d, words, u3, u4, u5, (y1 : Int), (y2 : Int), (y3 : Int), q1, q2, true)) (faults_l2 N (ms.map movP) u u2 d words u3 u4 u5 u6 u7 x x2 x3 q1 q2 false) = _
  have e : (((m1, m2) : Int × Int) == (q1, q2)) = (decide (m1 = q1) && decide (m2 = q2)) := by
   rw [Bool.eq_iff_iff]; simp
  rw [e]
  cases decide (m1 = q1) && decide (m2 = q2) with
  | true => rfl
  | false =>
   rw [br_false]
   exact next
theorem find_movesL {A B : List Int} {w : Int} {x : At3} (q : Int × Int) : (movesL A B w x).find? (fun m => m.1 == q) = (stepF A B w x q).map fun y => (q, y) := by
 cases h : stepF A B w x q with
 | none =>
  rw [Option.map_none, List.find?_eq_none]
  intro m hm he
  have := mem_movesL.1 hm
  rw [beq_iff_eq.1 he, h] at this
  cases this
 | some y =>
  rw [Option.map_some]
  cases h2 : (movesL A B w x).find? (fun m => m.1 == q) with
  | none =>
   have := List.find?_eq_none.1 h2 (q, y) (mem_movesL.2 h)
   simp at this
  | some m =>
   have h3 := List.find?_some h2
   have h4 := mem_movesL.1 (List.mem_of_find?_eq_some h2)
   rw [beq_iff_eq.1 h3, h] at h4
   simp only [Option.some.injEq] at h4
   rw [h4, ← beq_iff_eq.1 h3]
theorem faults_l1_p {A B : List Int} {l : List (Int × Int)} (hH : H.length ≤ 10) (hA : A.length ≤ 6) (hB : B.length ≤ 6) (hl : l.length = H.length) : ∀ (n : Nat) (x : At3) (u u2 words : Int), l.length < n + x.1 → x.1 ≤ l.length → x.2.1 ≤ A.length → x.2.2 ≤ B.length → 0 ≤ words ∧ words ≤ x.1 →
  faults_l1 N n u u2 (T, H, f, A, B) words l (l.length : Int) x.1 x.1 x.2.1 x.2.2 = some (if fitL H A B (l.drop x.1) x = true then .inr ((T, H, f, A, B), words + toldN (l.drop x.1)) else .inl ())
 | 0, x, u, u2, words, h, _, _, _, _ => by omega
 | n + 1, x, u, u2, words, h, hx, hi, hk, hw => by
  unfold faults_l1
  obtain ⟨h0, i, k⟩ := x
  dsimp only at *
  by_cases c : h0 < l.length
  ·have hd : l.drop h0 = l.getD h0 (0, 0) :: l.drop (h0 + 1) := by
    rw [List.drop_eq_getElem_cons c]; simp [List.getD, c]
   have hk' : l[((h0 : Nat) : Int).toNat]? = some (l.getD h0 (0, 0)) := by simp [List.getD, c]
   generalize l.getD h0 (0, 0) = q at *
   rw [br_dec (by omega), idx_eq (by omega) hk']
   simp only [next_S, Option.bind_some]
   rw [nextR_v (by omega) hH hA hB hi hk]
   simp only [Option.bind_some]
   rw [faults_l2_p, find_movesL, hd]
   unfold fitL toldN
   dsimp only
   cases hs : stepF A B (H.getD h0 0) (h0, i, k) q with
   | none =>
    simp only [Option.map_none, Option.bind_some, Bool.not_false, br_true, Bool.false_eq_true, if_false]
   | some y =>
    obtain ⟨y1, y2, y3⟩ := stepF_at hs hi hk
    simp only [Option.map_some, Option.bind_some, Bool.not_true, br_false]
    dsimp only at y1
    have next := fun w hw => faults_l1_p (A := A) (B := B) hH hA hB hl n y u u2 w (by omega) (by omega) y2 y3 hw
    by_cases c3 : q.1 = 3
    ·rw [br_nd c3, if_pos c3]
     unfold faults_j1
     rw [chk_eq (by omega)]
     have := next words (by omega)
     rw [y1, show ((h0 + 1 : Nat) : Int) = (h0 : Int) + 1 by omega] at this
     rw [y1, show ((h0 + 1 : Nat) : Int) = (h0 : Int) + 1 by omega, this]
     simp
    ·have tb := toldN_bnd (l.drop (h0 + 1))
     rw [br_nnd c3, if_neg c3, chk_eq (by omega)]
     unfold faults_j1
     rw [chk_eq (by omega)]
     have := next (words + 1) (by omega)
     rw [y1, show ((h0 + 1 : Nat) : Int) = (h0 : Int) + 1 by omega] at this
     rw [y1, show ((h0 + 1 : Nat) : Int) = (h0 : Int) + 1 by omega, this]
     rw [Int.add_assoc]
  ·rw [br_ndec (by omega), List.drop_of_length_le (by omega)]
   simp [fitL, toldN]
theorem faults_v (hN : 20 ≤ N) (T : List (List Int)) (H : List Int) (f a b : Int) (l : List (Int × Int)) (hl : l.length ≤ 1000) : faults_S N T H f a b l = some (if openE T H f a b ≠ 0 then (0, openE T H f a b) else if l.length ≠ H.length then (0, 2)
  else if fitL H (T.getD a.toNat []) (T.getD b.toNat []) l (0, 0, 0) = true then (((T.getD a.toNat []).length : Int) + (T.getD b.toNat []).length + H.length - 2 * toldN l, 0) else (0, 8)) := by
 unfold faults_S
 by_cases c : openE T H f a b = 0
 ·rw [if_neg (by simpa using c)]
  obtain ⟨hF, ha, hb, e⟩ := opened_good hN c
  have hH := hF.h
  have lA := hF.l (T.getD a.toNat []) (getD_mem (by omega))
  have lB := hF.l (T.getD b.toNat []) (getD_mem (by omega))
  rw [e]
  simp only [Option.bind_some, decide_true, Bool.not_true, br_false]
  by_cases d : l.length = H.length
  ·rw [if_neg (by simpa using d), br_nd (by omega)]
   have := faults_l1_p (N := N) (T := T) (H := H) (f := f) (A := T.getD a.toNat []) (B := T.getD b.toNat []) (l := l) hH lA.2 lB.2 d N (0, 0, 0) 0 0 0 (by dsimp only; omega) (by dsimp only; omega) (by dsimp only; omega) (by dsimp only; omega) (by dsimp only; omega)
   dsimp only at this
   rw [show ((0 : Nat) : Int) = 0 from rfl, List.drop_zero] at this
   rw [this]
   have tb := toldN_bnd l
   by_cases g : fitL H (T.getD a.toNat []) (T.getD b.toNat []) l (0, 0, 0) = true
   ·rw [if_pos g, if_pos g]
    simp only [Option.bind_some]
    rw [dfaults_v hH lA.2 lB.2 (by omega)]
    simp
   ·rw [if_neg g, if_neg g]; rfl
  ·rw [if_pos d, br_nnd (by omega)]
 ·rw [if_pos c, opened_bad hN c]
  simp only [Option.bind_some]
  rw [br_nnd c]
/-! ### The reference's readings -/
end
end Go.Proofs.Ytfcnhnbnjdccfaa

namespace Go.Proofs.Ytfcnhnbnjdccfaa
set_option linter.all false
open Go

section
variable {N : Nat} {T : List (List Int)} {H A B : List Int} {f : Int}
/-- What is behind after places. -/
def runF (H A B : List Int) : List (Int × Int) → At3 → Option At3
 | [], x => some x
 | q :: r, x => (stepF A B (H.getD x.1 0) x q).bind (runF H A B r)
theorem fitL_run : ∀ (l : List (Int × Int)) (x : At3), fitL H A B l x = (runF H A B l x).isSome
 | [], _ => rfl
 | q :: r, x => by
  unfold fitL runF
  cases stepF A B (H.getD x.1 0) x q with
  | none => rfl
  | some y => exact fitL_run r y
theorem runF_app : ∀ (l r : List (Int × Int)) (x : At3), runF H A B (l ++ r) x = (runF H A B l x).bind (runF H A B r)
 | [], _, _ => rfl
 | q :: l, r, x => by
  rw [List.cons_append]
  unfold runF
  cases stepF A B (H.getD x.1 0) x q with
  | none => rfl
  | some y => exact runF_app l r y
/-- All readings of so many words from here on. -/
def rdx (H A B : List Int) : Nat → At3 → List (List (Int × Int))
 | 0, _ => [[]]
 | n + 1, x => (movesL A B (H.getD x.1 0) x).flatMap fun m => (rdx H A B n m.2).map fun r => m.1 :: r
/-! ### The best of them -/
theorem countP_zero {α : Type} {p : α → Bool} : ∀ {l : List α}, (∀ x ∈ l, p x = false) → l.countP p = 0
 | [], _ => rfl
 | a :: l, h => by
  rw [List.countP_cons, countP_zero (fun x hx => h x (by simp [hx])), h a (by simp)]; rfl
/-- So many words are told in the best of these, and there are so many best ones. -/
def BestOf (C : List (List (Int × Int))) (v : Int × Int) : Prop := (∀ r ∈ C, toldN r ≤ v.1) ∧ v.2 = (C.countP fun r => decide (toldN r = v.1) : Nat)
theorem BestOf.add {h n : Nat} {t : At3 → Int × Int} {m : Mv} {C D : List (List (Int × Int))} {best : Int × Int} (hb : BestOf C best) (hd : BestOf D (t m.2)) (h0 : 0 ≤ (t m.2).1) : BestOf (C ++ D.map fun r => m.1 :: r) (stepT mayA h t best m) := by
 have st : stepT mayA h t best m = (if best.1 < wT m.1.1 (t m.2).1 then (wT m.1.1 (t m.2).1, (t m.2).2) else if wT m.1.1 (t m.2).1 = best.1 then (best.1, best.2 + (t m.2).2) else best) := by
  unfold stepT; exact if_pos rfl
 have hw : wT m.1.1 (t m.2).1 = (if m.1.1 = 3 then 0 else 1) + (t m.2).1 := by
  unfold wT
  by_cases c : m.1.1 = 3
  ·rw [if_neg (fun h => h.2 c), if_pos c]; omega
  ·rw [if_pos ⟨h0, c⟩, if_neg c]; omega
 obtain ⟨b1, b2⟩ := hb
 obtain ⟨d1, d2⟩ := hd
 have tn : ∀ r, toldN (m.1 :: r) = (if m.1.1 = 3 then 0 else 1) + toldN r := fun r => rfl
 rw [st]
 generalize wT m.1.1 (t m.2).1 = W at *
 generalize (if m.1.1 = 3 then (0 : Int) else 1) = e at *
 have c1 : ∀ v : Int, ((D.map fun r => m.1 :: r).countP fun r => decide (toldN r = v)) = D.countP fun r => decide (toldN r = v - e) := by
  intro v
  rw [List.countP_map]
  congr 1
  funext r
  simp only [Function.comp]
  rw [tn]
  apply decide_eq_decide.2
  omega
 have le : ∀ r ∈ D.map (fun r => m.1 :: r), toldN r ≤ W := by
  intro r hr
  obtain ⟨r', hr', rfl⟩ := List.mem_map.1 hr
  rw [tn]; have := d1 r' hr'; omega
 by_cases k1 : best.1 < W
 ·rw [if_pos k1]
  refine ⟨fun r hr => ?_, ?_⟩
  ·rcases List.mem_append.1 hr with hr | hr
   ·have := b1 r hr; dsimp only; omega
   ·exact le r hr
  ·dsimp only
   rw [List.countP_append, c1, show W - e = (t m.2).1 by omega, countP_zero (l := C) (fun r hr => by have := b1 r hr; simp; omega), d2]
   simp
 ·rw [if_neg k1]
  by_cases k2 : W = best.1
  ·rw [if_pos k2]
   refine ⟨fun r hr => ?_, ?_⟩
   ·rcases List.mem_append.1 hr with hr | hr
    ·exact b1 r hr
    ·have := le r hr; dsimp only; omega
   ·dsimp only
    rw [List.countP_append, c1, show best.1 - e = (t m.2).1 by omega, b2, d2]
    omega
  ·rw [if_neg k2]
   refine ⟨fun r hr => ?_, ?_⟩
   ·rcases List.mem_append.1 hr with hr | hr
    ·exact b1 r hr
    ·have := le r hr; omega
   ·rw [List.countP_append, c1, countP_zero (l := D) (fun r hr => by have := d1 r hr; simp; omega), b2]
    simp
theorem BestOf.fold {h n : Nat} {t : At3 → Int × Int} (hd : ∀ y, y.1 = h + 1 → BestOf (rdx H A B n y) (t y) ∧ 0 ≤ (t y).1) : ∀ (ms : List Mv) (C : List (List (Int × Int))) (best : Int × Int), (∀ m ∈ ms, m.2.1 = h + 1) → BestOf C best → BestOf (C ++ ms.flatMap fun m => (rdx H A B n m.2).map fun r => m.1 :: r) (ms.foldl (stepT mayA h t) best)
 | [], C, best, _, hb => by simpa using hb
 | m :: ms, C, best, hm, hb => by
  rw [List.flatMap_cons, ← List.append_assoc, List.foldl_cons]
  obtain ⟨d1, d2⟩ := hd m.2 (hm m (by simp))
  exact BestOf.fold hd ms _ _ (fun m' h' => hm m' (by simp [h'])) (BestOf.add (n := n) hb d1 d2)
theorem rdx_best : ∀ (n : Nat) (x : At3), H.length = x.1 + n → BestOf (rdx H A B n x) (tvx mayA H A B n x)
 | 0, x, _ => ⟨fun r hr => by simp [rdx] at hr; subst hr; simp [tvx, toldN], by simp [rdx, tvx, toldN]⟩
 | n + 1, x, hx => by
  have := BestOf.fold (H := H) (A := A) (B := B) (h := x.1) (n := n) (t := tvx mayA H A B n) (fun y hy => ⟨rdx_best n y (by omega), tvx_nonneg H A B (h := y.1) (i := y.2.1) (k := y.2.2) (by omega)⟩) (movesL A B (H.getD x.1 0) x) [] (-1, 0) (fun m hm => by
   have h3 := mem_movesL.1 hm
   unfold stepF at h3
   split at h3
   ·split at h3
    ·simp only [Option.some.injEq] at h3; rw [← h3]
    ·cases h3
   ·split at h3
    ·split at h3
     ·simp only [Option.some.injEq] at h3; rw [← h3]
     ·cases h3
    ·split at h3
     ·simp only [Option.some.injEq] at h3; rw [← h3]
     ·cases h3) ⟨(fun r hr => by cases hr), rfl⟩
  exact this
theorem rdx_length : ∀ (n : Nat) (x : At3), ∀ r ∈ rdx H A B n x, r.length = n
 | 0, x, r, hr => by simp [rdx] at hr; subst hr; rfl
 | n + 1, x, r, hr => by
  obtain ⟨m, _, h⟩ := List.mem_flatMap.1 hr
  obtain ⟨r', hr', rfl⟩ := List.mem_map.1 h
  rw [List.length_cons, rdx_length n m.2 r' hr']
/-- All readings. -/
def rdAll (H A B : List Int) : List (List (Int × Int)) := rdx H A B H.length (0, 0, 0)
theorem rdAll_le : ∀ r ∈ rdAll H A B, toldN r ≤ (tv mayA H A B (0, 0, 0)).1 := (rdx_best (H := H) (A := A) (B := B) H.length (0, 0, 0) (by simp)).1
end
end Go.Proofs.Ytfcnhnbnjdccfaa

namespace Go.Proofs.Ytfcnhnbnjdccfaa
set_option linter.all false
open Go

section
variable {N : Nat} {T : List (List Int)} {H : List Int} {f : Int}
end
end Go.Proofs.Ytfcnhnbnjdccfaa

namespace Go.Proofs.Ytfcnhnbnjdccfaa
set_option linter.all false
open Go

def reading_l2_x0 (N : Nat) (u : Int) (d : Qa) (u2 : Qt) (u3 : Qa) (g_ : Int) (g2_ : Int) (g3_ : Int) (g4_ : List (Qt × Qc)) (g5_ : List Qc) : Option (Int × Qa × Int × Int × Int × Qg × Qi) :=
 some ((u, d, g_, g2_, g3_, g4_, g5_))
def reading_l2_b (N : Nat) (rec : Int → Int → Int → Qg → Qi → Option (Int × Qa × Int × Int × Int × Qg × Qi)) (u : Int) (d : Qa) (u2 : Qt) (u3 : Qa) (u' : Int) (x' : Int) (x2' : Int) (x3' : Int) (rests' : List (Qt × Qc)) (out' : List Qc) (q' : Int) (q2' : Int) (y' : Int) (y2' : Int) (y3' : Int) : Option (Int × Qa × Int × Int × Int × Qg × Qi) :=
 br (!decide (q' = 3))
  (chk ((((rests'.find? fun (y : Qt × Qc) => Ty.beq Qk y.1 (y', y2', y3')).map (·.2)).getD (Ty.dflt Qd)).1 + 1) <|
  br (decide (((((rests'.find? fun (y : Qt × Qc) => Ty.beq Qk y.1 (y', y2', y3')).map (·.2)).getD (Ty.dflt Qd)).1 + 1) = (((rests'.find? fun (y : Qt × Qc) => Ty.beq Qk y.1 (x', x2', x3')).map (·.2)).getD (Ty.dflt Qd)).1))
   (lim (out'.length + [(q', q2')].length) <|
   some ((u, d, y', y2', y3', rests', (out' ++ [(q', q2')]))))
   (rec x' x2' x3' rests' out'))
  (br (decide ((((rests'.find? fun (y : Qt × Qc) => Ty.beq Qk y.1 (y', y2', y3')).map (·.2)).getD (Ty.dflt Qd)).1 = (((rests'.find? fun (y : Qt × Qc) => Ty.beq Qk y.1 (x', x2', x3')).map (·.2)).getD (Ty.dflt Qd)).1))
   (lim (out'.length + [(q', q2')].length) <|
   some ((u, d, y', y2', y3', rests', (out' ++ [(q', q2')]))))
   (rec x' x2' x3' rests' out'))
def reading_l2 (N : Nat) : List Move → Int → (Qa) → (Qt) → (Qa) → Int → Int → Int → Qg → Qi → Option (Int × Qa × Int × Int × Int × Qg × Qi)
 | [], u, d, u2, u3, x, x2, x3, rests, out =>
  some ((u, d, x, x2, x3, rests, out))
 | e :: es, u, d, u2, u3, x, x2, x3, rests, out =>
  reading_l2_b N (fun x_ x2_ x3_ rests_ out_ => reading_l2 N es u d u2 u3 x_ x2_ x3_ rests_ out_) u d u2 u3 u x x2 x3 rests out e.1.1 e.1.2.1 e.2.1.1 e.2.1.2.1 e.2.1.2.2.1
def reading_l1 (N : Nat) : Nat → Int → (Qa) → Int → Int → Int → Qg → Qi → Option Qi
 | 0, _, _, _, _, _, _, _ => none
 | n_ + 1, u, d, x, x2, x3, rests, out =>
  br (decide (x < (d.2.1.length : Int)))
   ((next_S N d x x2 x3).bind fun (x_4, y_5) =>
   ((nextR x_4 y_5).bind fun es => reading_l2 N es u d x_4 y_5 x x2 x3 rests out).bind fun (u_6, d_7, x_8, x2_9, x3_10, rests_11, out_12) =>
   reading_l1 N n_ u_6 d_7 x_8 x2_9 x3_10 rests_11 out_12)
   (some (out))
def reading_S (N : Nat) (e : List Qe) (e2 : List Int) (e3 : Int) (p : Int) (p2 : Int) : Option (Qi × Int) :=
 ((opened_S N e e2 e3 p p2).bind fun e => match e with
 | .inl (x_1, y_2) =>
  (br (!decide (y_2 = 0))
   (some ([], y_2))
   ((all_S N).bind fun _ =>
   (restsa_S N x_1).bind fun x_3 =>
   (reading_l1 N N 0 x_1 0 0 0 x_3 []).bind fun out_13 =>
   some (out_13, 0)))
 | .inr x_14 =>
  (br (!decide (x_14 = 0))
   (some ([], x_14))
   ((all_S N).bind fun _ =>
   none)))
noncomputable def reading_sp (N : Nat) : List Spec := [sp_opened N, sp_next N, sp_all N, sp_restsa N]
theorem reading_all (N : Nat) : AllP (SpecOK Try.prog) (reading_sp N) := ⟨sp_opened_ok N, sp_next_ok N, sp_all_ok N, sp_restsa_ok N, trivial⟩
noncomputable def reading_c : Code := (Try.f32.body).getD .skip
noncomputable abbrev reading_B : Body := { c := reading_c, n := 62, res := [.tmp 4, .tmp 5], outs := [⟨[.sl Qd, .i .i64], []⟩], m0 := 0 }
abbrev reading_rt : altD reading_B.outs → Option (Qi × Int) := fun r => some (r.1.1, r.1.2.1)
abbrev reading_l2_st : Sta := ⟨[4, 5, 6, 8, 9, 10, 38], ⟨[.nils, .i .i64, .fe Qb, .own 0 0, .own 1 0, .own 2 0, .fn 122 [] [.fe Qk, .fe Qz]], [.segs [.mp 3], .segs [.ols 4], .segs [.i .i64, .i .i64, .i .i64], .map Qk Qd, .lst Qd]⟩⟩
abbrev reading_l2_stA : Sta := ⟨[4, 5, 8, 9, 10, 11, 12], ⟨[.nils, .i .i64, .own 0 0, .own 1 0, .own 2 0, .own 5 0, .own 6 0], [.segs [.mp 3], .segs [.ols 4], .segs [.i .i64, .i .i64, .i .i64], .map Qk Qd, .lst Qd, .segs [.i .i64, .i .i64], .segs [.i .i64, .i .i64, .i .i64]]⟩⟩
abbrev reading_l2_e0 : Leaf (Int × Qa × Int × Int × Int × Qg × Qi) := ⟨[.c [1, 1, 1, 1, 1, 1, 0, 0, 0, 0, 0], .c [1, 1, 1, 1, 1, 1, 0, 0, 0, 0, 1], .c [1, 1, 1, 1, 1, 1, 0, 0, 0, 1], .l [1, 1, 1, 1, 1, 1, 0, 0, 0], .b 0, .c [1, 1, 1, 1, 1, 1, 1]], ⟨[4, 5, 6, 8, 9, 10], ⟨[.nils, .i .i64, .fe Qb, .own 0 0, .own 1 0, .own 2 0], [.segs [.mp 3], .segs [.ols 4], .segs [.i .i64, .i .i64, .i .i64], .map Qk Qd, .lst Qd]⟩⟩, fun p => some ((p.1.2.1, p.1.2.2.1, p.2.2.2.1.1, p.2.2.2.1.2.1, p.2.2.2.1.2.2.1, p.2.2.2.2.1, p.2.2.2.2.2.1))⟩
noncomputable def reading_l2_L (N : Nat) : LoopS := { at_ := [.c [1, 1, 1, 1, 1, 1, 0, 0, 0, 1, 0, 0, 1, 1, 0], .b 2, .s [1, 1, 1, 1, 1, 1, 0, 0, 0, 1, 0, 0], .b 1, .l [1, 1, 1, 1, 1, 1, 0, 0, 0], .b 0, .c [1, 1, 1, 1, 1, 1, 1]], sta := reading_l2_st, exits := [([.c [1, 1, 1, 1, 1, 1, 0, 0, 0, 0, 0], .c [1, 1, 1, 1, 1, 1, 0, 0, 0, 0, 1], .c [1, 1, 1, 1, 1, 1, 0, 0, 0, 1], .l [1, 1, 1, 1, 1, 1, 0, 0, 0], .b 0, .c [1, 1, 1, 1, 1, 1, 1]], ⟨[4, 5, 6, 8, 9, 10], ⟨[.nils, .i .i64, .fe Qb, .own 0 0, .own 1 0, .own 2 0], [.segs [.mp 3], .segs [.ols 4], .segs [.i .i64, .i .i64, .i .i64], .map Qk Qd, .lst Qd]⟩⟩)], run := fun p k => ((nextR p.1.2.2.2.2.2.2.1.2.1 p.1.2.2.2.2.2.2.1.2.2.1).bind fun es => reading_l2 N es p.1.2.1 p.1.2.2.1 p.1.2.2.2.2.2.2.1.2.1 p.1.2.2.2.2.2.2.1.2.2.1 p.2.2.2.1.1 p.2.2.2.1.2.1 p.2.2.2.1.2.2.1 p.2.2.2.2.1 p.2.2.2.2.2.1).bind fun e => k (.inl (((), e.1, e.2.1, (), (), (), ()), (((), ()), ((), ()), (e.2.2.1, e.2.2.2.1, e.2.2.2.2.1, ()), e.2.2.2.2.2.1, e.2.2.2.2.2.2, ()))) }
noncomputable abbrev reading_l2_Bk : Body := { c := reading_c, n := reading_B.n, res := reading_B.res, outs := reading_B.outs, m0 := 5 }
theorem reading_l2_end (N : Nat) (u : Int) (d : Qa) (u2 : Qt) (u3 : Qa) (x : Int) (x2 : Int) (x3 : Int) (rests : List (Qt × Qc)) (out : List Qc) : ev (Z := Int × Qa × Int × Int × Int × Qg × Qi) Try.prog (reading_sp N) reading_B [] [reading_l2_e0] none 400 false (nrm reading_B.c 99 [.b 2, .s [1, 1, 1, 1, 1, 1, 0, 0, 0, 1, 0, 0], .b 1, .l [1, 1, 1, 1, 1, 1, 0, 0, 0], .b 0, .c [1, 1, 1, 1, 1, 1, 1]]) (stL reading_l2_st (((), u, d, (), (), (), ((), (u2, u3, ())), ()), (((), ()), ((), ()), (x, x2, x3, ()), rests, out, ()))) (stH reading_l2_st (((), u, d, (), (), (), ((), (u2, u3, ())), ()), (((), ()), ((), ()), (x, x2, x3, ()), rests, out, ()))) = reading_l2 N [] u d u2 u3 x x2 x3 rests out := by kernel_rfl
theorem reading_l2_asg (N : Nat) (e : Move) (es : List Move) (u : Int) (d : Qa) (u2 : Qt) (u3 : Qa) (x : Int) (x2 : Int) (x3 : Int) (rests : List (Qt × Qc)) (out : List Qc) : ev (Z := Int × Qa × Int × Int × Int × Qg × Qi) Try.prog (reading_sp N) reading_l2_Bk [] [⟨[.r, .c [1, 1, 1, 1, 1, 1, 0, 0, 0, 1, 0, 0, 1, 1, 0, 1]], reading_l2_stA, fun p => reading_l2_b N (fun x_ x2_ x3_ rests_ out_ => reading_l2 N es u d u2 u3 x_ x2_ x3_ rests_ out_) u d u2 u3 p.1.2.1 p.2.2.2.1.1 p.2.2.2.1.2.1 p.2.2.2.1.2.2.1 p.2.2.2.2.1 p.2.2.2.2.2.1 p.2.2.2.2.2.2.1.1 p.2.2.2.2.2.2.1.2.1 p.2.2.2.2.2.2.2.1.1 p.2.2.2.2.2.2.2.1.2.1 p.2.2.2.2.2.2.2.1.2.2.1⟩] none 400 false (nrm reading_B.c 99 [.c [1, 1, 1, 1, 1, 1, 0, 0, 0, 1, 0, 0, 1, 1, 0, 0], .r, .c [1, 1, 1, 1, 1, 1, 0, 0, 0, 1, 0, 0, 1, 1, 0, 1]]) (pars [39, 40] (encs id is_next.elem e) (stL reading_l2_st (((), u, d, (), (), (), ((), (u2, u3, ())), ()), (((), ()), ((), ()), (x, x2, x3, ()), rests, out, ())))) (stH reading_l2_st (((), u, d, (), (), (), ((), (u2, u3, ())), ()), (((), ()), ((), ()), (x, x2, x3, ()), rests, out, ()))) = reading_l2 N (e :: es) u d u2 u3 x x2 x3 rests out := by kernel_rfl
theorem reading_l2_bod (N : Nat) (rec : Int → Int → Int → Qg → Qi → Option (Int × Qa × Int × Int × Int × Qg × Qi)) (u : Int) (d : Qa) (u2 : Qt) (u3 : Qa) (u' : Int) (x' : Int) (x2' : Int) (x3' : Int) (rests' : List (Qt × Qc)) (out' : List Qc) (q' : Int) (q2' : Int) (y' : Int) (y2' : Int) (y3' : Int) : ev (Z := Int × Qa × Int × Int × Int × Qg × Qi) Try.prog (reading_sp N) reading_l2_Bk [] [⟨[], ⟨[], ⟨[], [.segs [.mp 3], .segs [.ols 4], .segs [.i .i64, .i .i64, .i .i64], .map Qk Qd, .lst Qd]⟩⟩, fun p => rec p.2.2.2.1.1 p.2.2.2.1.2.1 p.2.2.2.1.2.2.1 p.2.2.2.2.1 p.2.2.2.2.2.1⟩, ⟨[.c [1, 1, 1, 1, 1, 1, 0, 0, 0, 1, 0, 0, 1, 1, 0, 1, 0, 1, 1, 1, 0, 1], .b 3], ⟨[], ⟨[], [.segs [.mp 3], .segs [.ols 5], .segs [.i .i64, .i .i64, .i .i64], .map Qk Qd, .dead, .lst Qd]⟩⟩, fun p => reading_l2_x0 N u d u2 u3 p.2.2.2.1.1 p.2.2.2.1.2.1 p.2.2.2.1.2.2.1 p.2.2.2.2.1 p.2.2.2.2.2.2.1⟩] none 400 false (nrm reading_B.c 99 [.c [1, 1, 1, 1, 1, 1, 0, 0, 0, 1, 0, 0, 1, 1, 0, 1]]) (stL reading_l2_stA (((), u', (), (), (), (), (), ()), (((), ()), ((), ()), (x', x2', x3', ()), rests', out', (q', q2', ()), (y', y2', y3', ()), ()))) (stH reading_l2_stA (((), u', (), (), (), (), (), ()), (((), ()), ((), ()), (x', x2', x3', ()), rests', out', (q', q2', ()), (y', y2', y3', ()), ()))) = reading_l2_b N rec u d u2 u3 u' x' x2' x3' rests' out' q' q2' y' y2' y3' := by kernel_rfl
theorem reading_l2_esc0 (N : Nat) (u : Int) (d : Qa) (u2 : Qt) (u3 : Qa) (g_ : Int) (g2_ : Int) (g3_ : Int) (g4_ : List (Qt × Qc)) (g5_ : List Qc) : ev (Z := Int × Qa × Int × Int × Int × Qg × Qi) Try.prog (reading_sp N) reading_B [] [reading_l2_e0] none 400 false (nrm reading_B.c 99 (.c [1, 1, 1, 1, 1, 1, 0, 0, 0, 1, 0, 0, 1, 1, 0, 1, 0, 1, 1, 1, 0, 1] :: [.b 2, .s [1, 1, 1, 1, 1, 1, 0, 0, 0, 1, 0, 0], .b 1, .l [1, 1, 1, 1, 1, 1, 0, 0, 0], .b 0, .c [1, 1, 1, 1, 1, 1, 1]])) (reading_l2_st.tmps.zip (encs id reading_l2_st.sh.avs ((), u, d, (), (), (), ((), (u2, u3, ())), ()))) (encBs id [.segs [.mp 3], .segs [.ols 5], .segs [.i .i64, .i .i64, .i .i64], .map Qk Qd, .dead, .lst Qd] (((), ()), ((), ()), (g_, g2_, g3_, ()), g4_, (), g5_, ())) = reading_l2_x0 N u d u2 u3 g_ g2_ g3_ g4_ g5_ := by kernel_rfl
theorem reading_l2_ok (N : Nat) : LoopOK Try.prog reading_B.c reading_B.n reading_B.m0 true (reading_l2_L N) := by
 refine range_ok (B := reading_B) (is := is_next) (g := .tmp 38) (ps := #[39, 40]) (assign := sub reading_c [1, 1, 1, 1, 1, 1, 0, 0, 0, 1, 0, 0, 1, 1, 0, 0]) (body := sub reading_c [1, 1, 1, 1, 1, 1, 0, 0, 0, 1, 0, 0, 1, 1, 0, 1]) (Z := Int × Qa × Int × Int × Int × Qg × Qi) (x := reading_l2_L N) (fun p => (p.1.2.2.2.2.2.2.1.2.1, p.1.2.2.2.2.2.2.1.2.2.1, ())) (fun es p => reading_l2 N es p.1.2.1 p.1.2.2.1 p.1.2.2.2.2.2.2.1.2.1 p.1.2.2.2.2.2.2.1.2.2.1 p.2.2.2.1.1 p.2.2.2.1.2.1 p.2.2.2.1.2.2.1 p.2.2.2.2.1 p.2.2.2.2.2.1) (staA := reading_l2_stA) (fun es q p => reading_l2_b N (fun x_ x2_ x3_ rests_ out_ => reading_l2 N es q.2.1 q.2.2.1 q.2.2.2.2.2.2.1.2.1 q.2.2.2.2.2.2.1.2.2.1 x_ x2_ x3_ rests_ out_) q.2.1 q.2.2.1 q.2.2.2.2.2.2.1.2.1 q.2.2.2.2.2.2.1.2.2.1 p.1.2.1 p.2.2.2.1.1 p.2.2.2.1.2.1 p.2.2.2.1.2.2.1 p.2.2.2.2.1 p.2.2.2.2.2.1 p.2.2.2.2.2.2.1.1 p.2.2.2.2.2.2.1.2.1 p.2.2.2.2.2.2.2.1.1 p.2.2.2.2.2.2.2.1.2.1 p.2.2.2.2.2.2.2.1.2.2.1) [⟨[1, 1, 1, 1, 1, 1, 0, 0, 0, 1, 0, 0, 1, 1, 0, 1, 0, 1, 1, 1, 0, 1], [.b 3], [.segs [.mp 3], .segs [.ols 5], .segs [.i .i64, .i .i64, .i .i64], .map Qk Qd, .dead, .lst Qd], fun q b => reading_l2_x0 N q.2.1 q.2.2.1 q.2.2.2.2.2.2.1.2.1 q.2.2.2.2.2.2.1.2.2.1 ((), b).2.2.2.1.1 ((), b).2.2.2.1.2.1 ((), b).2.2.2.1.2.2.1 ((), b).2.2.2.2.1 ((), b).2.2.2.2.2.2.1⟩] (fun e => .inl (((), e.1, e.2.1, (), (), (), ()), (((), ()), ((), ()), (e.2.2.1, e.2.2.2.1, e.2.2.2.2.1, ()), e.2.2.2.2.2.1, e.2.2.2.2.2.2, ()))) (fun _ _ _ => rfl) rfl (by kernel_rfl) (fun _ => by kernel_rfl) (by kernel_rfl) is_next_ok (Nat.le_of_ble_eq_true (by kernel_rfl)) (by kernel_rfl) ?_ ?_ ?_ ?_
 ·exact fun z E Xc hE hX hx p hp a w hS => ev_sound (z := z) (B := reading_B) (loops := []) (leaves := [reading_l2_e0]) (top := true) (reading_all N) mixed trivial hE hX ⟨(fun p hp => by obtain rfl := Option.some.inj hp; exact hx), trivial⟩ RetOK.no 400 false _ _ _ ((reading_l2_end N p.1.2.1 p.1.2.2.1 p.1.2.2.2.2.2.2.1.2.1 p.1.2.2.2.2.2.2.1.2.2.1 p.2.2.2.1.1 p.2.2.2.1.2.1 p.2.2.2.1.2.2.1 p.2.2.2.2.1 p.2.2.2.2.2.1).trans hp) a w hS
 ·intro z E Xc hE hX hx e he q b hb a w hS
  simp only [List.mem_cons, List.not_mem_nil, or_false] at he
  rcases he with rfl
  ·exact ev_sound (z := z) (B := reading_B) (loops := []) (leaves := [reading_l2_e0]) (top := true) (reading_all N) mixed trivial hE hX ⟨(fun p hp => by obtain rfl := Option.some.inj hp; exact hx), trivial⟩ RetOK.no 400 false _ _ _ ((reading_l2_esc0 N q.2.1 q.2.2.1 q.2.2.2.2.2.2.1.2.1 q.2.2.2.2.2.2.1.2.2.1 ((), b).2.2.2.1.1 ((), b).2.2.2.1.2.1 ((), b).2.2.2.1.2.2.1 ((), b).2.2.2.2.1 ((), b).2.2.2.2.2.2.1).trans hb) a w hS
 ·exact fun z E Xc hE hX e es p hl hp a w hS => ev_sound (z := z) (B := reading_l2_Bk) (loops := []) (leaves := [_]) (top := false) (reading_all N) mixed trivial hE hX ⟨hl, trivial⟩ RetOK.no 400 false _ _ _ ((reading_l2_asg N e es p.1.2.1 p.1.2.2.1 p.1.2.2.2.2.2.2.1.2.1 p.1.2.2.2.2.2.2.1.2.2.1 p.2.2.2.1.1 p.2.2.2.1.2.1 p.2.2.2.1.2.2.1 p.2.2.2.2.1 p.2.2.2.2.2.1).trans hp) a w hS
 ·exact fun z E Xc hE hX es q he hs p hp a w hS => ev_sound (z := z) (B := reading_l2_Bk) (loops := []) (leaves := [_, _]) (top := false) (reading_all N) mixed trivial hE hX ⟨he, hs _ List.mem_cons_self, trivial⟩ RetOK.no 400 false _ _ _ ((reading_l2_bod N (fun x_ x2_ x3_ rests_ out_ => reading_l2 N es q.2.1 q.2.2.1 q.2.2.2.2.2.2.1.2.1 q.2.2.2.2.2.2.1.2.2.1 x_ x2_ x3_ rests_ out_) q.2.1 q.2.2.1 q.2.2.2.2.2.2.1.2.1 q.2.2.2.2.2.2.1.2.2.1 p.1.2.1 p.2.2.2.1.1 p.2.2.2.1.2.1 p.2.2.2.1.2.2.1 p.2.2.2.2.1 p.2.2.2.2.2.1 p.2.2.2.2.2.2.1.1 p.2.2.2.2.2.2.1.2.1 p.2.2.2.2.2.2.2.1.1 p.2.2.2.2.2.2.2.1.2.1 p.2.2.2.2.2.2.2.1.2.2.1).trans hp) a w hS
abbrev reading_l1_at : List PI := [.c [1, 1, 1, 1, 1, 1, 0, 0, 0, 0, 0], .c [1, 1, 1, 1, 1, 1, 0, 0, 0, 0, 1], .c [1, 1, 1, 1, 1, 1, 0, 0, 0, 1], .l [1, 1, 1, 1, 1, 1, 0, 0, 0], .b 0, .c [1, 1, 1, 1, 1, 1, 1]]
abbrev reading_l1_st : Sta := ⟨[4, 5, 6, 8, 9, 10], ⟨[.nils, .i .i64, .fe Qb, .own 0 0, .own 1 0, .own 2 0], [.segs [.mp 3], .segs [.ols 4], .segs [.i .i64, .i .i64, .i .i64], .map Qk Qd, .lst Qd]⟩⟩
abbrev reading_l1_h (rec : Int → (Qa) → Int → Int → Int → Qg → Qi → Option Qi) : Leaf Qi := ⟨reading_l1_at, reading_l1_st, fun p => rec p.1.2.1 p.1.2.2.1 p.2.2.2.1.1 p.2.2.2.1.2.1 p.2.2.2.1.2.2.1 p.2.2.2.2.1 p.2.2.2.2.2.1⟩
abbrev reading_l1_e0 : Leaf Qi := ⟨[.c [1, 1, 1, 1, 1, 1, 1, 0], .c [1, 1, 1, 1, 1, 1, 1, 1]], ⟨[9], ⟨[.own 0 0], [.segs [.ols 1], .lst Qd]⟩⟩, fun p => some (p.2.2.1)⟩
noncomputable def reading_l1_L (N : Nat) : LoopS := { at_ := reading_l1_at, sta := reading_l1_st, exits := [([.c [1, 1, 1, 1, 1, 1, 1, 0], .c [1, 1, 1, 1, 1, 1, 1, 1]], ⟨[9], ⟨[.own 0 0], [.segs [.ols 1], .lst Qd]⟩⟩)], run := fun p k => (reading_l1 N N p.1.2.1 p.1.2.2.1 p.2.2.2.1.1 p.2.2.2.1.2.1 p.2.2.2.1.2.2.1 p.2.2.2.2.1 p.2.2.2.2.2.1).bind fun e => k (.inl (((), ()), (((), ()), e, ()))) }
theorem reading_l1_eq (N n_ : Nat) (u : Int) (d : Qa) (x : Int) (x2 : Int) (x3 : Int) (rests : List (Qt × Qc)) (out : List Qc) : ev (Z := Qi) Try.prog (reading_sp N) reading_B [reading_l2_L N] [reading_l1_h (reading_l1 N n_), reading_l1_e0] none 400 true reading_l1_at (stL reading_l1_st (((), u, d, (), (), (), ()), (((), ()), ((), ()), (x, x2, x3, ()), rests, out, ()))) (stH reading_l1_st (((), u, d, (), (), (), ()), (((), ()), ((), ()), (x, x2, x3, ()), rests, out, ()))) = reading_l1 N (n_ + 1) u d x x2 x3 rests out := by kernel_rfl
theorem reading_l1_ok (N : Nat) : LoopOK Try.prog reading_B.c reading_B.n reading_B.m0 true (reading_l1_L N) := loop_of_ev (Z := Qi) (N := N) (fun m p => reading_l1 N m p.1.2.1 p.1.2.2.1 p.2.2.2.1.1 p.2.2.2.1.2.1 p.2.2.2.1.2.2.1 p.2.2.2.2.1 p.2.2.2.2.2.1) (fun e => .inl (((), ()), (((), ()), e, ()))) (fun _ _ _ => rfl) (fun _ => rfl) (fun m z E Xc hE hX hrec hx => leaf_of_ev (B := reading_B) (loops := [reading_l2_L N]) (leaves := [reading_l1_h (reading_l1 N m), reading_l1_e0]) (reading_all N) mixed ⟨reading_l2_ok N, trivial⟩ hE hX ⟨hrec, (fun p hp => by obtain rfl := Option.some.inj hp; exact hx), trivial⟩ RetOK.no (fun p => reading_l1_eq N m p.1.2.1 p.1.2.2.1 p.2.2.2.1.1 p.2.2.2.1.2.1 p.2.2.2.1.2.2.1 p.2.2.2.2.1 p.2.2.2.2.2.1))
abbrev reading_st : Sta := ⟨[0, 1], ⟨[.agg [.sl Qf, .sl (.int .i64), .i .i64], .agg [.i .i64, .i .i64]], []⟩⟩
theorem reading_eq (N : Nat) (e : List Qe) (e2 : List Int) (e3 : Int) (p : Int) (p2 : Int) : ev (Z := Qi × Int) Try.prog (reading_sp N) reading_B [reading_l2_L N, reading_l1_L N] [] (some reading_rt) 400 false [.c [0], .c [1]] (stL reading_st (((e, e2, e3, ()), (p, p2, ()), ()), ())) (stH reading_st (((e, e2, e3, ()), (p, p2, ()), ()), ())) = reading_S N e e2 e3 p p2 := by kernel_rfl
noncomputable def sp_reading (N : Nat) : Spec := { f := 32, ins := ⟨[.agg [.sl Qf, .sl (.int .i64), .i .i64], .agg [.i .i64, .i .i64]], []⟩, outs := [⟨[.sl Qd, .i .i64], []⟩], run := fun p k => (reading_S N p.1.1.1 p.1.1.2.1 p.1.1.2.2.1 p.1.2.1.1 p.1.2.1.2.1).bind fun r => k ((r.1, r.2, ()), ()) }
theorem sp_reading_ok (N : Nat) : SpecOK Try.prog (sp_reading N) := fn_sound (B := reading_B) (loops := [reading_l2_L N, reading_l1_L N]) (leaves := []) (fun p => reading_S N p.1.1.1 p.1.1.2.1 p.1.1.2.2.1 p.1.2.1.1 p.1.2.1.2.1) (fun r => ((r.1, r.2, ()), ())) reading_rt (fun _ _ _ => rfl) (fun r z h => by cases h; rfl) Try.func32 (by kernel_rfl) (by kernel_rfl) (by kernel_rfl) rfl rfl (by kernel_rfl) (fun args w => Sem.pv_run _ _ _ (by kernel_rfl) w) (reading_all N) mixed ⟨reading_l2_ok N, reading_l1_ok N, trivial⟩ (fun z E Xc hE hX hret => trivial) (fun p => reading_eq N p.1.1.1 p.1.1.2.1 p.1.1.2.2.1 p.1.2.1.1 p.1.2.1.2.1)

end Go.Proofs.Ytfcnhnbnjdccfaa

namespace Go.Proofs.Ytfcnhnbnjdccfaa
set_option linter.all false
open Go

section
variable {N : Nat} {T : List (List Int)} {H A B : List Int} {f : Int}
abbrev keyT : Ty := .pair (.int .i64) (.pair (.int .i64) (.int .i64))
abbrev keyA (x : At3) : Int × Int × Int := (((x.1 : Nat) : Int), ((x.2.1 : Nat) : Int), ((x.2.2 : Nat) : Int))
/-- Whether a place is remembered. -/
def hasK (m : Memo) (x : At3) : Bool := (m.find? fun y => Ty.beq keyT y.1 (keyA x)).isSome
theorem hasK_cons {m : Memo} {x z : At3} {v : Int × Int} : hasK ((keyA x, v) :: m) z = true ↔ z = x ∨ hasK m z = true := by
 unfold hasK
 rw [List.find?_cons]
 by_cases e : Ty.beq keyT (keyA x) (keyA z) = true
 ·rw [e]
  have := (beq_iff_ (y := keyT) rfl).1 e
  simp only [keyA, Prod.mk.injEq] at this
  have : z = x := by
   obtain ⟨a, b, c⟩ := x
   obtain ⟨a', b', c'⟩ := z
   dsimp only at this
   simp only [Prod.mk.injEq]; omega
  simp [this]
 ·have e' : Ty.beq keyT (keyA x) (keyA z) = false := by simpa using e
  rw [e']
  constructor
  ·exact fun h => .inr h
  ·rintro (rfl | h)
   ·exact absurd ((beq_iff_ (y := keyT) rfl).2 rfl) e
   ·exact h
def Grow (m m' : Memo) : Prop := ∀ z, hasK m z = true → hasK m' z = true
/-- What is remembered is right, and so is all that it came of. -/
def MOK (H A B : List Int) (m : Memo) : Prop := MapOK mayA H A B m ∧ ∀ x : At3, hasK m x = true → x.1 < H.length → ∀ mv ∈ movesL A B (H.getD x.1 0) x, mv.2.1 < H.length → hasK m mv.2 = true
theorem MOK.cons {m : Memo} (h : MOK H A B m) {x : At3} (hk : ∀ mv ∈ movesL A B (H.getD x.1 0) x, mv.2.1 < H.length → hasK m mv.2 = true) : MOK H A B ((keyA x, tv mayA H A B x) :: m) := by
 refine ⟨h.1.cons x, fun z hz hlt mv hmv hl => hasK_cons.2 (.inr ?_)⟩
 rcases hasK_cons.1 hz with rfl | hz
 ·exact hk mv hmv hl
 ·exact h.2 z hz hlt mv hmv hl
theorem MOK.nil : MOK H A B [] := ⟨MapOK.nil _ _ _ _, fun x h => by cases h⟩
theorem resta_l1_q {self : Int → Int → Int → Desk → Desk → Memo → Option (Int × Int × Desk × Memo)} {h n : Nat} (hH : n ≤ 9) (hA : A.length ≤ 6) (hB : B.length ≤ 6) {u : Int × Int × Int} {u2 : Desk} {x x2 x3 g3 g4 : Int}
  (hself : ∀ (y : At3) (m : Memo), y.1 = h + 1 → y.2.1 ≤ A.length → y.2.2 ≤ B.length → MOK H A B m → ∃ m', self y.1 y.2.1 y.2.2 (T, H, f, A, B) (T, H, f, A, B) m = some ((tvx mayA H A B n y).1, (tvx mayA H A B n y).2, (T, H, f, A, B), m') ∧ MOK H A B m' ∧ Grow m m' ∧ (y.1 < H.length → hasK m' y = true)) :
  ∀ (ms : List Mv) (m : Memo) (c : Nat) (best : Int × Int), (∀ mv ∈ ms, mv.2.1 = h + 1 ∧ mv.2.2.1 ≤ A.length ∧ mv.2.2.2 ≤ B.length) → MOK H A B m → Bst n c best → c + ms.length ≤ 13 →
   ∃ m', resta_l1 N self (ms.map movP) u u2 (T, H, f, A, B) m x x2 x3 g3 g4 best.1 best.2 = some ((T, H, f, A, B), m', x, x2, x3, g3, g4, (ms.foldl (stepT mayA h (tvx mayA H A B n)) best).1, (ms.foldl (stepT mayA h (tvx mayA H A B n)) best).2) ∧ MOK H A B m' ∧ Grow m m' ∧ ∀ mv ∈ ms, mv.2.1 < H.length → hasK m' mv.2 = true
 | [], m, c, best, _, hm, _, _ => ⟨m, rfl, hm, fun _ h => h, fun _ h => (by cases h)⟩
 | mv :: ms, m, c, best, hv, hm, hb, hc => by
  obtain ⟨hv1, hv2, hv3⟩ := hv mv (by simp)
  obtain ⟨m1, he, hm1, hg1, hk1⟩ := hself mv.2 m hv1 hv2 hv3 hm
  have ht := tvx_bnd mayA (H := H) hA hB n mv.2
  have hb' := stepT_bnd (may := mayA) (h := h) (t := tvx mayA H A B n) (m := mv) ht hb
  obtain ⟨m2, h2, hm2, hg2, hk2⟩ := resta_l1_q (u := u) (u2 := u2) (x := x) (x2 := x2) (x3 := x3) (g3 := g3) (g4 := g4) hH hA hB hself ms m1 (c + 1) _ (fun v hv' => hv v (by simp [hv'])) hm1 hb' (by simp only [List.length_cons] at hc; omega)
  refine ⟨m2, ?_, hm2, fun z hz => hg2 z (hg1 z hz), fun v hv' hlt => ?_⟩
  rotate_left
  ·rcases List.mem_cons.1 hv' with rfl | hv'
   ·exact hg2 _ (hk1 hlt)
   ·exact hk2 v hv' hlt
  rw [List.map_cons, List.foldl_cons, ← h2]
  have hp := pow13 (n := n) (by omega)
  have hbb : (((c + 1) * 13 ^ n : Nat) : Int) ≤ 13 * 137858491849 := by
   have : (c + 1) * 13 ^ n ≤ 13 * 137858491849 := Nat.mul_le_mul (by simp only [List.length_cons] at hc; omega) hp
   omega
  have hb2 : best.2 + (tvx mayA H A B n mv.2).2 ≤ 13 * 137858491849 := by
   have e : (((c + 1) * 13 ^ n : Nat) : Int) = ((c * 13 ^ n : Nat) : Int) + ((13 ^ n : Nat) : Int) := by rw [Nat.succ_mul]; simp
   have := hb.2.2.2
   have := ht.2.2.2
   omega
  have h0 := hb.2.2.1
  have h1 := ht.2.2.1
  have hn1 := ht.1
  have hn2 := ht.2.1
  simp only [resta_l1, resta_l1_b, movP, all1_S, Option.bind_some, Bool.not_true, br_false]
  rw [he]
  have hst : stepT mayA h (tvx mayA H A B n) best mv = (if best.1 < wT mv.1.1 (tvx mayA H A B n mv.2).1 then (wT mv.1.1 (tvx mayA H A B n mv.2).1, (tvx mayA H A B n mv.2).2) else if wT mv.1.1 (tvx mayA H A B n mv.2).1 = best.1 then (best.1, best.2 + (tvx mayA H A B n mv.2).2) else best) := by
   unfold stepT; exact if_pos rfl
  rw [hst]
  simp only [Option.bind_some, wT]
  clear hst h2 he hb' hself
  generalize tvx mayA H A B n mv.2 = t at *
  obtain ⟨tw, ty⟩ := t
  obtain ⟨bw, by_⟩ := best
  simp only at *
  by_cases c1 : 0 ≤ tw
  ·rw [br_dec c1]
   by_cases c2 : mv.1.1 = 3
   ·refine (br_nd c2).trans ?_
    have c2' : ¬ (0 ≤ tw ∧ mv.1.1 ≠ 3) := fun h => h.2 c2
    rw [if_neg c2']
    by_cases c3 : bw < tw
    ·rw [br_dec c3, if_pos c3]
    ·rw [br_ndec c3, if_neg c3]
     by_cases c4 : tw = bw
     ·rw [br_dec c4, if_pos c4, chk_eq (by omega)]
     ·rw [br_ndec c4, if_neg c4]
   ·refine (br_nnd c2).trans ?_
    have c2' : 0 ≤ tw ∧ mv.1.1 ≠ 3 := ⟨c1, c2⟩
    rw [chk_eq (by omega), if_pos c2']
    by_cases c3 : bw < tw + 1
    ·rw [br_dec c3, if_pos c3]
    ·rw [br_ndec c3, if_neg c3]
     by_cases c4 : tw + 1 = bw
     ·rw [br_dec c4, if_pos c4, chk_eq (by omega)]
     ·rw [br_ndec c4, if_neg c4]
  ·have c2' : ¬ (0 ≤ tw ∧ mv.1.1 ≠ 3) := fun h => c1 h.1
   rw [br_ndec c1, if_neg c2']
   by_cases c3 : bw < tw
   ·rw [br_dec c3, if_pos c3]
   ·rw [br_ndec c3, if_neg c3]
    by_cases c4 : tw = bw
    ·rw [br_dec c4, if_pos c4, chk_eq (by omega)]
    ·rw [br_ndec c4, if_neg c4]
theorem resta_R_q (hH : H.length ≤ 10) (hA : A.length ≤ 6) (hB : B.length ≤ 6) : ∀ (fu : Nat) (x : At3) (m : Memo), H.length < fu + x.1 → x.1 ≤ H.length → x.2.1 ≤ A.length → x.2.2 ≤ B.length → MOK H A B m →
  ∃ m', resta_R N fu x.1 x.2.1 x.2.2 (T, H, f, A, B) (T, H, f, A, B) m = some ((tv mayA H A B x).1, (tv mayA H A B x).2, (T, H, f, A, B), m') ∧ MOK H A B m' ∧ Grow m m' ∧ (x.1 < H.length → hasK m' x = true)
 | 0, x, m, h, h1, _, _, _ => by omega
 | fu + 1, x, m, h, hx, ha, hb, hm => by
  show ∃ m', resta_S N (resta_R N fu) x.1 x.2.1 x.2.2 (T, H, f, A, B) (T, H, f, A, B) m = _ ∧ _
  unfold resta_S
  by_cases c1 : x.1 = H.length
  ·rw [br_dec (by dsimp only; omega)]
   refine ⟨m, ?_, hm, fun _ h => h, fun h => by omega⟩
   simp [tv, tvx, c1]
  ·rw [br_ndec (by dsimp only; omega)]
   cases hf : m.find? (fun y => Ty.beq (.pair (.int .i64) (.pair (.int .i64) (.int .i64))) y.1 (((x.1 : Nat) : Int), ((x.2.1 : Nat) : Int), ((x.2.2 : Nat) : Int))) with
   | some e =>
    have := hm.1.find x hf
    refine ⟨m, ?_, hm, fun _ h => h, fun _ => by unfold hasK; rw [hf]; rfl⟩
    simp [br, this]
   | none =>
    simp only [Option.isSome_none, br_false, next_S, Option.bind_some]
    have hnx : nextR (((x.1 : Nat) : Int), ((x.2.1 : Nat) : Int), ((x.2.2 : Nat) : Int)) (T, H, f, A, B) = some ((movesL A B (H.getD x.1 0) x).map movP) := by
     unfold nextR
     rw [if_pos (by dsimp only; omega)]
     simp only [Int.toNat_natCast]
    rw [hnx]
    simp only [Option.bind_some]
    obtain ⟨n, hn⟩ : ∃ n, H.length - x.1 = n + 1 := ⟨H.length - x.1 - 1, by omega⟩
    obtain ⟨m1, h2, hm1, hg1, hk1⟩ := resta_l1_q (N := N) (T := T) (f := f) (self := resta_R N fu) (h := x.1) (n := n) (u := (((x.1 : Nat) : Int), ((x.2.1 : Nat) : Int), ((x.2.2 : Nat) : Int))) (u2 := (T, H, f, A, B)) (x := x.1) (x2 := x.2.1) (x3 := x.2.2) (g3 := 0) (g4 := 0) (by omega) hA hB (fun y m' hy hya hyb hm' => by
     have := resta_R_q hH hA hB fu y m' (by omega) (by omega) hya hyb hm'
     rw [show tv mayA H A B y = tvx mayA H A B n y by unfold tv; rw [show H.length - y.1 = n by omega]] at this
     exact this) (movesL A B (H.getD x.1 0) x) m 0 (-1, 0) (fun mv hv => movesL_ok ha hb hv) hm (by refine ⟨?_, ?_, ?_, ?_⟩ <;> simp; omega) (by have := movesL_len A B (H.getD x.1 0) x; omega)
    have e : (movesL A B (H.getD x.1 0) x).foldl (stepT mayA x.1 (tvx mayA H A B n)) (-1, 0) = tv mayA H A B x := by
     unfold tv; rw [hn, tvx]
    rw [e] at h2
    rw [h2]
    exact ⟨_, rfl, hm1.cons hk1, fun z hz => hasK_cons.2 (.inr (hg1 z hz)), fun _ => hasK_cons.2 (.inl rfl)⟩
theorem restsa_q (hN : 12 ≤ N) (hH : H.length ≤ 10) (hA : A.length ≤ 6) (hB : B.length ≤ 6) : ∃ m, restsa_S N (T, H, f, A, B) = some m ∧ MOK H A B m ∧ (0 < H.length → hasK m (0, 0, 0) = true) := by
 unfold restsa_S restsa_j1
 obtain ⟨m, h, hm, _, hk⟩ := resta_R_q (N := N) (T := T) (f := f) hH hA hB N (0, 0, 0) [] (by dsimp only; omega) (by dsimp only; omega) (by dsimp only; omega) (by dsimp only; omega) MOK.nil
 simp only [Int.natCast_zero] at h
 rw [h]
 refine ⟨_, rfl, ?_, fun _ => hasK_cons (x := (0, 0, 0)).2 (.inl rfl)⟩
 by_cases c : 0 < H.length
 ·exact hm.cons (fun mv hmv hl => hm.2 _ (hk c) c mv hmv hl)
 ·refine ⟨hm.1.cons (0, 0, 0), fun z hz hlt => by omega⟩
/-- What is remembered of a place. -/
def look (m : Memo) (x : At3) : Int := (((m.find? fun y => Ty.beq keyT y.1 (keyA x)).map (·.2)).getD (Ty.dflt (.pair (.int .i64) (.int .i64)))).1
theorem look_v {m : Memo} (h : MOK H A B m) {x : At3} (hx : hasK m x = true ∨ x.1 = H.length) : look m x = (tv mayA H A B x).1 := by
 unfold look
 cases hf : m.find? fun y => Ty.beq keyT y.1 (keyA x) with
 | some e =>
  have := h.1.find x hf
  simp [this]
 | none =>
  rcases hx with hx | hx
  ·unfold hasK at hx; rw [hf] at hx; cases hx
  ·simp [tv, tvx, hx, Ty.dflt]
def wTn (m : Memo) (mv : Mv) : Int := if mv.1.1 = 3 then look m mv.2 else look m mv.2 + 1
theorem reading_l2_p {m : Memo} {u : Int} {d u3 : Desk} {u2 : Int × Int × Int} {x : At3} {out : List (Int × Int)} (ho : out.length ≤ 1000) : ∀ ms : List Mv, (∀ mv ∈ ms, -1 ≤ look m mv.2 ∧ look m mv.2 ≤ 100) → (∃ mv ∈ ms, wTn m mv = look m x) →
  ∃ mv ∈ ms, wTn m mv = look m x ∧ reading_l2 N (ms.map movP) u d u2 u3 x.1 x.2.1 x.2.2 m out = some (u, d, ((mv.2.1 : Nat) : Int), ((mv.2.2.1 : Nat) : Int), ((mv.2.2.2 : Nat) : Int), m, out ++ [mv.1])
 | [], _, h => by obtain ⟨_, h, _⟩ := h; cases h
 | mv :: ms, hb, he => by
  have hb0 := hb mv (by simp)
  have el : (((m.find? fun y => Ty.beq keyT y.1 (((mv.2.1 : Nat) : Int), ((mv.2.2.1 : Nat) : Int), ((mv.2.2.2 : Nat) : Int))).map (·.2)).getD (Ty.dflt (.pair (.int .i64) (.int .i64)))).1 = look m mv.2 := rfl
  have ex : (((m.find? fun y => Ty.beq keyT y.1 (((x.1 : Nat) : Int), ((x.2.1 : Nat) : Int), ((x.2.2 : Nat) : Int))).map (·.2)).getD (Ty.dflt (.pair (.int .i64) (.int .i64)))).1 = look m x := rfl
  have st : reading_l2 N ((mv :: ms).map movP) u d u2 u3 x.1 x.2.1 x.2.2 m out = if wTn m mv = look m x then some (u, d, ((mv.2.1 : Nat) : Int), ((mv.2.2.1 : Nat) : Int), ((mv.2.2.2 : Nat) : Int), m, out ++ [mv.1]) else reading_l2 N (ms.map movP) u d u2 u3 x.1 x.2.1 x.2.2 m out := by
   rw [List.map_cons, reading_l2, reading_l2_b]
   dsimp only [movP]
   by_cases c : mv.1.1 = 3
   ·have hw : wTn m mv = look m mv.2 := if_pos c
    refine (br_nd c).trans ?_
    rw [hw]
    by_cases c2 : look m mv.2 = look m x
    ·rw [if_pos c2]
     refine (br_dec c2).trans ?_
     rw [lim_eq (by simp; omega)]
    ·rw [if_neg c2]
     exact br_ndec c2
   ·have hw : wTn m mv = look m mv.2 + 1 := if_neg c
    refine (br_nnd c).trans ?_
    refine (chk_eq (by rw [el]; omega)).trans ?_
    rw [hw]
    by_cases c2 : look m mv.2 + 1 = look m x
    ·rw [if_pos c2]
     refine (br_dec c2).trans ?_
     rw [lim_eq (by simp; omega)]
    ·rw [if_neg c2]
     exact br_ndec c2
  rw [st]
  by_cases c : wTn m mv = look m x
  ·rw [if_pos c]
   exact ⟨mv, by simp, c, rfl⟩
  ·rw [if_neg c]
   obtain ⟨v, hv, h1, h2⟩ := reading_l2_p (u := u) (d := d) (u3 := u3) (u2 := u2) (x := x) ho ms (fun v hv => hb v (by simp [hv])) (by
    obtain ⟨v, hv, e⟩ := he
    rcases List.mem_cons.1 hv with rfl | hv
    ·exact absurd e c
    ·exact ⟨v, hv, e⟩)
   exact ⟨v, by simp [hv], h1, h2⟩
end
end Go.Proofs.Ytfcnhnbnjdccfaa

namespace Go.Proofs.Ytfcnhnbnjdccfaa
set_option linter.all false
open Go

section
variable {N : Nat} {T : List (List Int)} {H A B : List Int} {f a b : Int}
theorem reading_l1_p (hH : H.length ≤ 10) (hA : A.length ≤ 6) (hB : B.length ≤ 6) {u : Int} {m : Memo} (hm : MOK H A B m) : ∀ (k n : Nat) (x : At3) (out : List (Int × Int)), H.length = x.1 + k → k < n → x.2.1 ≤ A.length → x.2.2 ≤ B.length → (x.1 < H.length → hasK m x = true) → out.length + k ≤ 100 →
  ∃ r ∈ rdx H A B k x, toldN r = (tvx mayA H A B k x).1 ∧ reading_l1 N n u (T, H, f, A, B) x.1 x.2.1 x.2.2 m out = some (out ++ r)
 | k, 0, x, out, _, h, _, _, _, _ => by omega
 | 0, n + 1, x, out, hk, _, _, _, _, _ => by
  refine ⟨[], by simp [rdx], by simp [toldN, tvx], ?_⟩
  unfold reading_l1
  rw [br_ndec (by dsimp only; omega), List.append_nil]
 | k + 1, n + 1, x, out, hk, hn, ha, hb, hx, ho => by
  have hxl : x.1 < H.length := by omega
  have tve : ∀ (j : Nat) (y : At3), H.length = y.1 + j → tv mayA H A B y = tvx mayA H A B j y := fun j y hy => by unfold tv; rw [show H.length - y.1 = j by omega]
  have hmv : ∀ mv ∈ movesL A B (H.getD x.1 0) x, look m mv.2 = (tvx mayA H A B k mv.2).1 := fun mv hmv => by
   obtain ⟨h1, _, _⟩ := movesL_ok ha hb hmv
   rw [look_v hm, tve k _ (by omega)]
   rcases Nat.lt_or_ge mv.2.1 H.length with c | c
   ·exact .inl (hm.2 x (hx hxl) hxl mv hmv c)
   ·exact .inr (by omega)
  have hlx : look m x = (tvx mayA H A B (k + 1) x).1 := by
   rw [look_v hm (.inl (hx hxl)), tve (k + 1) _ hk]
  have hex : ∃ mv ∈ movesL A B (H.getD x.1 0) x, wTn m mv = look m x := by
   have nn := tvx_nonneg H A B (h := x.1) (i := x.2.1) (k := x.2.2) hk
   rw [show ((x.1, x.2.1, x.2.2) : At3) = x from rfl] at nn
   rw [hlx, tvx]
   rw [tvx] at nn
   rcases fold_has (h := x.1) (t := tvx mayA H A B k) (movesL A B (H.getD x.1 0) x) (-1, 0) with h1 | ⟨mv, hmm, h1⟩
   ·rw [h1] at nn; exact absurd nn (by decide)
   ·obtain ⟨hy, _, _⟩ := movesL_ok ha hb hmm
    have h0 := tvx_nonneg H A B (h := mv.2.1) (i := mv.2.2.1) (k := mv.2.2.2) (n := k) (by omega)
    rw [show ((mv.2.1, mv.2.2.1, mv.2.2.2) : At3) = mv.2 from rfl] at h0
    refine ⟨mv, hmm, ?_⟩
    rw [h1]
    unfold wTn wT
    rw [hmv mv hmm]
    by_cases c : mv.1.1 = 3
    ·rw [if_pos c, if_neg (fun h => h.2 c)]
    ·rw [if_neg c, if_pos ⟨h0, c⟩]
  obtain ⟨mv, hmm, hw, e⟩ := reading_l2_p (N := N) (u := u) (d := (T, H, f, A, B)) (u3 := (T, H, f, A, B)) (u2 := (((x.1 : Nat) : Int), ((x.2.1 : Nat) : Int), ((x.2.2 : Nat) : Int))) (x := x) (out := out) (by omega) (movesL A B (H.getD x.1 0) x) (fun mv hmm => by
   have := tvx_bnd mayA (H := H) hA hB k mv.2
   rw [hmv mv hmm]
   have h1 := this.1; have h2 := this.2.1
   omega) hex
  obtain ⟨hy, hya, hyb⟩ := movesL_ok ha hb hmm
  obtain ⟨r, hr, er, e2⟩ := reading_l1_p hH hA hB hm k n mv.2 (out ++ [mv.1]) (by omega) (by omega) hya hyb (fun hl => hm.2 x (hx hxl) hxl mv hmm hl) (by rw [List.length_append, List.length_singleton]; omega)
  refine ⟨mv.1 :: r, List.mem_flatMap.2 ⟨mv, hmm, List.mem_map.2 ⟨r, hr, rfl⟩⟩, ?_, ?_⟩
  ·rw [← hlx, ← hw]
   unfold toldN wTn
   rw [hmv mv hmm, er]
   split <;> omega
  ·unfold reading_l1
   rw [br_dec (by dsimp only; omega)]
   simp only [next_S, Option.bind_some]
   have nx := nextR_v (T := T) (f := f) hxl hH hA hB ha hb
   rw [show ((x.1, x.2.1, x.2.2) : At3) = x from rfl] at nx
   rw [nx]
   simp only [Option.bind_some]
   rw [e]
   simp only [Option.bind_some]
   rw [e2, List.append_assoc]; rfl
theorem reading_v (hN : 20 ≤ N) (h : openE T H f a b = 0) : ∃ r ∈ rdAll H (T.getD a.toNat []) (T.getD b.toNat []), toldN r = (tv mayA H (T.getD a.toNat []) (T.getD b.toNat []) (0, 0, 0)).1 ∧ reading_S N T H f a b = some (r, 0) := by
 obtain ⟨hF, ha, hb, e⟩ := opened_good hN h
 have hH := hF.h
 have lA := hF.l (T.getD a.toNat []) (getD_mem (by omega))
 have lB := hF.l (T.getD b.toNat []) (getD_mem (by omega))
 obtain ⟨m, em, hm, hk⟩ := restsa_q (N := N) (T := T) (f := f) (by omega) hH lA.2 lB.2
 obtain ⟨r, hr, er, e2⟩ := reading_l1_p (N := N) (T := T) (f := f) (u := 0) hH lA.2 lB.2 hm H.length N (0, 0, 0) [] (by simp) (by omega) (Nat.zero_le _) (Nat.zero_le _) hk (by simp; omega)
 refine ⟨r, hr, er, ?_⟩
 unfold reading_S
 rw [e]
 simp only [Option.bind_some, decide_true, Bool.not_true, br_false, all_S]
 rw [em]
 simp only [Option.bind_some]
 dsimp only at e2
 rw [show ((0 : Nat) : Int) = 0 from rfl] at e2
 rw [e2]; rfl
end
end Go.Proofs.Ytfcnhnbnjdccfaa

namespace Go.Proofs.Ytfcnhnbnjdccfaa
set_option linter.all false
open Go

section
variable {N : Nat} {T : List (List Int)} {H A B : List Int} {f : Int}
end
end Go.Proofs.Ytfcnhnbnjdccfaa

namespace Go.Proofs.Ytfcnhnbnjdccfaa
set_option linter.all false
open Go

section
variable {N : Nat} {T : List (List Int)} {H A B : List Int} {f a b : Int}
/-- Whether places may be. -/
def mayR (may : Nat → Int × Int → Bool) : Nat → List (Int × Int) → Bool
 | _, [] => true
 | h, q :: r => may h q && mayR may (h + 1) r
/-- As many words are told in the best of these, of which there are so many, if there is one. -/
def Gd (C : List (List (Int × Int))) (v : Int × Int) : Prop := BestOf C v ∧ (C = [] ∧ v.1 = -1 ∨ ∃ r ∈ C, toldN r = v.1)
theorem Gd.ge {C : List (List (Int × Int))} {v : Int × Int} (h : Gd C v) : -1 ≤ v.1 := by
 rcases h.2 with ⟨_, h⟩ | ⟨r, _, h⟩
 ·omega
 ·have := toldN_bnd r; omega
theorem Gd.add {may : Nat → Int × Int → Bool} {h : Nat} {t : At3 → Int × Int} {m : Mv} {C D : List (List (Int × Int))} {best : Int × Int} (hb : Gd C best) (hd : Gd D (t m.2)) : Gd (C ++ if may h m.1 = true then D.map fun r => m.1 :: r else []) (stepT may h t best m) := by
 by_cases c : may h m.1 = true
 ·rw [if_pos c]
  have st : stepT may h t best m = stepT mayA h t best m := by
   unfold stepT; rw [if_pos c]; exact (if_pos rfl).symm
  rw [st]
  have st2 : stepT mayA h t best m = (if best.1 < wT m.1.1 (t m.2).1 then (wT m.1.1 (t m.2).1, (t m.2).2) else if wT m.1.1 (t m.2).1 = best.1 then (best.1, best.2 + (t m.2).2) else best) := by
   unfold stepT; exact if_pos rfl
  have hge := hb.ge
  rcases hd.2 with ⟨rfl, hv⟩ | ⟨r, hr, hv⟩
  ·have h2 := hd.1.2
   rw [List.countP_nil] at h2
   have hw : wT m.1.1 (t m.2).1 = -1 := by
    unfold wT; rw [hv]; exact if_neg (fun h => absurd h.1 (by decide))
   rw [st2, hw, List.map_nil, List.append_nil, if_neg (by omega)]
   by_cases k : -1 = best.1
   ·rw [if_pos k, h2]
    rw [show ((best.1, best.2 + ((0 : Nat) : Int)) : Int × Int) = best by simp]
    exact hb
   ·rw [if_neg k]; exact hb
  ·have t0 := toldN_bnd r
   have h0 : 0 ≤ (t m.2).1 := by omega
   refine ⟨BestOf.add (n := 0) hb.1 hd.1 h0, .inr ?_⟩
   have hw : toldN (m.1 :: r) = wT m.1.1 (t m.2).1 := by
    unfold wT toldN
    by_cases c : m.1.1 = 3
    ·rw [if_pos c, if_neg (fun h => h.2 c)]; omega
    ·rw [if_neg c, if_pos ⟨h0, c⟩]; omega
   rw [st2]
   by_cases k1 : best.1 < wT m.1.1 (t m.2).1
   ·rw [if_pos k1]
    exact ⟨m.1 :: r, List.mem_append.2 (.inr (List.mem_map.2 ⟨r, hr, rfl⟩)), hw⟩
   ·rw [if_neg k1]
    have t1 := toldN_bnd (m.1 :: r)
    rcases hb.2 with ⟨_, e⟩ | ⟨r', hr', e⟩
    ·omega
    ·refine ⟨r', List.mem_append.2 (.inl hr'), ?_⟩
     split <;> exact e
 ·have st : stepT may h t best m = best := by
   unfold stepT; rw [if_neg c]
  rw [if_neg c, st, List.append_nil]
  exact hb
theorem Gd.fold {may : Nat → Int × Int → Bool} {h n : Nat} {t : At3 → Int × Int} (hd : ∀ y, y.1 = h + 1 → Gd ((rdx H A B n y).filter (mayR may (h + 1))) (t y)) : ∀ (ms : List Mv) (C : List (List (Int × Int))) (best : Int × Int), (∀ m ∈ ms, m.2.1 = h + 1) → Gd C best → Gd (C ++ (ms.flatMap fun m => (rdx H A B n m.2).map fun r => m.1 :: r).filter (mayR may h)) (ms.foldl (stepT may h t) best)
 | [], C, best, _, hb => by simpa using hb
 | m :: ms, C, best, hm, hb => by
  rw [List.flatMap_cons, List.filter_append, ← List.append_assoc, List.foldl_cons]
  have e : ((rdx H A B n m.2).map fun r => m.1 :: r).filter (mayR may h) = if may h m.1 = true then ((rdx H A B n m.2).filter (mayR may (h + 1))).map fun r => m.1 :: r else [] := by
   rw [List.filter_map]
   by_cases c : may h m.1 = true
   ·rw [if_pos c]
    congr 1
    apply List.filter_congr
    intro r _
    simp [mayR, c]
   ·rw [if_neg c]
    rw [Bool.not_eq_true] at c
    rw [List.map_eq_nil_iff, List.filter_eq_nil_iff]
    intro r _
    simp [mayR, c]
  rw [e]
  exact Gd.fold hd ms _ _ (fun m' h' => hm m' (by simp [h'])) (Gd.add hb (hd m.2 (hm m (by simp))))
/-- The best readings. -/
def bestR (H A B : List Int) : List (List (Int × Int)) := (rdAll H A B).filter fun r => decide (toldN r = (tv mayA H A B (0, 0, 0)).1)
theorem bestR_len {r : List (Int × Int)} (h : r ∈ bestR H A B) : r.length = H.length := rdx_length H.length (0, 0, 0) r (List.mem_filter.1 h).1
end
end Go.Proofs.Ytfcnhnbnjdccfaa

namespace Go.Proofs.Ytfcnhnbnjdccfaa
set_option linter.all false
open Go

section
variable {N : Nat} {T : List (List Int)} {H A B : List Int} {f a b : Int}
theorem rdx_fit : ∀ (n : Nat) (x : At3), ∀ r ∈ rdx H A B n x, fitL H A B r x = true
 | 0, x, r, hr => by simp [rdx] at hr; subst hr; rfl
 | n + 1, x, r, hr => by
  obtain ⟨m, hm, h⟩ := List.mem_flatMap.1 hr
  obtain ⟨r', hr', rfl⟩ := List.mem_map.1 h
  unfold fitL
  rw [mem_movesL.1 hm]
  exact rdx_fit n m.2 r' hr'
end
end Go.Proofs.Ytfcnhnbnjdccfaa

namespace Go.Proofs.Ytfcnhnbnjdccfaa
set_option linter.all false
open Go

/-- The greatest mark that may stand behind those before it. -/
def bndF (H A B : List Int) (v : Nat → Nat → Nat → Int) (i a b : Nat) : Int :=
 if i + a + b = 0 then 0 else
  min (min (min (min (min 99 (if 0 < i then v (i - 1) a b + 1 else 99)) (if 0 < a then v i (a - 1) b + 1 else 99)) (if 0 < b then v i a (b - 1) + 1 else 99))
   (if 0 < i ∧ 0 < a ∧ H.getD (i - 1) 0 = A.getD (a - 1) 0 then v (i - 1) (a - 1) b else 99)) (if 0 < i ∧ 0 < b ∧ H.getD (i - 1) 0 = B.getD (b - 1) 0 then v (i - 1) a (b - 1) else 99)
/-- What is asked of a mark. -/
structure Stp3 (H A B : List Int) (v : Nat → Nat → Nat → Int) (i a b : Nat) (n : Int) : Prop where
 sz : i + a + b = 0 → n ≤ 0
 sh : 0 < i → n ≤ v (i - 1) a b + 1
 sa : 0 < a → n ≤ v i (a - 1) b + 1
 sb : 0 < b → n ≤ v i a (b - 1) + 1
 sha : 0 < i → 0 < a → H.getD (i - 1) 0 = A.getD (a - 1) 0 → n ≤ v (i - 1) (a - 1) b
 shb : 0 < i → 0 < b → H.getD (i - 1) 0 = B.getD (b - 1) 0 → n ≤ v (i - 1) a (b - 1)
theorem le_bndF {H A B : List Int} {v : Nat → Nat → Nat → Int} {i a b : Nat} {n : Int} (hn : n ≤ 99) : n ≤ bndF H A B v i a b ↔ Stp3 H A B v i a b n := by
 unfold bndF
 by_cases z : i + a + b = 0
 ·rw [if_pos z]
  exact ⟨fun h => ⟨fun _ => h, fun h' => by omega, fun h' => by omega, fun h' => by omega, fun h' => by omega, fun h' => by omega⟩, fun h => h.sz z⟩
 ·rw [if_neg z]
  constructor
  ·intro h
   refine ⟨fun h' => absurd h' z, fun h1 => ?_, fun h1 => ?_, fun h1 => ?_, fun h1 h2 h3 => ?_, fun h1 h2 h3 => ?_⟩
   ·rw [if_pos h1] at h; omega
   ·rw [if_pos h1] at h; omega
   ·rw [if_pos h1] at h; omega
   ·rw [if_pos (show 0 < i ∧ 0 < a ∧ H.getD (i - 1) 0 = A.getD (a - 1) 0 from ⟨h1, h2, h3⟩)] at h; omega
   ·rw [if_pos (show 0 < i ∧ 0 < b ∧ H.getD (i - 1) 0 = B.getD (b - 1) 0 from ⟨h1, h2, h3⟩)] at h; omega
  ·intro h
   have e1 : n ≤ (if 0 < i then v (i - 1) a b + 1 else 99) := by split; exact h.sh ‹_›; exact hn
   have e2 : n ≤ (if 0 < a then v i (a - 1) b + 1 else 99) := by split; exact h.sa ‹_›; exact hn
   have e3 : n ≤ (if 0 < b then v i a (b - 1) + 1 else 99) := by split; exact h.sb ‹_›; exact hn
   have e4 : n ≤ (if 0 < i ∧ 0 < a ∧ H.getD (i - 1) 0 = A.getD (a - 1) 0 then v (i - 1) (a - 1) b else 99) := by
    split
    ·rename_i c; exact h.sha c.1 c.2.1 c.2.2
    ·exact hn
   have e5 : n ≤ (if 0 < i ∧ 0 < b ∧ H.getD (i - 1) 0 = B.getD (b - 1) 0 then v (i - 1) a (b - 1) else 99) := by
    split
    ·rename_i c; exact h.shb c.1 c.2.1 c.2.2
    ·exact hn
   omega
theorem bndF_le {H A B : List Int} {v : Nat → Nat → Nat → Int} (i a b : Nat) : bndF H A B v i a b ≤ 99 := by
 unfold bndF
 split <;> omega
theorem bndF_nonneg {H A B : List Int} {v : Nat → Nat → Nat → Int} {i a b : Nat} (h : ∀ i' a' b', i' ≤ i → a' ≤ a → b' ≤ b → i' + a' + b' < i + a + b → 0 ≤ v i' a' b') : 0 ≤ bndF H A B v i a b := by
 rw [le_bndF (by decide)]
 refine ⟨fun _ => Int.le_refl _, fun h1 => ?_, fun h1 => ?_, fun h1 => ?_, fun h1 h2 _ => ?_, fun h1 h2 _ => ?_⟩
 ·have := h (i - 1) a b (by omega) (by omega) (by omega) (by omega); omega
 ·have := h i (a - 1) b (by omega) (by omega) (by omega) (by omega); omega
 ·have := h i a (b - 1) (by omega) (by omega) (by omega) (by omega); omega
 ·exact h (i - 1) (a - 1) b (by omega) (by omega) (by omega) (by omega)
 ·exact h (i - 1) a (b - 1) (by omega) (by omega) (by omega) (by omega)
/-- One of the bounds is met. -/
theorem bndF_met (H A B : List Int) (v : Nat → Nat → Nat → Int) (i a b : Nat) : bndF H A B v i a b = 99 ∨ (i + a + b = 0 ∧ bndF H A B v i a b = 0) ∨ (0 < i ∧ bndF H A B v i a b = v (i - 1) a b + 1) ∨ (0 < a ∧ bndF H A B v i a b = v i (a - 1) b + 1) ∨ (0 < b ∧ bndF H A B v i a b = v i a (b - 1) + 1) ∨
  ((0 < i ∧ 0 < a ∧ H.getD (i - 1) 0 = A.getD (a - 1) 0) ∧ bndF H A B v i a b = v (i - 1) (a - 1) b) ∨ ((0 < i ∧ 0 < b ∧ H.getD (i - 1) 0 = B.getD (b - 1) 0) ∧ bndF H A B v i a b = v (i - 1) a (b - 1)) := by
 unfold bndF
 by_cases z : i + a + b = 0
 ·rw [if_pos z]; exact .inr (.inl ⟨z, rfl⟩)
 ·rw [if_neg z]
  have c4 := Decidable.em (0 < i ∧ 0 < a ∧ H.getD (i - 1) 0 = A.getD (a - 1) 0)
  have c5 := Decidable.em (0 < i ∧ 0 < b ∧ H.getD (i - 1) 0 = B.getD (b - 1) 0)
  generalize hx1 : (if 0 < i then v (i - 1) a b + 1 else 99) = x1
  generalize hx2 : (if 0 < a then v i (a - 1) b + 1 else 99) = x2
  generalize hx3 : (if 0 < b then v i a (b - 1) + 1 else 99) = x3
  generalize hx4 : (if 0 < i ∧ 0 < a ∧ H.getD (i - 1) 0 = A.getD (a - 1) 0 then v (i - 1) (a - 1) b else 99) = x4
  generalize hx5 : (if 0 < i ∧ 0 < b ∧ H.getD (i - 1) 0 = B.getD (b - 1) 0 then v (i - 1) a (b - 1) else 99) = x5
  have m : min (min (min (min (min 99 x1) x2) x3) x4) x5 = 99 ∨ min (min (min (min (min 99 x1) x2) x3) x4) x5 = x1 ∨ min (min (min (min (min 99 x1) x2) x3) x4) x5 = x2 ∨ min (min (min (min (min 99 x1) x2) x3) x4) x5 = x3 ∨ min (min (min (min (min 99 x1) x2) x3) x4) x5 = x4 ∨ min (min (min (min (min 99 x1) x2) x3) x4) x5 = x5 := by omega
  rcases m with m | m | m | m | m | m
  ·exact .inl m
  ·by_cases c : 0 < i
   ·rw [if_pos c] at hx1; exact .inr (.inr (.inl ⟨c, by omega⟩))
   ·rw [if_neg c] at hx1; exact .inl (by omega)
  ·by_cases c : 0 < a
   ·rw [if_pos c] at hx2; exact .inr (.inr (.inr (.inl ⟨c, by omega⟩)))
   ·rw [if_neg c] at hx2; exact .inl (by omega)
  ·by_cases c : 0 < b
   ·rw [if_pos c] at hx3; exact .inr (.inr (.inr (.inr (.inl ⟨c, by omega⟩))))
   ·rw [if_neg c] at hx3; exact .inl (by omega)
  ·rcases c4 with c | c
   ·rw [if_pos c] at hx4; exact .inr (.inr (.inr (.inr (.inr (.inl ⟨c, by omega⟩)))))
   ·rw [if_neg c] at hx4; exact .inl (by omega)
  ·rcases c5 with c | c
   ·rw [if_pos c] at hx5; exact .inr (.inr (.inr (.inr (.inr (.inr ⟨c, by omega⟩)))))
   ·rw [if_neg c] at hx5; exact .inl (by omega)
/-- Marks that hold. -/
def Holds3 (H A B : List Int) (v : Nat → Nat → Nat → Int) : Prop := ∀ i a b, i ≤ H.length → a ≤ A.length → b ≤ B.length → Stp3 H A B v i a b (v i a b)
theorem drop_at {l : List Int} {j : Nat} {w : Int} {r : List Int} (e : l.drop j = w :: r) : j < l.length ∧ l.getD j 0 = w ∧ l.drop (j + 1) = r := by
 have h : j < l.length := by
  rcases Nat.lt_or_ge j l.length with h | h
  ·exact h
  ·rw [List.drop_of_length_le h] at e; cases e
 rw [List.drop_eq_getElem_cons h] at e
 simp only [List.cons.injEq] at e
 exact ⟨h, by simp [List.getD, h, e.1], e.2⟩
/-- They are not greater than the faults of any reading. -/
theorem holds_path {H A B : List Int} {v : Nat → Nat → Nat → Int} (hv : Holds3 H A B v) : ∀ (n i j k : Nat) (R x y : List Int), n = (H.length - i) + (A.length - j) + (B.length - k) → i ≤ H.length → j ≤ A.length → k ≤ B.length → H.drop i = R → Rd R x y → x.Sublist (A.drop j) → y.Sublist (B.drop k) →
  v H.length A.length B.length ≤ v i j k + ((H.length : Int) - i + (A.length - j) + (B.length - k)) - 2 * (x.length + y.length)
 | 0, i, j, k, R, x, y, hn, hi, hj, hk, hR, hr, hx, hy => by
  obtain rfl : i = H.length := by omega
  obtain rfl : j = A.length := by omega
  obtain rfl : k = B.length := by omega
  rw [List.drop_length] at hx hy
  rw [List.sublist_nil.1 hx, List.sublist_nil.1 hy]
  simp
 | n + 1, i, j, k, R, x, y, hn, hi, hj, hk, hR, hr, hx, hy => by
  -- a word of the first text that is skipped
  have skA : ∀ z r, A.drop j = z :: r → x.Sublist r → v H.length A.length B.length ≤ v i j k + ((H.length : Int) - i + (A.length - j) + (B.length - k)) - 2 * (x.length + y.length) := fun z r e hs => by
   obtain ⟨h1, h2, h3⟩ := drop_at e
   have ih := holds_path hv n i (j + 1) k R x y (by omega) hi (by omega) hk hR hr (by rw [h3]; exact hs) hy
   have st := (hv i (j + 1) k hi (by omega) hk).sa (by omega)
   rw [Nat.add_sub_cancel] at st
   omega
  have skB : ∀ z r, B.drop k = z :: r → y.Sublist r → v H.length A.length B.length ≤ v i j k + ((H.length : Int) - i + (A.length - j) + (B.length - k)) - 2 * (x.length + y.length) := fun z r e hs => by
   obtain ⟨h1, h2, h3⟩ := drop_at e
   have ih := holds_path hv n i j (k + 1) R x y (by omega) hi hj (by omega) hR hr hx (by rw [h3]; exact hs)
   have st := (hv i j (k + 1) hi hj (by omega)).sb (by omega)
   rw [Nat.add_sub_cancel] at st
   omega
  cases hr with
  | nil =>
   -- nothing is heard any more
   cases eA : A.drop j with
   | cons z r => exact skA z r eA (List.nil_sublist _)
   | nil =>
    cases eB : B.drop k with
    | cons z r => exact skB z r eB (List.nil_sublist _)
    | nil =>
     have h1 := List.drop_eq_nil_iff.1 eA
     have h2 := List.drop_eq_nil_iff.1 eB
     have h3 := List.drop_eq_nil_iff.1 hR
     omega
  | @noise w H' _ _ s =>
   obtain ⟨h1, h2, h3⟩ := drop_at hR
   have ih := holds_path hv n (i + 1) j k H' x y (by omega) (by omega) hj hk h3 s hx hy
   have st := (hv (i + 1) j k (by omega) hj hk).sh (by omega)
   rw [Nat.add_sub_cancel] at st
   omega
  | @ta w H' x' _ s =>
   cases eA : A.drop j with
   | nil => rw [eA] at hx; cases hx
   | cons z r =>
    rw [eA] at hx
    cases hx with
    | cons _ hs => exact skA z r eA hs
    | cons_cons _ hs =>
     obtain ⟨h1, h2, h3⟩ := drop_at hR
     obtain ⟨g1, g2, g3⟩ := drop_at eA
     have ih := holds_path hv (n - 1) (i + 1) (j + 1) k H' x' y (by omega) (by omega) (by omega) hk h3 s (by rw [g3]; exact hs) hy
     have st := (hv (i + 1) (j + 1) k (by omega) (by omega) hk).sha (by omega) (by omega) (by rw [Nat.add_sub_cancel, Nat.add_sub_cancel, h2, g2])
     rw [Nat.add_sub_cancel, Nat.add_sub_cancel] at st
     rw [List.length_cons]
     omega
  | @tb w H' _ y' s =>
   cases eB : B.drop k with
   | nil => rw [eB] at hy; cases hy
   | cons z r =>
    rw [eB] at hy
    cases hy with
    | cons _ hs => exact skB z r eB hs
    | cons_cons _ hs =>
     obtain ⟨h1, h2, h3⟩ := drop_at hR
     obtain ⟨g1, g2, g3⟩ := drop_at eB
     have ih := holds_path hv (n - 1) (i + 1) j (k + 1) H' x y' (by omega) (by omega) hj (by omega) h3 s hx (by rw [g3]; exact hs)
     have st := (hv (i + 1) j (k + 1) (by omega) hj (by omega)).shb (by omega) (by omega) (by rw [Nat.add_sub_cancel, Nat.add_sub_cancel, h2, g2])
     rw [Nat.add_sub_cancel, Nat.add_sub_cancel] at st
     rw [List.length_cons]
     omega
theorem holds_le {H A B : List Int} {v : Nat → Nat → Nat → Int} (hv : Holds3 H A B v) : v H.length A.length B.length ≤ leastV H A B := by
 obtain ⟨a, b, h1, h2, h3, h4⟩ := leastV_has H A B
 have := holds_path hv _ 0 0 0 H a b rfl (by omega) (by omega) (by omega) rfl h1 h2 h3
 have h0 := (hv 0 0 0 (by omega) (by omega) (by omega)).sz rfl
 omega
theorem Rd.snoc (w : Int) {H a b : List Int} (s : Rd H a b) : Rd (H ++ [w]) a b ∧ Rd (H ++ [w]) (a ++ [w]) b ∧ Rd (H ++ [w]) a (b ++ [w]) := by
 induction s with
 | nil => exact ⟨.noise w .nil, .ta w .nil, .tb w .nil⟩
 | noise z _ ih => exact ⟨.noise z ih.1, .noise z ih.2.1, .noise z ih.2.2⟩
 | ta z _ ih => exact ⟨.ta z ih.1, .ta z ih.2.1, .ta z ih.2.2⟩
 | tb z _ ih => exact ⟨.tb z ih.1, .tb z ih.2.1, .tb z ih.2.2⟩
theorem take_snoc {l : List Int} {i : Nat} (h : i < l.length) : l.take (i + 1) = l.take i ++ [l.getD i 0] := by
 rw [List.take_add_one]; simp [List.getD, h]
/-- Marks that are as great as can be. -/
theorem fix_ge {H A B : List Int} {v : Nat → Nat → Nat → Int} (hb : H.length + A.length + B.length ≤ 99) (hv : ∀ i a b, i ≤ H.length → a ≤ A.length → b ≤ B.length → v i a b = bndF H A B v i a b) : ∀ (n i j k : Nat), n = i + j + k → i ≤ H.length → j ≤ A.length → k ≤ B.length →
  ∃ x y, Rd (H.take i) x y ∧ x.Sublist (A.take j) ∧ y.Sublist (B.take k) ∧ ((i : Int) + j + k) - 2 * (x.length + y.length) ≤ v i j k := by
 intro n
 induction n using Nat.strongRecOn with
 | ind n ih => ?_
 intro i j k hn hi hj hk
 have e := hv i j k hi hj hk
 have sA : ∀ {x : List Int} {j : Nat}, 0 < j → x.Sublist (A.take (j - 1)) → x.Sublist (A.take j) := fun hj h => h.trans (List.take_sublist_take_left (by omega))
 have sB : ∀ {x : List Int} {j : Nat}, 0 < j → x.Sublist (B.take (j - 1)) → x.Sublist (B.take j) := fun hj h => h.trans (List.take_sublist_take_left (by omega))
 rcases bndF_met H A B v i j k with m | ⟨z, m⟩ | ⟨c, m⟩ | ⟨c, m⟩ | ⟨c, m⟩ | ⟨⟨c1, c2, c3⟩, m⟩ | ⟨⟨c1, c2, c3⟩, m⟩
 ·exact ⟨[], [], Rd.none _, List.nil_sublist _, List.nil_sublist _, by simp only [List.length_nil]; omega⟩
 ·exact ⟨[], [], Rd.none _, List.nil_sublist _, List.nil_sublist _, by simp only [List.length_nil]; omega⟩
 ·obtain ⟨x, y, h1, h2, h3, h4⟩ := ih (n - 1) (by omega) (i - 1) j k (by omega) (by omega) hj hk
  obtain ⟨i', rfl⟩ : ∃ i', i = i' + 1 := ⟨i - 1, by omega⟩
  rw [Nat.add_sub_cancel] at h1 h4 m
  exact ⟨x, y, by rw [take_snoc (by omega)]; exact (h1.snoc _).1, h2, h3, by omega⟩
 ·obtain ⟨x, y, h1, h2, h3, h4⟩ := ih (n - 1) (by omega) i (j - 1) k (by omega) hi (by omega) hk
  exact ⟨x, y, h1, sA c h2, h3, by omega⟩
 ·obtain ⟨x, y, h1, h2, h3, h4⟩ := ih (n - 1) (by omega) i j (k - 1) (by omega) hi hj (by omega)
  exact ⟨x, y, h1, h2, sB c h3, by omega⟩
 ·obtain ⟨x, y, h1, h2, h3, h4⟩ := ih (n - 2) (by omega) (i - 1) (j - 1) k (by omega) (by omega) (by omega) hk
  obtain ⟨i', rfl⟩ : ∃ i', i = i' + 1 := ⟨i - 1, by omega⟩
  obtain ⟨j', rfl⟩ : ∃ j', j = j' + 1 := ⟨j - 1, by omega⟩
  simp only [Nat.add_sub_cancel] at h1 h2 h4 m c3
  refine ⟨x ++ [H.getD i' 0], y, by rw [take_snoc (by omega)]; exact (h1.snoc _).2.1, ?_, h3, by rw [List.length_append, List.length_singleton]; omega⟩
  rw [take_snoc (by omega), c3]
  exact h2.append (List.Sublist.refl _)
 ·obtain ⟨x, y, h1, h2, h3, h4⟩ := ih (n - 2) (by omega) (i - 1) j (k - 1) (by omega) (by omega) hj (by omega)
  obtain ⟨i', rfl⟩ : ∃ i', i = i' + 1 := ⟨i - 1, by omega⟩
  obtain ⟨k', rfl⟩ : ∃ k', k = k' + 1 := ⟨k - 1, by omega⟩
  simp only [Nat.add_sub_cancel] at h1 h3 h4 m c3
  refine ⟨x, y ++ [H.getD i' 0], by rw [take_snoc (by omega)]; exact (h1.snoc _).2.2, h2, ?_, by rw [List.length_append, List.length_singleton]; omega⟩
  rw [take_snoc (by omega), c3]
  exact h3.append (List.Sublist.refl _)
theorem fix_least {H A B : List Int} {v : Nat → Nat → Nat → Int} (hb : H.length + A.length + B.length ≤ 99) (hv : ∀ i a b, i ≤ H.length → a ≤ A.length → b ≤ B.length → v i a b = bndF H A B v i a b) : v H.length A.length B.length = leastV H A B := by
 obtain ⟨x, y, h1, h2, h3, h4⟩ := fix_ge hb hv _ H.length A.length B.length rfl (by omega) (by omega) (by omega)
 rw [List.take_length] at h1 h2 h3
 have g1 := leastV_le h1 h2 h3
 have g2 := holds_le (v := v) (fun i a b hi ha hb' => (le_bndF (by rw [hv i a b hi ha hb']; exact bndF_le i a b)).1 (by rw [← hv i a b hi ha hb']; exact Int.le_refl _))
 omega
end Go.Proofs.Ytfcnhnbnjdccfaa

namespace Go.Proofs.Ytfcnhnbnjdccfaa
set_option linter.all false
open Go

/-- Blocks that are frozen at once. -/
def frzM (M : Nat → Option Obj) (S : List Nat) (n : Nat) (w : World) : Nat → Option Obj := fun b => match M b with
 | some o => some o
 | none => if b ∈ S ∨ n ≤ b then (match w.heap[b]? with | some o => if isCel o then some o else none | none => none) else none
theorem frzM_mono {M : Nat → Option Obj} {S : List Nat} {n : Nat} {w : World} (b : Nat) (o : Obj) (h : M b = some o) : frzM M S n w b = some o := by
 unfold frzM; rw [h]
theorem frzM_new {M : Nat → Option Obj} {S : List Nat} {n : Nat} {w : World} {b : Nat} {cs : Array Value} {ty : TypeId} {z : Nat × Nat} (h : M b = none) (hb : b ∈ S ∨ n ≤ b) (hw : w.heap[b]? = some (.cells cs ty z)) : frzM M S n w b = some (.cells cs ty z) := by
 unfold frzM; rw [h]; simp only [if_pos hb, hw, isCel]; rfl
theorem frzM_inv {M : Nat → Option Obj} {S : List Nat} {n : Nat} {w : World} {b : Nat} {o : Obj} (h : frzM M S n w b = some o) : M b = some o ∨ (M b = none ∧ (b ∈ S ∨ n ≤ b) ∧ w.heap[b]? = some o ∧ isCel o = true) := by
 unfold frzM at h
 cases e : M b with
 | some o' => rw [e] at h; exact .inl h
 | none =>
  rw [e] at h
  dsimp only at h
  split at h
  ·rename_i hb
   split at h
   ·rename_i o' hw
    split at h
    ·rename_i hc
     cases h
     exact .inr ⟨rfl, hb, hw, hc⟩
    ·cases h
   ·cases h
  ·cases h
theorem has_mem {tm : Array Value} : ∀ (L : Tms), (∀ p ∈ L, tm.getD p.1 undef = p.2) → ∀ t v, L.lookup t = some v → tm.getD t undef = v
 | [], _, t, v, h => by simp at h
 | p :: L, hL, t, v, h => by
  rw [List.lookup_cons] at h
  split at h
  ·rename_i e
   have := hL p (by simp)
   simp only [beq_iff_eq] at e
   rw [e]
   simp only [Option.some.injEq] at h
   rw [← h]; exact this
  ·exact has_mem L (fun q hq => hL q (by simp [hq])) t v h
end Go.Proofs.Ytfcnhnbnjdccfaa
namespace Go.Proofs.Ytfcnhnbnjdccfaa
set_option linter.all false
open Go

theorem Upd.trans_old {S T : List Nat} {a b c : World} (h : Upd S a b) (k : Upd T b c) (hT : ∀ x ∈ T, a.heap.size ≤ x) : Upd S a c :=
 ⟨k.os.trans h.os, k.tape.trans h.tape, k.output.trans h.output, Nat.le_trans h.size k.size, fun i hi hs => (k.same i (Nat.lt_of_lt_of_le hi h.size) (fun hk => by have := hT i hk; omega)).trans (h.same i hi hs)⟩
end Go.Proofs.Ytfcnhnbnjdccfaa
namespace Go.Proofs.Ytfcnhnbnjdccfaa
set_option linter.all false
open Go

/-- Rows of our own, each in a block of its own, from lo on, one behind the other. -/
def RowsR (w : World) : Nat → Nat → List Value → List (List Int) → Prop
 | lo, hi, [], [] => lo ≤ hi
 | lo, hi, v :: vs, r :: F => ∃ b ty, v = .slice (some ⟨b, 0, none⟩) r.length r.length ∧ lo ≤ b ∧ (∀ x ∈ r, inR .i64 x) ∧ r.length ≤ 1000 ∧ Blk w b (r.map (.int .i64)) ty ∧ RowsR w (b + 1) hi vs F
 | _, _, _, _ => False
theorem RowsR.le {w : World} : ∀ {vs : List Value} {F : List (List Int)} {lo hi : Nat}, RowsR w lo hi vs F → lo ≤ hi
 | [], [], _, _, h => h
 | [], _ :: _, _, _, h => h.elim
 | _ :: _, [], _, _, h => h.elim
 | v :: vs, r :: F, lo, hi, ⟨b, ty, _, h1, _, _, _, h⟩ => by have := RowsR.le h; omega
theorem RowsR.len {w : World} : ∀ {vs : List Value} {F : List (List Int)} {lo hi : Nat}, RowsR w lo hi vs F → vs.length = F.length
 | [], [], _, _, _ => rfl
 | [], _ :: _, _, _, h => h.elim
 | _ :: _, [], _, _, h => h.elim
 | v :: vs, r :: F, lo, hi, ⟨b, ty, _, h1, _, _, _, h⟩ => by simp [RowsR.len h]
theorem RowsR.upd {w w' : World} {T : List Nat} (hu : Upd T w w') : ∀ {vs : List Value} {F : List (List Int)} {lo hi : Nat}, RowsR w lo hi vs F → (∀ k ∈ T, k < lo ∨ hi ≤ k) → RowsR w' lo hi vs F
 | [], [], _, _, h, _ => h
 | [], _ :: _, _, _, h, _ => h.elim
 | _ :: _, [], _, _, h, _ => h.elim
 | v :: vs, r :: F, lo, hi, ⟨b, ty, e, h1, h2, h3, h4, h⟩, hT => by
  have hle := RowsR.le h
  exact ⟨b, ty, e, h1, h2, h3, hu.blk h4 (fun hb => by have := hT b hb; omega), RowsR.upd hu h (fun k hk => by have := hT k hk; omega)⟩
theorem RowsR.hi {w : World} : ∀ {vs : List Value} {F : List (List Int)} {lo hi hi' : Nat}, RowsR w lo hi vs F → hi ≤ hi' → RowsR w lo hi' vs F
 | [], [], _, _, _, h, h' => Nat.le_trans h h'
 | [], _ :: _, _, _, _, h, _ => h.elim
 | _ :: _, [], _, _, _, h, _ => h.elim
 | v :: vs, r :: F, lo, hi, hi', ⟨b, ty, e, h1, h2, h3, h4, h⟩, h' => ⟨b, ty, e, h1, h2, h3, h4, RowsR.hi h h'⟩
theorem RowsR.snoc {w : World} {b : Nat} {ty : TypeId} {r : List Int} (hi2 : ∀ x ∈ r, inR .i64 x) (hr : r.length ≤ 1000) (hB : Blk w b (r.map (.int .i64)) ty) : ∀ {vs : List Value} {F : List (List Int)} {lo hi : Nat}, RowsR w lo hi vs F → hi ≤ b → RowsR w lo (b + 1) (vs ++ [.slice (some ⟨b, 0, none⟩) r.length r.length]) (F ++ [r])
 | [], [], lo, hi, h, hb => ⟨b, ty, rfl, Nat.le_trans h hb, hi2, hr, hB, Nat.le_refl _⟩
 | [], _ :: _, _, _, h, _ => h.elim
 | _ :: _, [], _, _, h, _ => h.elim
 | v :: vs, q :: F, lo, hi, ⟨b', ty', e, h1, h2, h3, h4, h⟩, hb => ⟨b', ty', e, h1, h2, h3, h4, RowsR.snoc hi2 hr hB h hb⟩
/-- One row. -/
theorem RowsR.at {w : World} : ∀ {vs : List Value} {F : List (List Int)} {lo hi a : Nat}, RowsR w lo hi vs F → a < F.length → ∃ b ty, vs[a]? = some (.slice (some ⟨b, 0, none⟩) (F.getD a []).length (F.getD a []).length) ∧ (lo ≤ b ∧ b < hi) ∧ (∀ x ∈ F.getD a [], inR .i64 x) ∧ (F.getD a []).length ≤ 1000 ∧ Blk w b ((F.getD a []).map (.int .i64)) ty ∧
  ∀ w' r', r'.length = (F.getD a []).length → (∀ x ∈ r', inR .i64 x) → Upd [b] w w' → Blk w' b (r'.map (.int .i64)) ty → RowsR w' lo hi vs (F.set a r')
 | [], [], _, _, _, _, h => by simp at h
 | [], _ :: _, _, _, _, h, _ => h.elim
 | _ :: _, [], _, _, _, h, _ => h.elim
 | v :: vs, r :: F, lo, hi, 0, ⟨b, ty, e, h1, h2, h3, h4, h⟩, _ => by
  have hle := RowsR.le h
  refine ⟨b, ty, by rw [e]; rfl, ⟨h1, by omega⟩, h2, h3, h4, fun w' r' hr hi' hu hB => ?_⟩
  have hr : r'.length = r.length := hr
  exact ⟨b, ty, by rw [e, hr], h1, hi', by omega, hB, RowsR.upd hu h (fun k hk => by simp at hk; omega)⟩
 | v :: vs, r :: F, lo, hi, a + 1, ⟨b, ty, e, h1, h2, h3, h4, h⟩, ha => by
  obtain ⟨b', ty', g1, g2, g3, g4, g5, g6⟩ := RowsR.at h (by simpa using ha : a < F.length)
  refine ⟨b', ty', g1, ⟨by omega, g2.2⟩, g3, g4, g5, fun w' r' hr hi' hu hB => ?_⟩
  exact ⟨b, ty, e, h1, h2, h3, hu.blk h4 (by simp; omega), g6 w' r' hr hi' hu hB⟩
/-- Lists of rows of our own. -/
def MidsR (w : World) : Nat → Nat → List Value → List (List (List Int)) → Prop
 | lo, hi, [], [] => lo ≤ hi
 | lo, hi, u :: us, F :: X => ∃ m vs mid ty, u = .slice (some ⟨m, 0, none⟩) F.length F.length ∧ lo ≤ m ∧ F.length ≤ 1000 ∧ Blk w m vs ty ∧ RowsR w (m + 1) mid vs F ∧ MidsR w mid hi us X
 | _, _, _, _ => False
theorem MidsR.le {w : World} : ∀ {us : List Value} {X : List (List (List Int))} {lo hi : Nat}, MidsR w lo hi us X → lo ≤ hi
 | [], [], _, _, h => h
 | [], _ :: _, _, _, h => h.elim
 | _ :: _, [], _, _, h => h.elim
 | u :: us, F :: X, lo, hi, ⟨m, vs, mid, ty, _, h1, _, _, h2, h⟩ => by have := RowsR.le h2; have := MidsR.le h; omega
theorem MidsR.len {w : World} : ∀ {us : List Value} {X : List (List (List Int))} {lo hi : Nat}, MidsR w lo hi us X → us.length = X.length
 | [], [], _, _, _ => rfl
 | [], _ :: _, _, _, h => h.elim
 | _ :: _, [], _, _, h => h.elim
 | u :: us, F :: X, lo, hi, ⟨m, vs, mid, ty, _, h1, _, _, h2, h⟩ => by simp [MidsR.len h]
theorem MidsR.upd {w w' : World} {T : List Nat} (hu : Upd T w w') : ∀ {us : List Value} {X : List (List (List Int))} {lo hi : Nat}, MidsR w lo hi us X → (∀ k ∈ T, k < lo ∨ hi ≤ k) → MidsR w' lo hi us X
 | [], [], _, _, h, _ => h
 | [], _ :: _, _, _, h, _ => h.elim
 | _ :: _, [], _, _, h, _ => h.elim
 | u :: us, F :: X, lo, hi, ⟨m, vs, mid, ty, e, h1, h2, h3, h4, h⟩, hT => by
  have l1 := RowsR.le h4
  have l2 := MidsR.le h
  exact ⟨m, vs, mid, ty, e, h1, h2, hu.blk h3 (fun hb => by have := hT m hb; omega), RowsR.upd hu h4 (fun k hk => by have := hT k hk; omega), MidsR.upd hu h (fun k hk => by have := hT k hk; omega)⟩
theorem MidsR.snoc {w : World} {m hi2 : Nat} {vs : List Value} {ty : TypeId} {F : List (List Int)} (hF : F.length ≤ 1000) (hB : Blk w m vs ty) (hR : RowsR w (m + 1) hi2 vs F) : ∀ {us : List Value} {X : List (List (List Int))} {lo hi : Nat}, MidsR w lo hi us X → hi ≤ m → MidsR w lo hi2 (us ++ [.slice (some ⟨m, 0, none⟩) F.length F.length]) (X ++ [F])
 | [], [], lo, hi, h, hb => ⟨m, vs, hi2, ty, rfl, Nat.le_trans h hb, hF, hB, hR, Nat.le_refl _⟩
 | [], _ :: _, _, _, h, _ => h.elim
 | _ :: _, [], _, _, h, _ => h.elim
 | u :: us, F' :: X, lo, hi, ⟨m', vs', mid, ty', e, h1, h2, h3, h4, h⟩, hb => ⟨m', vs', mid, ty', e, h1, h2, h3, h4, MidsR.snoc hF hB hR h hb⟩
/-- One list of rows. -/
theorem MidsR.at {w : World} : ∀ {us : List Value} {X : List (List (List Int))} {lo hi i : Nat}, MidsR w lo hi us X → i < X.length → ∃ m vs mid ty, us[i]? = some (.slice (some ⟨m, 0, none⟩) (X.getD i []).length (X.getD i []).length) ∧ (lo ≤ m ∧ mid ≤ hi) ∧ (X.getD i []).length ≤ 1000 ∧ Blk w m vs ty ∧ RowsR w (m + 1) mid vs (X.getD i []) ∧
  ∀ w' F' T, F'.length = (X.getD i []).length → Upd T w w' → (∀ k ∈ T, m < k ∧ k < mid) → RowsR w' (m + 1) mid vs F' → MidsR w' lo hi us (X.set i F')
 | [], [], _, _, _, _, h => by simp at h
 | [], _ :: _, _, _, _, h, _ => h.elim
 | _ :: _, [], _, _, _, h, _ => h.elim
 | u :: us, F :: X, lo, hi, 0, ⟨m, vs, mid, ty, e, h1, h2, h3, h4, h⟩, _ => by
  have l1 := RowsR.le h4
  have l2 := MidsR.le h
  refine ⟨m, vs, mid, ty, by rw [e]; rfl, ⟨h1, l2⟩, h2, h3, h4, fun w' F' T hF hu hT hR => ?_⟩
  have hF : F'.length = F.length := hF
  exact ⟨m, vs, mid, ty, by rw [e, hF], h1, by omega, hu.blk h3 (fun hb => by have := hT m hb; omega), hR, MidsR.upd hu h (fun k hk => by have := hT k hk; omega)⟩
 | u :: us, F :: X, lo, hi, i + 1, ⟨m, vs, mid, ty, e, h1, h2, h3, h4, h⟩, hi2 => by
  obtain ⟨m', vs', mid', ty', g1, g2, g3, g4, g5, g6⟩ := MidsR.at h (by simpa using hi2 : i < X.length)
  have l1 := RowsR.le h4
  refine ⟨m', vs', mid', ty', g1, ⟨by omega, g2.2⟩, g3, g4, g5, fun w' F' T hF hu hT hR => ?_⟩
  exact ⟨m, vs, mid, ty, e, h1, h2, hu.blk h3 (fun hb => by have := hT m hb; omega), RowsR.upd hu h4 (fun k hk => by have := hT k hk; omega), g6 w' F' T hF hu hT hR⟩
/-- Frozen, they are plain data. -/
theorem RowsR.rep {M : Nat → Option Obj} {n : Nat} {w : World} {F : List (List Int)} {vs : List Value} {m lo hi : Nat} {ty : TypeId} (h : RowsR w lo hi vs F) (hB : Blk w m vs ty) (hM : ∀ b o, M b = some o → b < n) (hn : n ≤ lo) (hm : n ≤ m) (hF : F.length ≤ 1000) :
  RepS (frzM M [] n w) 1 (RepC (frzM M [] n w) (.sl (.int .i64))) F (.slice (some ⟨m, 0, none⟩) F.length F.length) := by
 have nn : ∀ b, n ≤ b → M b = none := fun b hb => by
  cases e : M b with
  | none => rfl
  | some o => have := hM b o e; omega
 refine ⟨by omega, _, _, rfl, Nat.le_refl _, .inr ⟨m, 0, vs, (ty, (0, 0)), rfl, frzM_new (nn m hm) (.inr hm) hB, fun i x hx => ?_⟩⟩
 obtain ⟨hi', rfl⟩ := List.getElem?_eq_some_iff.1 hx
 obtain ⟨b, ty', g1, g2, g3, g4, g5, -⟩ := h.at hi'
 have e : F.getD i [] = F[i] := by simp [List.getD_eq_getElem?_getD, List.getElem?_eq_getElem hi']
 rw [e] at g1 g3 g4 g5
 refine ⟨[.slice (some ⟨b, 0, none⟩) F[i].length F[i].length], fun j u hj => ?_, _, rfl, ?_⟩
 ·cases j with
  | zero =>
   simp only [List.getElem?_cons_zero, Option.some.injEq] at hj
   subst hj
   simpa using g1
  | succ j => simp at hj
 ·refine ⟨by omega, _, _, rfl, Nat.le_refl _, .inr ⟨b, 0, _, (ty', (0, 0)), rfl, frzM_new (nn b (by omega)) (.inr (by omega)) g5, fun k x hk => ?_⟩⟩
  refine ⟨[.int .i64 x], fun j u hj => ?_, rfl, g3 x (List.mem_of_getElem? hk)⟩
  cases j with
  | zero =>
   simp only [List.getElem?_cons_zero, Option.some.injEq] at hj
   subst hj
   simp [Ty.cells, hk]
  | succ j => simp at hj
theorem MidsR.rep {M : Nat → Option Obj} {n : Nat} {w : World} {X : List (List (List Int))} {us : List Value} {bo lo hi : Nat} {ty : TypeId} (h : MidsR w lo hi us X) (hB : Blk w bo us ty) (hM : ∀ b o, M b = some o → b < n) (hn : n ≤ lo) (hm : n ≤ bo) (hX : X.length ≤ 1000) :
  RepS (frzM M [] n w) 1 (RepC (frzM M [] n w) (.sl (.sl (.int .i64)))) X (.slice (some ⟨bo, 0, none⟩) X.length X.length) := by
 have nn : ∀ b, n ≤ b → M b = none := fun b hb => by
  cases e : M b with
  | none => rfl
  | some o => have := hM b o e; omega
 refine ⟨by omega, _, _, rfl, Nat.le_refl _, .inr ⟨bo, 0, us, (ty, (0, 0)), rfl, frzM_new (nn bo hm) (.inr hm) hB, fun i x hx => ?_⟩⟩
 obtain ⟨hi', rfl⟩ := List.getElem?_eq_some_iff.1 hx
 obtain ⟨m, vs, mid, ty', g1, g2, g3, g4, g5, -⟩ := h.at hi'
 have e : X.getD i [] = X[i] := by simp [List.getD_eq_getElem?_getD, List.getElem?_eq_getElem hi']
 rw [e] at g1 g3 g5
 refine ⟨[.slice (some ⟨m, 0, none⟩) X[i].length X[i].length], fun j u hj => ?_, _, rfl, g5.rep g4 hM (by omega) (by omega) g3⟩
 cases j with
 | zero =>
  simp only [List.getElem?_cons_zero, Option.some.injEq] at hj
  subst hj
  simpa using g1
 | succ j => simp at hj
end Go.Proofs.Ytfcnhnbnjdccfaa

namespace Go.Proofs.Ytfcnhnbnjdccfaa
set_option linter.all false
open Go

noncomputable def c111 : Code := (Try.f111.body).getD .skip
noncomputable def K111_0 : List Item := [.code (sub c111 [0]), .code (sub c111 [1])]
noncomputable def K111_1 : List Item := [.code (sub c111 [1, 0]), .code (sub c111 [1, 1])]
noncomputable def K111_2 : List Item := [.code (sub c111 [1, 1, 0, 0]), .code (sub c111 [1, 1, 0, 1]), .code (sub c111 [1, 1, 1])]
noncomputable def K111_3 : List Item := [.code (sub c111 [1, 1, 0, 1, 0, 0, 0]), .code (sub c111 [1, 1, 0, 1, 0, 0, 1]), .inLoop (sub c111 [1, 1, 0, 1, 0, 0]), .inBlock 0, .code (sub c111 [1, 1, 1])]
noncomputable def K111_4 : List Item := [.code (sub c111 [1, 1, 0, 1, 0, 0, 1, 0]), .code (sub c111 [1, 1, 0, 1, 0, 0, 1, 1]), .inLoop (sub c111 [1, 1, 0, 1, 0, 0]), .inBlock 0, .code (sub c111 [1, 1, 1])]
noncomputable def K111_5 : List Item := [.code (sub c111 [1, 1, 0, 1, 0, 0, 1, 1, 0, 0, 0]), .code (sub c111 [1, 1, 0, 1, 0, 0, 1, 1, 0, 0, 1]), .inBlock 1, .code (sub c111 [1, 1, 0, 1, 0, 0, 1, 1, 1]), .inLoop (sub c111 [1, 1, 0, 1, 0, 0]), .inBlock 0, .code (sub c111 [1, 1, 1])]
noncomputable def K111_6 : List Item := [.code (sub c111 [1, 1, 1, 0]), .code (sub c111 [1, 1, 1, 1])]
noncomputable def K111_7 : List Item := [.code (sub c111 [1, 1, 0, 1, 0, 0, 1, 1, 0, 0, 1, 0]), .code (sub c111 [1, 1, 0, 1, 0, 0, 1, 1, 0, 0, 1, 1]), .inBlock 1, .code (sub c111 [1, 1, 0, 1, 0, 0, 1, 1, 1]), .inLoop (sub c111 [1, 1, 0, 1, 0, 0]), .inBlock 0, .code (sub c111 [1, 1, 1])]
noncomputable def K111_8 : List Item := [.code (sub c111 [1, 1, 1, 1])]
noncomputable def K111_9 : List Item := [.code (sub c111 [1, 1, 0, 1, 0, 0, 1, 1, 0, 0, 1, 1, 0]), .code (sub c111 [1, 1, 0, 1, 0, 0, 1, 1, 0, 0, 1, 1, 1]), .inBlock 1, .code (sub c111 [1, 1, 0, 1, 0, 0, 1, 1, 1]), .inLoop (sub c111 [1, 1, 0, 1, 0, 0]), .inBlock 0, .code (sub c111 [1, 1, 1])]
noncomputable def K111_10 : List Item := [.code (sub c111 [1, 1, 0, 1, 0, 0, 1, 1, 0, 0, 1, 1, 1, 0, 0, 0]), .code (sub c111 [1, 1, 0, 1, 0, 0, 1, 1, 0, 0, 1, 1, 1, 0, 0, 1]), .inLoop (sub c111 [1, 1, 0, 1, 0, 0, 1, 1, 0, 0, 1, 1, 1, 0, 0]), .inBlock 2, .inBlock 1, .code (sub c111 [1, 1, 0, 1, 0, 0, 1, 1, 1]), .inLoop (sub c111 [1, 1, 0, 1, 0, 0]), .inBlock 0, .code (sub c111 [1, 1, 1])]
noncomputable def K111_11 : List Item := [.code (sub c111 [1, 1, 0, 1, 0, 0, 1, 1, 0, 0, 1, 1, 1, 0, 0, 1, 0]), .code (sub c111 [1, 1, 0, 1, 0, 0, 1, 1, 0, 0, 1, 1, 1, 0, 0, 1, 1]), .inLoop (sub c111 [1, 1, 0, 1, 0, 0, 1, 1, 0, 0, 1, 1, 1, 0, 0]), .inBlock 2, .inBlock 1, .code (sub c111 [1, 1, 0, 1, 0, 0, 1, 1, 1]), .inLoop (sub c111 [1, 1, 0, 1, 0, 0]), .inBlock 0, .code (sub c111 [1, 1, 1])]
noncomputable def K111_12 : List Item := [.code (sub c111 [1, 1, 0, 1, 0, 0, 1, 1, 0, 0, 1, 1, 1, 0, 0, 1, 1, 0, 0, 0]), .code (sub c111 [1, 1, 0, 1, 0, 0, 1, 1, 0, 0, 1, 1, 1, 0, 0, 1, 1, 0, 0, 1]), .inBlock 3, .code (sub c111 [1, 1, 0, 1, 0, 0, 1, 1, 0, 0, 1, 1, 1, 0, 0, 1, 1, 1]), .inLoop (sub c111 [1, 1, 0, 1, 0, 0, 1, 1, 0, 0, 1, 1, 1, 0, 0]), .inBlock 2, .inBlock 1, .code (sub c111 [1, 1, 0, 1, 0, 0, 1, 1, 1]), .inLoop (sub c111 [1, 1, 0, 1, 0, 0]), .inBlock 0, .code (sub c111 [1, 1, 1])]
noncomputable def K111_13 : List Item := [.code (sub c111 [1, 1, 0, 1, 0, 0, 1, 1, 1]), .inLoop (sub c111 [1, 1, 0, 1, 0, 0]), .inBlock 0, .code (sub c111 [1, 1, 1])]
noncomputable def K111_14 : List Item := [.code (sub c111 [1, 1, 0, 1, 0, 0, 1, 1, 0, 0, 1, 1, 1, 0, 0, 1, 1, 0, 0, 1]), .inBlock 3, .code (sub c111 [1, 1, 0, 1, 0, 0, 1, 1, 0, 0, 1, 1, 1, 0, 0, 1, 1, 1]), .inLoop (sub c111 [1, 1, 0, 1, 0, 0, 1, 1, 0, 0, 1, 1, 1, 0, 0]), .inBlock 2, .inBlock 1, .code (sub c111 [1, 1, 0, 1, 0, 0, 1, 1, 1]), .inLoop (sub c111 [1, 1, 0, 1, 0, 0]), .inBlock 0, .code (sub c111 [1, 1, 1])]
noncomputable def K111_15 : List Item := [.code (sub c111 [1, 1, 0, 1, 0, 0, 1, 1, 0, 0, 1, 1, 1, 0, 0, 1, 1, 1]), .inLoop (sub c111 [1, 1, 0, 1, 0, 0, 1, 1, 0, 0, 1, 1, 1, 0, 0]), .inBlock 2, .inBlock 1, .code (sub c111 [1, 1, 0, 1, 0, 0, 1, 1, 1]), .inLoop (sub c111 [1, 1, 0, 1, 0, 0]), .inBlock 0, .code (sub c111 [1, 1, 1])]

def zeros2 (A B : Nat) : List (List Int) := List.replicate A (List.replicate B 0)
def zeros3 (I A B : Nat) : List (List (List Int)) := List.replicate I (zeros2 A B)
theorem zeros_in (B : Nat) : ∀ x ∈ List.replicate B (0 : Int), inR .i64 x := fun x hx => by
 rw [(List.mem_replicate.1 hx).2]; constructor <;> decide
theorem addI {n : Nat} (h : n ≤ 900) : Value.int .i64 (IntKind.i64.wrap ((n : Int) + 1)) = .int .i64 ((n + 1 : Nat) : Int) := by
 have := int64 (z := (n : Int) + 1) (by omega)
 rw [this]; congr 1
theorem flat_one {v : Value} (hv : v.cells.toList = [v]) (n : Nat) : (List.replicate n v.cells.toList).flatten = List.replicate n v := by
 rw [hv]
 induction n with
 | zero => rfl
 | succ k ih => rw [List.replicate_succ, List.flatten_cons, ih]; rfl
set_option maxHeartbeats 1000000 in
theorem sized_in {X : Ctx} {df : List Deferred} (bd od m bo nH nA nB cB i : Nat) (aB : Option Addr) (us : List Value) (tyM tyO : TypeId) (w0 : World) (hnB : nB ≤ 900) (hnA : nA ≤ 900) (hi : i < nH + 1) (hdm : bd ≠ m) (hom : bo ≠ m) (hcB : w0.cell? ⟨bd, od + 4, none⟩ = some (.slice aB nB cB)) (hO : Blk w0 bo us tyO) (hui : us[i]? = some (.slice (some ⟨m, 0, none⟩) (nA + 1) (nA + 1))) (hM : Blk w0 m (List.replicate (nA + 1) (.slice none 0 0)) tyM) (hsz : w0.heap.size = m + 1)
  (hk : ∀ vs w, Upd [m] w0 w → Blk w m vs tyM → RowsR w (m + 1) w.heap.size vs (zeros2 (nA + 1) (nB + 1)) → St Try.prog X 58 K111_13 [(0, (.pointer (some ⟨bd, od, none⟩))), (3, (.slice (some ⟨bo, 0, none⟩) (nH + 1) (nH + 1))), (20, (.int .i64 ((nH + 1 : Nat) : Int))), (21, (.int .i64 (i : Int)))] df w) :
  St Try.prog X 58 K111_10 [(39, .int .i64 0), (38, (.int .i64 ((nA + 1 : Nat) : Int))), (0, (.pointer (some ⟨bd, od, none⟩))), (3, (.slice (some ⟨bo, 0, none⟩) (nH + 1) (nH + 1))), (20, (.int .i64 ((nH + 1 : Nat) : Int))), (21, (.int .i64 (i : Int))), (4, (.int .i64 (i : Int)))] df w0 := by
 obtain ⟨-, -, by1, zv, hT, -⟩ := elemT_of (P := Try.prog) (t := 24) (e := 3) (y := .int .i64) (by kernel_rfl)
 have hT : ElemT Try.prog 24 3 1 by1 zv := hT
 have hz : zv = .int .i64 0 := by
  have h1 := hT.zero
  have h2 : Sem.pv Try.prog (zeroValue 3) = some (.int .i64 0) := by kernel_rfl
  rw [h2] at h1
  exact (Option.some.inj h1).symm
 subst hz
 have hbdl : bo < w0.heap.size := lt_of_blk hO
 have loop : ∀ (N a : Nat) (vs : List Value) (w : World), a ≤ nA + 1 → N = nA + 1 - a → Upd [m] w0 w → Blk w m (vs ++ List.replicate (nA + 1 - a) (.slice none 0 0)) tyM → RowsR w (m + 1) w.heap.size vs (zeros2 a (nB + 1)) →
   St Try.prog X 58 K111_10 [(39, (.int .i64 (a : Int))), (38, (.int .i64 ((nA + 1 : Nat) : Int))), (0, (.pointer (some ⟨bd, od, none⟩))), (3, (.slice (some ⟨bo, 0, none⟩) (nH + 1) (nH + 1))), (20, (.int .i64 ((nH + 1 : Nat) : Int))), (21, (.int .i64 (i : Int))), (4, (.int .i64 (i : Int)))] df w := by
  intro N
  induction N using Nat.strongRecOn with
  | ind N ih => ?_
  intro a vs w ha hN hu hb hR
  have hlen : vs.length = a := by rw [hR.len]; simp [zeros2]
  refine St.reg K111_11 [(0, true)] (by kernel_rfl) (by kernel_rfl) ?_
  refine RX.q 1 [] [(40, .bool (decide ((a : Int) < ((nA + 1 : Nat) : Int)))), (39, (.int .i64 (a : Int))), (38, (.int .i64 ((nA + 1 : Nat) : Int))), (0, (.pointer (some ⟨bd, od, none⟩))), (3, (.slice (some ⟨bo, 0, none⟩) (nH + 1) (nH + 1))), (20, (.int .i64 ((nH + 1 : Nat) : Int))), (21, (.int .i64 (i : Int))), (4, (.int .i64 (i : Int)))] [] (by kernel_rfl) trivial ?_
  refine RX.done [(40, .bool (decide ((a : Int) < ((nA + 1 : Nat) : Int)))), (39, (.int .i64 (a : Int))), (38, (.int .i64 ((nA + 1 : Nat) : Int))), (0, (.pointer (some ⟨bd, od, none⟩))), (3, (.slice (some ⟨bo, 0, none⟩) (nH + 1) (nH + 1))), (20, (.int .i64 ((nH + 1 : Nat) : Int))), (21, (.int .i64 (i : Int))), (4, (.int .i64 (i : Int)))] (by kernel_rfl) (by kernel_rfl) ?_
  refine St.cond (k1 := K111_12) (k2 := K111_13) (decide ((a : Int) < ((nA + 1 : Nat) : Int))) (by kernel_rfl) (fun hc => ?_) (fun hc => ?_)
  rotate_left
  ·have hh : ((nA + 1 : Nat) : Int) ≤ (a : Int) := by simpa using hc
   clear hc
   obtain rfl : a = nA + 1 := by omega
   exact St.weak (L' := [(0, (.pointer (some ⟨bd, od, none⟩))), (3, (.slice (some ⟨bo, 0, none⟩) (nH + 1) (nH + 1))), (20, (.int .i64 ((nH + 1 : Nat) : Int))), (21, (.int .i64 (i : Int)))]) (by kernel_rfl) (hk vs w hu (by simpa using hb) hR)
  have hh : (a : Int) < ((nA + 1 : Nat) : Int) := by simpa using hc
  clear hc
  have hal : a < nA + 1 := by omega
  refine St.weak (L' := [(39, (.int .i64 (a : Int))), (38, (.int .i64 ((nA + 1 : Nat) : Int))), (0, (.pointer (some ⟨bd, od, none⟩))), (3, (.slice (some ⟨bo, 0, none⟩) (nH + 1) (nH + 1))), (20, (.int .i64 ((nH + 1 : Nat) : Int))), (21, (.int .i64 (i : Int))), (4, (.int .i64 (i : Int)))]) (by kernel_rfl) ?_
  refine St.reg K111_14 [(0, true), (1, true)] (by kernel_rfl) (by kernel_rfl) ?_
  refine RX.q 2 [] [(5, (.int .i64 (a : Int))), (39, (.int .i64 (a : Int))), (38, (.int .i64 ((nA + 1 : Nat) : Int))), (0, (.pointer (some ⟨bd, od, none⟩))), (3, (.slice (some ⟨bo, 0, none⟩) (nH + 1) (nH + 1))), (20, (.int .i64 ((nH + 1 : Nat) : Int))), (21, (.int .i64 (i : Int))), (4, (.int .i64 (i : Int)))] [] (by kernel_rfl) trivial ?_
  refine RX.done [(5, (.int .i64 (a : Int))), (39, (.int .i64 (a : Int))), (38, (.int .i64 ((nA + 1 : Nat) : Int))), (0, (.pointer (some ⟨bd, od, none⟩))), (3, (.slice (some ⟨bo, 0, none⟩) (nH + 1) (nH + 1))), (20, (.int .i64 ((nH + 1 : Nat) : Int))), (21, (.int .i64 (i : Int))), (4, (.int .i64 (i : Int)))] (by kernel_rfl) (by kernel_rfl) ?_
  refine St.drw K111_15 [] [(0, true), (1, true), (2, true), (3, true), (4, true), (5, true), (6, true), (7, true), (8, true), (9, true), (10, true), (11, false), (12, true), (13, false)] mixed (by kernel_rfl) (by kernel_rfl) ?_
  intro w1 hd hds
  have hu1 : Upd [m] w0 w1 := Upd.ext hu hd
  have hixI : ∀ w', (Instr.indexAt 100 (.slice (some ⟨bo, 0, none⟩) (nH + 1) (nH + 1)) (.int .i64 (i : Int))).run Try.prog w' = .ok (.pointer (some ⟨bo, 0 + i * 1, none⟩)) w' := fun w' => idx_sl (e := 23) (sz := 1) (by kernel_rfl) (by kernel_rfl) bo 0 (nH + 1) (nH + 1) i hi _
  have hixA : ∀ w', (Instr.indexAt 23 (.slice (some ⟨m, 0, none⟩) (nA + 1) (nA + 1)) (.int .i64 (a : Int))).run Try.prog w' = .ok (.pointer (some ⟨m, 0 + a * 1, none⟩)) w' := fun w' => idx_sl (e := 24) (sz := 1) (by kernel_rfl) (by kernel_rfl) m 0 (nA + 1) (nA + 1) a hal _
  have hcI : w1.cell? ⟨bo, 0 + i * 1, none⟩ = some (.slice (some ⟨m, 0, none⟩) (nA + 1) (nA + 1)) := by
   rw [show 0 + i * 1 = i by omega]
   exact Blk.cell (hu1.blk hO (by simp [hom])) hui
  have hcB1 : w1.cell? ⟨bd, od + 4, none⟩ = some (.slice aB nB cB) := hu1.cell hcB (by simp [hdm])
  refine RX.qd 11 [(2, true, (.pointer (some ⟨bo, 0 + i * 1, none⟩))), (3, true, (.slice (some ⟨m, 0, none⟩) (nA + 1) (nA + 1))), (8, true, (.slice aB nB cB)), (10, false, (.int .i64 ((nB + 1 : Nat) : Int)))] [(52, (.int .i64 ((nB + 1 : Nat) : Int))), (45, (.slice (some ⟨m, 0, none⟩) (nA + 1) (nA + 1))), (46, (.int .i64 (a : Int))), (39, (.int .i64 (a : Int))), (38, (.int .i64 ((nA + 1 : Nat) : Int))), (0, (.pointer (some ⟨bd, od, none⟩))), (3, (.slice (some ⟨bo, 0, none⟩) (nH + 1) (nH + 1))), (20, (.int .i64 ((nH + 1 : Nat) : Int))), (21, (.int .i64 (i : Int))), (4, (.int .i64 (i : Int)))] [.raw (Instr.indexAt 100 (.slice (some ⟨bo, 0, none⟩) (nH + 1) (nH + 1)) (.int .i64 (i : Int))) (.pointer (some ⟨bo, 0 + i * 1, none⟩)), .cell ⟨bo, 0 + i * 1, none⟩ (.slice (some ⟨m, 0, none⟩) (nA + 1) (nA + 1)), .cell ⟨bd, od + 4, none⟩ (.slice aB nB cB), .eq (.int .i64 (IntKind.i64.wrap ((nB : Int) + 1))) (.int .i64 ((nB + 1 : Nat) : Int))] (by kernel_rfl) ⟨hixI _, hcI, hcB1, addI hnB⟩ ⟨fun w' _ => hixI w', List.not_mem_nil, List.not_mem_nil, trivial⟩ ?_
  obtain ⟨b, w2, hr2, hn2⟩ := makeSlice_run hT (nB + 1) (by omega) w1
  have hs2 := hn2.size; have ha2 := hn2.at_
  have hx2 : Ext w w2 := hd.trans hn2.ext
  refine RX.runD 53 (Instr.makeSlice 24 (.int .i64 ((nB + 1 : Nat) : Int)) (.int .i64 ((nB + 1 : Nat) : Int))) [(52, (.int .i64 ((nB + 1 : Nat) : Int))), (45, (.slice (some ⟨m, 0, none⟩) (nA + 1) (nA + 1))), (46, (.int .i64 (a : Int))), (39, (.int .i64 (a : Int))), (38, (.int .i64 ((nA + 1 : Nat) : Int))), (0, (.pointer (some ⟨bd, od, none⟩))), (3, (.slice (some ⟨bo, 0, none⟩) (nH + 1) (nH + 1))), (20, (.int .i64 ((nH + 1 : Nat) : Int))), (21, (.int .i64 (i : Int))), (4, (.int .i64 (i : Int)))] (by kernel_rfl) hr2 hn2.ext ?_
  refine RX.qd 1 [(12, true, (.pointer (some ⟨m, 0 + a * 1, none⟩)))] [(54, (.pointer (some ⟨m, 0 + a * 1, none⟩))), (53, (.slice (some ⟨b, 0, none⟩) (nB + 1) (nB + 1))), (39, (.int .i64 (a : Int))), (38, (.int .i64 ((nA + 1 : Nat) : Int))), (0, (.pointer (some ⟨bd, od, none⟩))), (3, (.slice (some ⟨bo, 0, none⟩) (nH + 1) (nH + 1))), (20, (.int .i64 ((nH + 1 : Nat) : Int))), (21, (.int .i64 (i : Int))), (4, (.int .i64 (i : Int)))] [.raw (Instr.indexAt 23 (.slice (some ⟨m, 0, none⟩) (nA + 1) (nA + 1)) (.int .i64 (a : Int))) (.pointer (some ⟨m, 0 + a * 1, none⟩))] (by kernel_rfl) (hixA _) (fun w' _ => hixA w') ?_
  rw [show 0 + a * 1 = a by omega]
  have hb2 : Blk w2 m (vs ++ List.replicate (nA + 1 - a) (.slice none 0 0)) tyM := Ext.blk hx2 hb
  have hml := lt_of_blk hb
  refine RX.store1L m a (.slice (some ⟨b, 0, none⟩) (nB + 1) (nB + 1)) (vs ++ List.replicate (nA + 1 - a) (.slice none 0 0)) tyM (by kernel_rfl) rfl hb2 (by simp; omega) (by kernel_rfl) ?_
  intro w3 hp
  have hs3 := hp.size
  refine RX.done [(39, (.int .i64 (a : Int))), (38, (.int .i64 ((nA + 1 : Nat) : Int))), (0, (.pointer (some ⟨bd, od, none⟩))), (3, (.slice (some ⟨bo, 0, none⟩) (nH + 1) (nH + 1))), (20, (.int .i64 ((nH + 1 : Nat) : Int))), (21, (.int .i64 (i : Int))), (4, (.int .i64 (i : Int)))] (by kernel_rfl) (by kernel_rfl) ?_
  refine St.reg K111_10 [(0, true), (1, true)] (by kernel_rfl) (by kernel_rfl) ?_
  refine RX.q 2 [(0, false, .int .i64 ((a : Int) + 1))] [(39, .int .i64 ((a : Int) + 1)), (38, (.int .i64 ((nA + 1 : Nat) : Int))), (0, (.pointer (some ⟨bd, od, none⟩))), (3, (.slice (some ⟨bo, 0, none⟩) (nH + 1) (nH + 1))), (20, (.int .i64 ((nH + 1 : Nat) : Int))), (21, (.int .i64 (i : Int))), (4, (.int .i64 (i : Int)))] [.eq (.int .i64 (IntKind.i64.wrap ((a : Int) + 1))) (.int .i64 ((a : Int) + 1))] (by kernel_rfl) (int64 (by omega)) ?_
  refine RX.done [(39, .int .i64 ((a : Int) + 1)), (38, (.int .i64 ((nA + 1 : Nat) : Int))), (0, (.pointer (some ⟨bd, od, none⟩))), (3, (.slice (some ⟨bo, 0, none⟩) (nH + 1) (nH + 1))), (20, (.int .i64 ((nH + 1 : Nat) : Int))), (21, (.int .i64 (i : Int))), (4, (.int .i64 (i : Int)))] (by kernel_rfl) (by kernel_rfl) ?_
  have hds1 := hd.size
  have hR2 : RowsR w2 (m + 1) w.heap.size vs (zeros2 a (nB + 1)) := RowsR.upd hx2 hR (fun k hk => by cases hk)
  have hBb : Blk w2 b ((List.replicate (nB + 1) (0 : Int)).map (.int .i64)) 3 := by
   have h := hn2.blk
   rw [flat_one rfl, ← List.map_replicate (f := Value.int .i64)] at h
   exact h
  have hR3 := RowsR.snoc (zeros_in (nB + 1)) (by simp; omega) hBb hR2 (by omega)
  have hR4 : RowsR w3 (m + 1) w3.heap.size (vs ++ [(.slice (some ⟨b, 0, none⟩) (nB + 1) (nB + 1))]) (zeros2 (a + 1) (nB + 1)) := by
   have h := RowsR.upd hp.upd hR3 (fun k hk => by simp at hk; omega)
   rw [List.length_replicate] at h
   have e : zeros2 a (nB + 1) ++ [List.replicate (nB + 1) 0] = zeros2 (a + 1) (nB + 1) := List.replicate_succ'.symm
   rw [e] at h
   exact h.hi (by omega)
  have hb3 : Blk w3 m ((vs ++ [(.slice (some ⟨b, 0, none⟩) (nB + 1) (nB + 1))]) ++ List.replicate (nA + 1 - (a + 1)) (.slice none 0 0)) tyM := by
   have h := hp.blk
   rw [show (vs ++ List.replicate (nA + 1 - a) (Value.slice none 0 0)).set a (.slice (some ⟨b, 0, none⟩) (nB + 1) (nB + 1)) = (vs ++ [(.slice (some ⟨b, 0, none⟩) (nB + 1) (nB + 1))]) ++ List.replicate (nA + 1 - (a + 1)) (.slice none 0 0) from by
    rw [show nA + 1 - a = (nA + 1 - (a + 1)) + 1 by omega, List.replicate_succ, List.set_append_right _ _ (by omega), hlen, Nat.sub_self]
    simp] at h
   exact h
  exact St.weak (by kernel_rfl) (ih _ (by omega) (a + 1) (vs ++ [(.slice (some ⟨b, 0, none⟩) (nB + 1) (nB + 1))]) w3 (by omega) rfl ((Upd.ext hu hx2).trans hp.upd) hb3 hR4)
 exact St.weak (by kernel_rfl) (loop _ 0 [] w0 (by omega) rfl (Upd.refl _ _) (by simpa using hM) (by rw [hsz]; exact Nat.le_refl _))
set_option maxHeartbeats 1000000 in
theorem sized_out {X : Ctx} {df : List Deferred} (bd od bo nH nA nB cA cB : Nat) (aA aB : Option Addr) (tyO : TypeId) (w0 : World) (hnB : nB ≤ 900) (hnA : nA ≤ 900) (hnH : nH ≤ 900) (hdb : bd < bo) (hcA : w0.cell? ⟨bd, od + 3, none⟩ = some (.slice aA nA cA)) (hcB : w0.cell? ⟨bd, od + 4, none⟩ = some (.slice aB nB cB)) (hO : Blk w0 bo (List.replicate (nH + 1) (.slice none 0 0)) tyO) (hsz : w0.heap.size = bo + 1)
  (hk : ∀ us w, Upd [bo] w0 w → Blk w bo us tyO → MidsR w (bo + 1) w.heap.size us (zeros3 (nH + 1) (nA + 1) (nB + 1)) → St Try.prog X 58 K111_6 [(3, (.slice (some ⟨bo, 0, none⟩) (nH + 1) (nH + 1)))] df w) :
  St Try.prog X 58 K111_3 [(21, .int .i64 0), (0, (.pointer (some ⟨bd, od, none⟩))), (3, (.slice (some ⟨bo, 0, none⟩) (nH + 1) (nH + 1))), (20, (.int .i64 ((nH + 1 : Nat) : Int)))] df w0 := by
 obtain ⟨-, -, by1, zv, hT, -⟩ := elemT_of (P := Try.prog) (t := 23) (e := 24) (y := .sl (.int .i64)) (by kernel_rfl)
 have hT : ElemT Try.prog 23 24 1 by1 zv := hT
 have hz : zv = .slice none 0 0 := by
  have h1 := hT.zero
  have h2 : Sem.pv Try.prog (zeroValue 24) = some (.slice none 0 0) := by kernel_rfl
  rw [h2] at h1
  exact (Option.some.inj h1).symm
 subst hz
 have loop : ∀ (N i : Nat) (us : List Value) (w : World), i ≤ nH + 1 → N = nH + 1 - i → Upd [bo] w0 w → Blk w bo (us ++ List.replicate (nH + 1 - i) (.slice none 0 0)) tyO → MidsR w (bo + 1) w.heap.size us (zeros3 i (nA + 1) (nB + 1)) →
   St Try.prog X 58 K111_3 [(21, (.int .i64 (i : Int))), (0, (.pointer (some ⟨bd, od, none⟩))), (3, (.slice (some ⟨bo, 0, none⟩) (nH + 1) (nH + 1))), (20, (.int .i64 ((nH + 1 : Nat) : Int)))] df w := by
  intro N
  induction N using Nat.strongRecOn with
  | ind N ih => ?_
  intro i us w hi hN hu hb hR
  have hlen : us.length = i := by rw [hR.len]; simp [zeros3]
  have hws := hu.size
  refine St.reg K111_4 [(0, true)] (by kernel_rfl) (by kernel_rfl) ?_
  refine RX.q 1 [] [(22, .bool (decide ((i : Int) < ((nH + 1 : Nat) : Int)))), (21, (.int .i64 (i : Int))), (0, (.pointer (some ⟨bd, od, none⟩))), (3, (.slice (some ⟨bo, 0, none⟩) (nH + 1) (nH + 1))), (20, (.int .i64 ((nH + 1 : Nat) : Int)))] [] (by kernel_rfl) trivial ?_
  refine RX.done [(22, .bool (decide ((i : Int) < ((nH + 1 : Nat) : Int)))), (21, (.int .i64 (i : Int))), (0, (.pointer (some ⟨bd, od, none⟩))), (3, (.slice (some ⟨bo, 0, none⟩) (nH + 1) (nH + 1))), (20, (.int .i64 ((nH + 1 : Nat) : Int)))] (by kernel_rfl) (by kernel_rfl) ?_
  refine St.cond (k1 := K111_5) (k2 := K111_6) (decide ((i : Int) < ((nH + 1 : Nat) : Int))) (by kernel_rfl) (fun hc => ?_) (fun hc => ?_)
  rotate_left
  ·have hh : ((nH + 1 : Nat) : Int) ≤ (i : Int) := by simpa using hc
   clear hc
   obtain rfl : i = nH + 1 := by omega
   exact St.weak (L' := [(3, (.slice (some ⟨bo, 0, none⟩) (nH + 1) (nH + 1)))]) (by kernel_rfl) (hk us w hu (by simpa using hb) hR)
  have hh : (i : Int) < ((nH + 1 : Nat) : Int) := by simpa using hc
  clear hc
  have hil : i < nH + 1 := by omega
  refine St.weak (L' := [(21, (.int .i64 (i : Int))), (0, (.pointer (some ⟨bd, od, none⟩))), (3, (.slice (some ⟨bo, 0, none⟩) (nH + 1) (nH + 1))), (20, (.int .i64 ((nH + 1 : Nat) : Int)))]) (by kernel_rfl) ?_
  refine St.reg K111_7 [(0, true), (1, true)] (by kernel_rfl) (by kernel_rfl) ?_
  refine RX.q 2 [] [(4, (.int .i64 (i : Int))), (21, (.int .i64 (i : Int))), (0, (.pointer (some ⟨bd, od, none⟩))), (3, (.slice (some ⟨bo, 0, none⟩) (nH + 1) (nH + 1))), (20, (.int .i64 ((nH + 1 : Nat) : Int)))] [] (by kernel_rfl) trivial ?_
  refine RX.done [(4, (.int .i64 (i : Int))), (21, (.int .i64 (i : Int))), (0, (.pointer (some ⟨bd, od, none⟩))), (3, (.slice (some ⟨bo, 0, none⟩) (nH + 1) (nH + 1))), (20, (.int .i64 ((nH + 1 : Nat) : Int)))] (by kernel_rfl) (by kernel_rfl) ?_
  have hcA1 : w.cell? ⟨bd, od + 3, none⟩ = some (.slice aA nA cA) := hu.cell hcA (by simp; omega)
  have hcB1 : w.cell? ⟨bd, od + 4, none⟩ = some (.slice aB nB cB) := hu.cell hcB (by simp; omega)
  have hixI : ∀ w', (Instr.indexAt 100 (.slice (some ⟨bo, 0, none⟩) (nH + 1) (nH + 1)) (.int .i64 (i : Int))).run Try.prog w' = .ok (.pointer (some ⟨bo, 0 + i * 1, none⟩)) w' := fun w' => idx_sl (e := 23) (sz := 1) (by kernel_rfl) (by kernel_rfl) bo 0 (nH + 1) (nH + 1) i hil _
  refine St.reg K111_9 [(0, true), (1, true), (2, true), (3, true), (4, true), (5, true), (6, true), (7, true), (8, false), (9, true), (10, false)] (by kernel_rfl) (by kernel_rfl) ?_
  refine RX.q 8 [(5, true, (.slice aA nA cA)), (7, false, (.int .i64 ((nA + 1 : Nat) : Int)))] [(31, (.int .i64 ((nA + 1 : Nat) : Int))), (24, (.slice (some ⟨bo, 0, none⟩) (nH + 1) (nH + 1))), (25, (.int .i64 (i : Int))), (4, (.int .i64 (i : Int))), (21, (.int .i64 (i : Int))), (0, (.pointer (some ⟨bd, od, none⟩))), (3, (.slice (some ⟨bo, 0, none⟩) (nH + 1) (nH + 1))), (20, (.int .i64 ((nH + 1 : Nat) : Int)))] [.cell ⟨bd, od + 3, none⟩ (.slice aA nA cA), .eq (.int .i64 (IntKind.i64.wrap ((nA : Int) + 1))) (.int .i64 ((nA + 1 : Nat) : Int))] (by kernel_rfl) ⟨hcA1, addI hnA⟩ ?_
  obtain ⟨m, w2, hr2, hn2⟩ := makeSlice_run hT (nA + 1) (by omega) w
  have hs2 := hn2.size; have ha2 := hn2.at_
  refine RX.run 32 (Instr.makeSlice 23 (.int .i64 ((nA + 1 : Nat) : Int)) (.int .i64 ((nA + 1 : Nat) : Int))) [(31, (.int .i64 ((nA + 1 : Nat) : Int))), (24, (.slice (some ⟨bo, 0, none⟩) (nH + 1) (nH + 1))), (25, (.int .i64 (i : Int))), (4, (.int .i64 (i : Int))), (21, (.int .i64 (i : Int))), (0, (.pointer (some ⟨bd, od, none⟩))), (3, (.slice (some ⟨bo, 0, none⟩) (nH + 1) (nH + 1))), (20, (.int .i64 ((nH + 1 : Nat) : Int)))] (by kernel_rfl) hr2 ?_
  refine RX.q 1 [(9, true, (.pointer (some ⟨bo, 0 + i * 1, none⟩)))] [(33, (.pointer (some ⟨bo, 0 + i * 1, none⟩))), (32, (.slice (some ⟨m, 0, none⟩) (nA + 1) (nA + 1))), (4, (.int .i64 (i : Int))), (21, (.int .i64 (i : Int))), (0, (.pointer (some ⟨bd, od, none⟩))), (3, (.slice (some ⟨bo, 0, none⟩) (nH + 1) (nH + 1))), (20, (.int .i64 ((nH + 1 : Nat) : Int)))] [.raw (Instr.indexAt 100 (.slice (some ⟨bo, 0, none⟩) (nH + 1) (nH + 1)) (.int .i64 (i : Int))) (.pointer (some ⟨bo, 0 + i * 1, none⟩))] (by kernel_rfl) (hixI _) ?_
  rw [show 0 + i * 1 = i by omega]
  have hb2 : Blk w2 bo (us ++ List.replicate (nH + 1 - i) (.slice none 0 0)) tyO := Ext.blk hn2.ext hb
  have hbl := lt_of_blk hb
  refine RX.store1 bo i (.slice (some ⟨m, 0, none⟩) (nA + 1) (nA + 1)) (us ++ List.replicate (nH + 1 - i) (.slice none 0 0)) tyO (by kernel_rfl) rfl hb2 (by simp; omega) ?_
  intro w3 hp
  have hs3 := hp.size
  refine RX.done [(4, (.int .i64 (i : Int))), (21, (.int .i64 (i : Int))), (0, (.pointer (some ⟨bd, od, none⟩))), (3, (.slice (some ⟨bo, 0, none⟩) (nH + 1) (nH + 1))), (20, (.int .i64 ((nH + 1 : Nat) : Int)))] (by kernel_rfl) (by kernel_rfl) ?_
  have hb3 : Blk w3 bo ((us ++ [(.slice (some ⟨m, 0, none⟩) (nA + 1) (nA + 1))]) ++ List.replicate (nH + 1 - (i + 1)) (.slice none 0 0)) tyO := by
   have h := hp.blk
   rw [show (us ++ List.replicate (nH + 1 - i) (Value.slice none 0 0)).set i (.slice (some ⟨m, 0, none⟩) (nA + 1) (nA + 1)) = (us ++ [(.slice (some ⟨m, 0, none⟩) (nA + 1) (nA + 1))]) ++ List.replicate (nH + 1 - (i + 1)) (.slice none 0 0) from by
    rw [show nH + 1 - i = (nH + 1 - (i + 1)) + 1 by omega, List.replicate_succ, List.set_append_right _ _ (by omega), hlen, Nat.sub_self]
    simp] at h
   exact h
  have hui : ((us ++ [(.slice (some ⟨m, 0, none⟩) (nA + 1) (nA + 1))]) ++ List.replicate (nH + 1 - (i + 1)) (Value.slice none 0 0))[i]? = some (.slice (some ⟨m, 0, none⟩) (nA + 1) (nA + 1)) := by
   rw [List.append_assoc, List.getElem?_append_right (by omega), hlen, Nat.sub_self]; rfl
  have hMb : Blk w3 m (List.replicate (nA + 1) (.slice none 0 0)) 24 := by
   have h := hn2.blk
   rw [flat_one rfl] at h
   exact hp.upd.blk h (by simp; omega)
  refine St.reg K111_10 [(0, true), (1, true), (2, true), (3, true), (4, true), (5, true)] (by kernel_rfl) (by kernel_rfl) ?_
  refine RX.q 6 [(2, true, (.pointer (some ⟨bo, 0 + i * 1, none⟩))), (3, true, (.slice (some ⟨m, 0, none⟩) (nA + 1) (nA + 1)))] [(39, .int .i64 0), (38, (.int .i64 ((nA + 1 : Nat) : Int))), (0, (.pointer (some ⟨bd, od, none⟩))), (3, (.slice (some ⟨bo, 0, none⟩) (nH + 1) (nH + 1))), (20, (.int .i64 ((nH + 1 : Nat) : Int))), (21, (.int .i64 (i : Int))), (4, (.int .i64 (i : Int)))] [.raw (Instr.indexAt 100 (.slice (some ⟨bo, 0, none⟩) (nH + 1) (nH + 1)) (.int .i64 (i : Int))) (.pointer (some ⟨bo, 0 + i * 1, none⟩)), .cell ⟨bo, 0 + i * 1, none⟩ (.slice (some ⟨m, 0, none⟩) (nA + 1) (nA + 1))] (by kernel_rfl) ⟨hixI _, by rw [show 0 + i * 1 = i by omega]; exact Blk.cell hb3 hui⟩ ?_
  refine RX.done [(39, .int .i64 0), (38, (.int .i64 ((nA + 1 : Nat) : Int))), (0, (.pointer (some ⟨bd, od, none⟩))), (3, (.slice (some ⟨bo, 0, none⟩) (nH + 1) (nH + 1))), (20, (.int .i64 ((nH + 1 : Nat) : Int))), (21, (.int .i64 (i : Int))), (4, (.int .i64 (i : Int)))] (by kernel_rfl) (by kernel_rfl) ?_
  refine sized_in bd od m bo nH nA nB cB i aB _ 24 tyO w3 hnB hnA hil (by omega) (by omega) (hp.upd.cell (Upd.cell hn2.ext hcB1 (by simp)) (by simp; omega)) hb3 hui hMb (by omega) ?_
  intro vs w4 hu4 hM4 hR4
  have hs4 := hu4.size
  refine St.reg K111_3 [(0, true), (1, true)] (by kernel_rfl) (by kernel_rfl) ?_
  refine RX.q 2 [(0, false, .int .i64 ((i : Int) + 1))] [(21, .int .i64 ((i : Int) + 1)), (0, (.pointer (some ⟨bd, od, none⟩))), (3, (.slice (some ⟨bo, 0, none⟩) (nH + 1) (nH + 1))), (20, (.int .i64 ((nH + 1 : Nat) : Int)))] [.eq (.int .i64 (IntKind.i64.wrap ((i : Int) + 1))) (.int .i64 ((i : Int) + 1))] (by kernel_rfl) (int64 (by omega)) ?_
  refine RX.done [(21, .int .i64 ((i : Int) + 1)), (0, (.pointer (some ⟨bd, od, none⟩))), (3, (.slice (some ⟨bo, 0, none⟩) (nH + 1) (nH + 1))), (20, (.int .i64 ((nH + 1 : Nat) : Int)))] (by kernel_rfl) (by kernel_rfl) ?_
  have hR2 : MidsR w4 (bo + 1) w.heap.size us (zeros3 i (nA + 1) (nB + 1)) := MidsR.upd hu4 (MidsR.upd hp.upd (MidsR.upd hn2.ext hR (fun k hk => by cases hk)) (fun k hk => by simp at hk; omega)) (fun k hk => by simp at hk; omega)
  have hF : (zeros2 (nA + 1) (nB + 1)).length = nA + 1 := by simp [zeros2]
  have hR5 := MidsR.snoc (by omega) hM4 hR4 hR2 (by omega)
  rw [hF, show zeros3 i (nA + 1) (nB + 1) ++ [zeros2 (nA + 1) (nB + 1)] = zeros3 (i + 1) (nA + 1) (nB + 1) from List.replicate_succ'.symm] at hR5
  exact St.weak (by kernel_rfl) (ih _ (by omega) (i + 1) _ w4 (by omega) rfl (((Upd.ext hu hn2.ext).trans hp.upd).trans_old hu4 (fun k hk => by simp at hk; omega)) (hu4.blk hb3 (by simp; omega)) hR5)
 exact St.weak (by kernel_rfl) (loop _ 0 [] w0 (by omega) rfl (Upd.refl _ _) (by simpa using hO) (by rw [hsz]; exact Nat.le_refl _))
set_option maxHeartbeats 1000000 in
theorem sized_fn (bd od nH nA nB cH cA cB : Nat) (aH aA aB : Option Addr) (w : World) (hnB : nB ≤ 900) (hnA : nA ≤ 900) (hnH : nH ≤ 900) (hbd : bd < w.heap.size) (hcH : w.cell? ⟨bd, od + 1, none⟩ = some (.slice aH nH cH)) (hcA : w.cell? ⟨bd, od + 3, none⟩ = some (.slice aA nA cA)) (hcB : w.cell? ⟨bd, od + 4, none⟩ = some (.slice aB nB cB)) :
  Fn Try.prog 111 #[(.pointer (some ⟨bd, od, none⟩))] w (fun v w' => Ext w w' ∧ ∃ bo us ty, v = (.slice (some ⟨bo, 0, none⟩) (nH + 1) (nH + 1)) ∧ w.heap.size ≤ bo ∧ Blk w' bo us ty ∧ MidsR w' (bo + 1) w'.heap.size us (zeros3 (nH + 1) (nA + 1) (nB + 1))) := by
 obtain ⟨-, -, by1, zv, hT, -⟩ := elemT_of (P := Try.prog) (t := 100) (e := 23) (y := .sl (.sl (.int .i64))) (by kernel_rfl)
 have hT : ElemT Try.prog 100 23 1 by1 zv := hT
 have hz : zv = .slice none 0 0 := by
  have h1 := hT.zero
  have h2 : Sem.pv Try.prog (zeroValue 23) = some (.slice none 0 0) := by kernel_rfl
  rw [h2] at h1
  exact (Option.some.inj h1).symm
 subst hz
 refine Fn.ofSt (c := c111) 58 K111_0 [(0, (.pointer (some ⟨bd, od, none⟩)))] Try.func111 (by kernel_rfl) ⟨⟨rfl, by kernel_rfl⟩, by kernel_rfl⟩ (by kernel_rfl) ?_
 intro cs
 refine St.reg K111_1 [(0, true)] (by kernel_rfl) (by kernel_rfl) ?_
 refine RX.q 1 [] [(0, (.pointer (some ⟨bd, od, none⟩)))] [] (by kernel_rfl) trivial ?_
 refine RX.done [(0, (.pointer (some ⟨bd, od, none⟩)))] (by kernel_rfl) (by kernel_rfl) ?_
 refine St.reg K111_2 [(0, true), (1, true), (2, true), (3, true), (4, true), (5, true), (6, true), (7, false), (8, true)] (by kernel_rfl) (by kernel_rfl) ?_
 refine RX.q 7 [(4, true, (.slice aH nH cH)), (6, false, (.int .i64 ((nH + 1 : Nat) : Int)))] [(12, (.int .i64 ((nH + 1 : Nat) : Int))), (0, (.pointer (some ⟨bd, od, none⟩)))] [.cell ⟨bd, od + 1, none⟩ (.slice aH nH cH), .eq (.int .i64 (IntKind.i64.wrap ((nH : Int) + 1))) (.int .i64 ((nH + 1 : Nat) : Int))] (by kernel_rfl) ⟨hcH, addI hnH⟩ ?_
 obtain ⟨bo, w2, hr2, hn2⟩ := makeSlice_run hT (nH + 1) (by omega) w
 have hs2 := hn2.size; have ha2 := hn2.at_
 refine RX.run 13 (Instr.makeSlice 100 (.int .i64 ((nH + 1 : Nat) : Int)) (.int .i64 ((nH + 1 : Nat) : Int))) [(12, (.int .i64 ((nH + 1 : Nat) : Int))), (0, (.pointer (some ⟨bd, od, none⟩)))] (by kernel_rfl) hr2 ?_
 refine RX.q 1 [] [(0, (.pointer (some ⟨bd, od, none⟩))), (3, (.slice (some ⟨bo, 0, none⟩) (nH + 1) (nH + 1)))] [] (by kernel_rfl) trivial ?_
 refine RX.done [(0, (.pointer (some ⟨bd, od, none⟩))), (3, (.slice (some ⟨bo, 0, none⟩) (nH + 1) (nH + 1)))] (by kernel_rfl) (by kernel_rfl) ?_
 refine St.reg K111_3 [(0, true), (1, true), (2, true), (3, true), (4, true), (5, true), (6, true), (7, true)] (by kernel_rfl) (by kernel_rfl) ?_
 refine RX.q 8 [(4, true, (.slice aH nH cH)), (6, false, (.int .i64 ((nH + 1 : Nat) : Int)))] [(21, .int .i64 0), (0, (.pointer (some ⟨bd, od, none⟩))), (3, (.slice (some ⟨bo, 0, none⟩) (nH + 1) (nH + 1))), (20, (.int .i64 ((nH + 1 : Nat) : Int)))] [.cell ⟨bd, od + 1, none⟩ (.slice aH nH cH), .eq (.int .i64 (IntKind.i64.wrap ((nH : Int) + 1))) (.int .i64 ((nH + 1 : Nat) : Int))] (by kernel_rfl) ⟨Upd.cell hn2.ext hcH (by simp), addI hnH⟩ ?_
 refine RX.done [(21, .int .i64 0), (0, (.pointer (some ⟨bd, od, none⟩))), (3, (.slice (some ⟨bo, 0, none⟩) (nH + 1) (nH + 1))), (20, (.int .i64 ((nH + 1 : Nat) : Int)))] (by kernel_rfl) (by kernel_rfl) ?_
 refine sized_out bd od bo nH nA nB cA cB aA aB 23 w2 hnB hnA hnH (by omega) (Upd.cell hn2.ext hcA (by simp)) (Upd.cell hn2.ext hcB (by simp)) (by have h := hn2.blk; rw [flat_one rfl] at h; exact h) (by omega) ?_
 intro us w3 hu3 hb3 hR3
 refine St.reg K111_8 [(0, true), (1, true)] (by kernel_rfl) (by kernel_rfl) ?_
 refine RX.q 2 [] [(2, (.slice (some ⟨bo, 0, none⟩) (nH + 1) (nH + 1)))] [] (by kernel_rfl) trivial ?_
 refine RX.done [(2, (.slice (some ⟨bo, 0, none⟩) (nH + 1) (nH + 1)))] (by kernel_rfl) (by kernel_rfl) ?_
 refine St.ret [.tmp 2] [(.slice (some ⟨bo, 0, none⟩) (nH + 1) (nH + 1))] (by kernel_rfl) Try.func111 (by kernel_rfl) (.cons (.tmp rfl) .nil) ?_
 refine ⟨?_, bo, us, 23, rfl, by omega, hb3, hR3⟩
 exact (Upd.trans_old hn2.ext hu3 (fun k hk => by simp at hk; omega))
end Go.Proofs.Ytfcnhnbnjdccfaa

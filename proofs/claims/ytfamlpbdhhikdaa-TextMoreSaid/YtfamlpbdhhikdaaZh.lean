/-
  Parts of a proof, put together: TN1.
  Conditions: none.
-/
import Derived.Test.YtfamlpbdhhikdaaZg
namespace Go.Proofs.Ytfamlpbdhhikdaa
set_option linter.all false
open Go

section
variable {N : Nat}
theorem copyxo_v {ws : List Wd} {ts : List Tn} {br_ : Int} (hw : ws.length ≤ 1000) (ht : ts.length ≤ 1000) : copyxo_S N ws ts br_ = some (br_, ws, ts) := by
  unfold copyxo_S copywo_S copyto_S
  rw [grd_eq (lmI_iff.2 (by omega)), grd_eq (lmI_iff.2 (by omega))]
  simp
theorem ixftm_gen (f : List Int) : ∀ (n : Nat) (l : List Int) (u u2 : Int), ixftm_l1 N n l f u u2 = ixL (fun x => tmore1_S N x f) n l u u2
  | 0, _, _, _ => rfl
  | n + 1, l, u, u2 => by unfold ixftm_l1 ixL; simp only [ixftm_gen f n]
theorem coftm_v {u f : List Int} (hu : u.length ≤ 1000) (hf : f.length ≤ 1000) (hN : u.length < N) (hN2 : f.length < N) : coftm_S N u f = some (u.any fun x => !f.contains x) := by
  have h := ixS_any (f := fun x => tmore1_S N x f) (p := fun x => !f.contains x) (s := u) (N := N) (fun x _ => by
    unfold tmore1_S
    rw [containsi_v hf hN2]; rfl) (by omega) hN
  unfold coftm_S ixftm_S
  unfold ixS at h
  rw [ixftm_gen]
  exact h
/-- What is known of the text from which the others are made. -/
def BaseT (ws : List Wd) (ts : List Tn) (br_ : Int) (l : List Int) (e n long : Int) (never : List Int) : Prop :=
  n = ((goodsT ws ts br_ 0).length : Int) ∧ never.length ≤ 100 ∧
  (e = 0 ∧ goodB (rightR ws ts br_) ws.length 0 l = true ∧ (∃ l', goodB (rightR ws ts br_) ws.length 0 l' = true ∧ longF ws l' 0 = long) ∧ never = nvK (rightR ws ts br_) ws.length ws.length ∨ e = 6)
theorem tmore_step (hN : 110 ≤ N) {ws ws' : List Wd} {ts ts' : List Tn} {br_ br' e n long : Int} {l never : List Int} (hF : TFine ws ts br_) (hF' : TFine ws' ts' br') (hl : ws'.length = ws.length) (hsy : ∀ a b, sylR ws' a b = sylR ws a b)
    (hR : ∀ a b, rightR ws ts br_ a b = true → rightR ws' ts' br' a b = true) (hB : BaseT ws ts br_ l e n long never) {g : List Tx} {k f : Nat} (hg : g.getD k ([], [], 0) = (ws', ts', br')) (hk : k < g.length) (hk2 : k < 10) {u : Int} (hu : (k : Int) < u) :
    tmore_l1 N (f + 1) l e n long u k never g = tmore_l1 N f l e n long u ((k : Int) + 1) never g := by
  have hn := hF.n; have ht := hF.t; have hn0 := hF.n0; have ht' := hF'.t
  have c' := checkT_of hF'
  obtain ⟨hB1, hB2, hB3⟩ := hB
  have hcnt : n ≤ ((goodsT ws' ts' br' 0).length : Int) := by
    have h : (goodsL (rightR ws ts br_) ws.length 0).length ≤ (goodsL (rightR ws' ts' br') ws.length 0).length := goodsL_more hR hn (Nat.zero_le _)
    have e : goodsT ws' ts' br' 0 = goodsL (rightR ws' ts' br') ws.length 0 := by unfold goodsT; rw [hl]
    rw [e, hB1]
    exact Int.ofNat_le.2 h
  rw [tmore_l1, br_dec hu, rng_eq (by omega), Int.toNat_natCast, get_get ([], [], 0) hk, hg]
  dsimp only
  rw [count_v hN (by omega) (by omega), never_v hN (by omega) (by omega)]
  have ec : countR ws' ts' br' = (((goodsT ws' ts' br' 0).length : Int), 0) := by unfold countR; rw [if_neg (by simpa using c')]
  rw [ec]
  rcases hB3 with ⟨he, hg1, ⟨le, hg2, hlong⟩, hnv⟩ | he
  · subst he
    have hgl : goodB (rightR ws' ts' br') ws'.length 0 l = true := by rw [hl]; exact good_more hR hg1
    have hgle : goodB (rightR ws' ts' br') ws'.length 0 le = true := by rw [hl]; exact good_more hR hg2
    have hne : goodsT ws' ts' br' 0 ≠ [] := fun e => by
      have := (mem_goodsL (R := rightR ws' ts' br') (a := 0) (Nat.zero_le _) hF'.n).2 hgl
      rw [show goodsL (rightR ws' ts' br') ws'.length 0 = [] from e] at this; cases this
    have en : neverR ws' ts' br' = (nvK (rightR ws' ts' br') ws.length ws.length, 0) := by unfold neverR; rw [if_neg (by simpa using c'), if_neg hne, hl]
    rw [en]
    have hfew : ∃ k, fewest_S N ws' ts' br' = some (k, 0) ∧ k.length ≤ l.length := by
      rcases fewest_v hN (ws := ws') (ts := ts') (br_ := br') (by omega) (by omega) with ⟨c, _⟩ | ⟨_, ⟨k, e1, h1, h2⟩ | ⟨_, h⟩⟩
      · exact absurd c' c
      · have := h2.le l hgl
        exact ⟨k, e1, by omega⟩
      · rw [h l] at hgl; cases hgl
    have hev : ∃ k q, even_S N ws' ts' br' = some (k, q, 0) ∧ q ≤ long := by
      rcases even_v hN (ws := ws') (ts := ts') (br_ := br') (by omega) (by omega) with ⟨c, _⟩ | ⟨_, ⟨k, q, e1, _, _, _, h2⟩ | ⟨_, h⟩⟩
      · exact absurd c' c
      · have := (h2 le hgle).1
        rw [long_same hsy, hlong] at this
        exact ⟨k, q, e1, this⟩
      · rw [h l] at hgl; cases hgl
    obtain ⟨k1, e1, h1⟩ := hfew
    obtain ⟨k2, q, e2, h2⟩ := hev
    have hlen' := nvK_len (rightR ws' ts' br') ws.length ws.length
    have hany : ((nvK (rightR ws' ts' br') ws.length ws.length).any fun x => !never.contains x) = false := by
      rw [List.any_eq_false]
      intro x hx
      obtain ⟨p, hp, rfl⟩ := List.mem_map.1 hx
      obtain ⟨p1, p2⟩ := List.mem_filter.1 hp
      have p1' : p < ws.length := by simpa using p1
      rw [hnv, nvK_mem hN hF, decide_eq_true p1', Bool.true_and, Bool.not_not]
      intro hb
      rw [brk_more hR hn (by omega) hb] at p2
      cases p2
    rw [e1, e2]
    simp only [Option.bind_some]
    rw [br_nd (by first | trivial | rfl), br_ndec (by omega), br_dec (by first | trivial | rfl), br_nd (by first | trivial | rfl), br_nd (by first | trivial | rfl), br_nd (by first | trivial | rfl), br_ndec (by omega), br_ndec (by omega), coftm_v (by omega) (by omega) (by omega) (by omega), hany]
    simp only [Option.bind_some]
    rw [br_false, chk_eq (by omega)]
  · subst he
    have hfew : ∃ k e', fewest_S N ws' ts' br' = some (k, e') := by
      rcases fewest_v hN (ws := ws') (ts := ts') (br_ := br') (by omega) (by omega) with ⟨_, h⟩ | ⟨_, ⟨k, e1, _⟩ | ⟨h, _⟩⟩
      · exact ⟨_, _, h⟩
      · exact ⟨_, _, e1⟩
      · exact ⟨_, _, h⟩
    have hev : ∃ k q e', even_S N ws' ts' br' = some (k, q, e') := by
      rcases even_v hN (ws := ws') (ts := ts') (br_ := br') (by omega) (by omega) with ⟨_, h⟩ | ⟨_, ⟨k, q, e1, _⟩ | ⟨h, _⟩⟩
      · exact ⟨_, _, _, h⟩
      · exact ⟨_, _, _, e1⟩
      · exact ⟨_, _, _, h⟩
    obtain ⟨k1, e1, h1⟩ := hfew
    obtain ⟨k2, q, e2, h2⟩ := hev
    rw [h1, h2]
    simp only [Option.bind_some]
    rw [br_nd (by first | trivial | rfl), br_ndec (by omega), br_ndec (by decide), chk_eq (by omega)]
end
theorem tmore_true {ns : List Int} {which longer : Int} (h1 : Ty.inB (.sl (.int .u8)) ns) (h2 : Ty.inB (.int .u8) which) (h3 : Ty.inB (.int .u8) longer) : tmore_S 1100 ns which longer = some true := by
  have aw : ((awake_S 1100).bind fun x => some x) = some true := by rw [awake_v]; rfl
  have l1 : ns.length ≤ 9223372036854775807 := h1.1
  have w0 := u8_in h2
  have g0 := u8_in h3
  unfold tmore_S hang_S
  simp only [Option.bind_some]
  obtain ⟨⟨ws, ts, br_, b, b2, b3⟩, em, hF, hm, hb⟩ := made_v (N := 1100) (b := ns) (by omega) (words := 10) (turns := 3) (b2 := 0) (b3 := 0) (by omega) (by omega) ⟨l1, by omega, by omega⟩
  dsimp only at hF hm hb
  rw [em]
  simp only [Option.bind_some]
  have hn := hF.n; have ht := hF.t; have hn0 := hF.n0; have hbr := hF.b0; have hbr1 := hF.b1
  have c0 := checkT_of hF
  rw [copyxo_v (by omega) (by omega)]
  simp only [Option.bind_some]
  rw [IntWalk.i64_in which (by omega), IntWalk.i64_in longer (by omega), Int.tmod_eq_emod_of_nonneg (by omega : 0 ≤ longer)]
  have hp : 0 ≤ longer % 9 ∧ longer % 9 < 9 := by omega
  generalize longer % 9 = lg at hp ⊢
  rw [grd_eq (by simp only [Bool.not_eq_true', decide_eq_false_iff_not]; omega)]
  obtain ⟨i, hi, hil⟩ : ∃ i : Nat, Int.tmod which (ws.length : Int) = i ∧ i < ws.length := by
    refine ⟨(Int.tmod which (ws.length : Int)).toNat, ?_, ?_⟩
    · have := Int.tmod_nonneg (ws.length : Int) w0.1; omega
    · have := Int.tmod_lt_of_pos which (show (0 : Int) < ws.length by omega)
      have := Int.tmod_nonneg (ws.length : Int) w0.1; omega
  rw [hi, rng_eq (by omega), Int.toNat_natCast, get_get (0, 0, false) hil, chk_eq (by omega)]
  have hst : ws.set i ((ws.getD i (0, 0, false)).1, (ws.getD i (0, 0, false)).2.1, true) = stp ws i := rfl
  rw [hst]
  have hF1 : TFine (stp ws i) ts br_ := by
    refine ⟨by rw [stp_len]; exact hn0, by rw [stp_len]; exact hn, ht, hbr, hbr1, fun w hw => ?_, by rw [stp_len]; exact hF.x⟩
    rcases List.mem_or_eq_of_mem_set hw with hw | rfl
    · exact hF.w w hw
    · exact hF.w (ws.getD i (0, 0, false)) (getD_mem hil)
  have hF2 : TFine ws ts (min 40 (br_ + lg)) := ⟨hn0, hn, ht, by omega, by omega, hF.w, hF.x⟩
  have hj : ∀ ts2 : List Tn, TFine ws ts2 br_ → (∀ a b, rightR ws ts br_ a b = true → rightR ws ts2 br_ a b = true) → tmore_j1 1100 ws ts br_ br_ (min 40 (br_ + lg)) br_ (stp ws i) ts ws ts ws ts2 = some true := by
    intro ts2 hF3 hR3
    unfold tmore_j1
    rw [count_v (by omega) (by omega) (by omega), never_v (by omega) (by omega) (by omega)]
    have ec : countR ws ts br_ = (((goodsT ws ts br_ 0).length : Int), 0) := by unfold countR; rw [if_neg (by simpa using c0)]
    rw [ec]
    have loop : ∀ (l : List Int) (e long : Int) (never : List Int), BaseT ws ts br_ l e ((goodsT ws ts br_ 0).length : Int) long never →
        tmore_l1 1100 1100 l e ((goodsT ws ts br_ 0).length : Int) long ([((stp ws i), ts, br_), (ws, ts, (min 40 (br_ + lg))), (ws, ts2, br_)].length : Int) 0 never [((stp ws i), ts, br_), (ws, ts, (min 40 (br_ + lg))), (ws, ts2, br_)] = some (.inr ()) := by
      intro l e long never hB
      have s0 := tmore_step (N := 1100) (by omega) hF hF1 (stp_len ws i) (fun a b => stp_syl hil a b) (fun a b h => right_stop hil h) hB (g := [((stp ws i), ts, br_), (ws, ts, (min 40 (br_ + lg))), (ws, ts2, br_)]) (k := 0) (f := 1099) (u := 3) rfl (by simp) (by omega) (by omega)
      have s1 := tmore_step (N := 1100) (by omega) hF hF2 rfl (fun _ _ => rfl) (fun a b h => right_breath (by omega) h) hB (g := [((stp ws i), ts, br_), (ws, ts, (min 40 (br_ + lg))), (ws, ts2, br_)]) (k := 1) (f := 1098) (u := 3) rfl (by simp) (by omega) (by omega)
      have s2 := tmore_step (N := 1100) (by omega) hF hF3 rfl (fun _ _ => rfl) hR3 hB (g := [((stp ws i), ts, br_), (ws, ts, (min 40 (br_ + lg))), (ws, ts2, br_)]) (k := 2) (f := 1097) (u := 3) rfl (by simp) (by omega) (by omega)
      simp only [Int.natCast_zero, Int.natCast_one, Int.zero_add] at s0 s1
      rw [show ((([((stp ws i), ts, br_), (ws, ts, (min 40 (br_ + lg))), (ws, ts2, br_)] : List Tx).length : Nat) : Int) = 3 from rfl, s0, s1]
      rw [show (1 : Int) + 1 = ((2 : Nat) : Int) from rfl, s2, tmore_l1, br_ndec (by decide)]
    by_cases g0 : goodsT ws ts br_ 0 = []
    · have hno : ∀ l, goodB (rightR ws ts br_) ws.length 0 l = false := fun l => by
        cases hg : goodB (rightR ws ts br_) ws.length 0 l
        · rfl
        · have := (mem_goodsL (R := rightR ws ts br_) (Nat.zero_le _) hn).2 hg
          rw [show goodsL (rightR ws ts br_) ws.length 0 = [] from g0] at this; cases this
      have e1 : fewest_S 1100 ws ts br_ = some ([], 6) := by
        rcases fewest_v (N := 1100) (by omega) (ws := ws) (ts := ts) (br_ := br_) (by omega) (by omega) with ⟨c, _⟩ | ⟨_, ⟨k, _, h, _⟩ | ⟨h, _⟩⟩
        · exact absurd c0 c
        · rw [hno k] at h; cases h
        · exact h
      have e2 : even_S 1100 ws ts br_ = some ([], 0, 6) := by
        rcases even_v (N := 1100) (by omega) (ws := ws) (ts := ts) (br_ := br_) (by omega) (by omega) with ⟨c, _⟩ | ⟨_, ⟨k, q, _, _, h, _⟩ | ⟨h, _⟩⟩
        · exact absurd c0 c
        · rw [hno k] at h; cases h
        · exact h
      have en : neverR ws ts br_ = ([], 6) := by unfold neverR; rw [if_neg (by simpa using c0), if_pos g0]
      have hz : ((goodsT ws ts br_ 0).length : Int) = 0 := by rw [g0]; rfl
      rw [e1, e2, en]
      simp only [Option.bind_some]
      rw [br_nd (by first | trivial | rfl), br_nd (by first | trivial | rfl), br_nd (by first | trivial | rfl)]
      rw [show (!((decide ((6 : Int) = 0)) == (decide (0 < ((goodsT ws ts br_ 0).length : Int))))) = false by rw [hz]; rfl, br_false, loop [] 6 0 [] ⟨rfl, by simp, .inr rfl⟩]
      exact aw
    · have hpos : 0 < (goodsT ws ts br_ 0).length := List.length_pos_iff.2 g0
      obtain ⟨l0, hl0⟩ := List.exists_mem_of_ne_nil _ g0
      have hl0' := (mem_goodsL (R := rightR ws ts br_) (Nat.zero_le _) hn).1 hl0
      obtain ⟨l, e1, h1⟩ : ∃ l, fewest_S 1100 ws ts br_ = some (l, 0) ∧ goodB (rightR ws ts br_) ws.length 0 l = true := by
        rcases fewest_v (N := 1100) (by omega) (ws := ws) (ts := ts) (br_ := br_) (by omega) (by omega) with ⟨c, _⟩ | ⟨_, ⟨k, e, h, _⟩ | ⟨_, h⟩⟩
        · exact absurd c0 c
        · exact ⟨k, e, h⟩
        · rw [h l0] at hl0'; cases hl0'
      obtain ⟨l2, q, e2, h3, h4⟩ : ∃ l q, even_S 1100 ws ts br_ = some (l, q, 0) ∧ goodB (rightR ws ts br_) ws.length 0 l = true ∧ longF ws l 0 = q := by
        rcases even_v (N := 1100) (by omega) (ws := ws) (ts := ts) (br_ := br_) (by omega) (by omega) with ⟨c, _⟩ | ⟨_, ⟨k, q, e, _, h, h', _⟩ | ⟨_, h⟩⟩
        · exact absurd c0 c
        · exact ⟨k, q, e, h, h'⟩
        · rw [h l0] at hl0'; cases hl0'
      have en : neverR ws ts br_ = (nvK (rightR ws ts br_) ws.length ws.length, 0) := by unfold neverR; rw [if_neg (by simpa using c0), if_neg g0]
      have hnl := nvK_len (rightR ws ts br_) ws.length ws.length
      rw [e1, e2, en]
      simp only [Option.bind_some]
      rw [br_nd (by first | trivial | rfl), br_nd (by first | trivial | rfl), br_nd (by first | trivial | rfl)]
      rw [show (!((decide True) == (decide (0 < ((goodsT ws ts br_ 0).length : Int))))) = false by rw [decide_eq_true (show 0 < ((goodsT ws ts br_ 0).length : Int) by omega)]; rfl, br_false, loop l 0 q _ ⟨rfl, by omega, .inl ⟨rfl, h1, ⟨l2, h3, h4⟩, rfl⟩⟩]
      exact aw
  by_cases c : 0 < (ts.length : Int)
  · rw [br_dec c, grd_eq (by simp only [Bool.not_eq_true', decide_eq_false_iff_not]; omega), grd_eq (by simp only [Bool.not_eq_true', decide_eq_false_iff_not]; omega)]
    obtain ⟨j, hj1, hj2⟩ : ∃ i : Nat, Int.tmod which (ts.length : Int) = i ∧ i < ts.length := by
      refine ⟨(Int.tmod which (ts.length : Int)).toNat, ?_, ?_⟩
      · have := Int.tmod_nonneg (ts.length : Int) w0.1; omega
      · have := Int.tmod_lt_of_pos which c
        have := Int.tmod_nonneg (ts.length : Int) w0.1; omega
    have ed : delturn_S 1100 (j : Int) ((j : Int) + 1) ts = some (ts.take j ++ ts.drop (j + 1)) := by
      unfold delturn_S delY_S
      rw [if_pos (by omega), Int.toNat_natCast, show ((j : Int) + 1).toNat = j + 1 by omega]
    rw [hj1, chk_eq (by omega), ed]
    simp only [Option.bind_some]
    refine hj _ ⟨hn0, hn, ?_, hbr, hbr1, hF.w, fun x hx => hF.x x ?_⟩ (fun a b h => right_turn h)
    · simp; omega
    · rcases List.mem_append.1 hx with hx | hx
      · exact List.mem_of_mem_take hx
      · exact List.mem_of_mem_drop hx
  · rw [br_ndec c]
    exact hj ts hF (fun _ _ h => h)
end Go.Proofs.Ytfamlpbdhhikdaa

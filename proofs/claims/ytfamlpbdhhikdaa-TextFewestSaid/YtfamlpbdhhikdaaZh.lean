/-
  Parts of a proof, put together: TD5, X4, X5, TD6, TD7.
  Conditions: none.
-/
import Derived.Test.YtfamlpbdhhikdaaZg
namespace Go.Proofs.Ytfamlpbdhhikdaa
set_option linter.all false
open Go

section
variable {R : Nat → Nat → Bool} {m : Nat}
theorem good_le : ∀ {l : List Int} {a : Nat}, goodB R m a l = true → a ≤ m
  | [], a, h => by have := good_nil.1 h; omega
  | x :: l, a, h => by have := (good_cons.1 h).1; omega
theorem good_last {k : Nat} : ∀ {l : List Int} {a : Nat}, goodB R k a l = true → l ≠ [] → ∃ p, p < k ∧ (∃ l1, goodB R p a l1 = true) ∧ R p k = true
  | [], a, h, hn => absurd rfl hn
  | x :: l, a, h, _ => by
    obtain ⟨⟨b1, b2⟩, b3, b4⟩ := good_cons.1 h
    by_cases e : l = []
    · subst e
      have := good_nil.1 b4
      exact ⟨a, by omega, ⟨[], by simp [goodB]⟩, by rw [← this]; exact b3⟩
    · obtain ⟨p, c1, ⟨l1, c2⟩, c3⟩ := good_last b4 e
      exact ⟨p, c1, ⟨x :: l1, good_cons.2 ⟨⟨b1, good_le c2⟩, b3, c2⟩⟩, c3⟩
theorem good_app {p : Nat} : ∀ {l1 : List Int} {a : Nat} {l2 : List Int}, goodB R p a l1 = true → goodB R m p l2 = true → goodB R m a (l1 ++ l2) = true
  | [], a, l2, h1, h2 => by obtain rfl := good_nil.1 h1; exact h2
  | x :: l1, a, l2, h1, h2 => by
    obtain ⟨⟨b1, b2⟩, b3, b4⟩ := good_cons.1 h1
    have := good_le h2
    exact good_cons.2 ⟨⟨b1, by omega⟩, b3, good_app b4 h2⟩
/-- The places at which a reading breaks. -/
def psums : Int → List Int → List Int
  | _, [] => []
  | a, x :: l => (a + x) :: psums (a + x) l
theorem mem_psums : ∀ {l : List Int} {a : Nat}, goodB R m a l = true → ∀ p : Nat, (p : Int) ∈ psums a l ↔ ∃ l1 l2, l = l1 ++ l2 ∧ l1 ≠ [] ∧ goodB R p a l1 = true ∧ goodB R m p l2 = true
  | [], a, h, p => by
    simp only [psums, List.not_mem_nil, false_iff]
    rintro ⟨l1, l2, e, hn, _⟩
    exact hn (List.append_eq_nil_iff.1 e.symm).1
  | x :: l, a, h, p => by
    obtain ⟨⟨b1, b2⟩, b3, b4⟩ := good_cons.1 h
    have ih := mem_psums b4 p
    have e : (a : Int) + x = ((a + x.toNat : Nat) : Int) := by omega
    rw [psums, e, List.mem_cons, ih]
    constructor
    · rintro (h1 | ⟨l1, l2, rfl, _, c2, c3⟩)
      · obtain rfl : p = a + x.toNat := by omega
        exact ⟨[x], l, rfl, by simp, good_cons.2 ⟨⟨b1, Nat.le_refl _⟩, b3, by simp [goodB]⟩, b4⟩
      · exact ⟨x :: l1, l2, rfl, by simp, good_cons.2 ⟨⟨b1, good_le c2⟩, b3, c2⟩, c3⟩
    · rintro ⟨l1, l2, e1, hn, c2, c3⟩
      cases l1 with
      | nil => exact absurd rfl hn
      | cons y l1 =>
        simp only [List.cons_append, List.cons.injEq] at e1
        obtain ⟨rfl, rfl⟩ := e1
        obtain ⟨⟨d1, d2⟩, d3, d4⟩ := good_cons.1 c2
        by_cases e2 : l1 = []
        · subst e2
          have := good_nil.1 d4
          exact .inl (by omega)
        · exact .inr ⟨l1, l2, rfl, e2, d4, c3⟩
/-- A place that is met, and from which a reading goes on. -/
def metB (R : Nat → Nat → Bool) (p : Nat) : Bool := !(goodsL R p 0).isEmpty
def finB (R : Nat → Nat → Bool) (m p : Nat) : Bool := !(goodsL R m p).isEmpty
theorem ne_iff {α : Type} {l : List α} : (!l.isEmpty) = true ↔ ∃ x, x ∈ l := by
  cases l with
  | nil => simp
  | cons a l => simp
theorem metB_iff {p : Nat} (hp : p ≤ 12) : metB R p = true ↔ ∃ l, goodB R p 0 l = true := by
  unfold metB
  rw [ne_iff]
  exact ⟨fun ⟨l, h⟩ => ⟨l, (mem_goodsL (by omega) hp).1 h⟩, fun ⟨l, h⟩ => ⟨l, (mem_goodsL (by omega) hp).2 h⟩⟩
theorem finB_iff {p : Nat} (hp : p ≤ m) (hm : m ≤ 12) : finB R m p = true ↔ ∃ l, goodB R m p l = true := by
  unfold finB
  rw [ne_iff]
  exact ⟨fun ⟨l, h⟩ => ⟨l, (mem_goodsL hp hm).1 h⟩, fun ⟨l, h⟩ => ⟨l, (mem_goodsL hp hm).2 h⟩⟩
def brkB (R : Nat → Nat → Bool) (m p : Nat) : Bool := metB R p && finB R m p
/-- At which places readings were found to break so far. -/
def MetSo (R : Nat → Nat → Bool) (m k : Nat) (M : List Bool) : Prop := M.length = 13 ∧ ∀ q, q ≤ m → (M.getD q false = true ↔ q = 0 ∨ ∃ p, p < k ∧ p < q ∧ brkB R m p = true ∧ R p q = true)
theorem MetSo.here {k : Nat} {M : List Bool} (h : MetSo R m k M) (hk : k ≤ m) (hm : m ≤ 12) (hf : finB R m k = true) : M.getD k false = metB R k := by
  rw [Bool.eq_iff_iff, h.2 k hk, metB_iff (by omega)]
  constructor
  · rintro (rfl | ⟨p, h1, h2, h3, h4⟩)
    · exact ⟨[], by simp [goodB]⟩
    · simp only [brkB, Bool.and_eq_true] at h3
      obtain ⟨l, hl⟩ := (metB_iff (by omega)).1 h3.1
      exact ⟨l ++ [((k : Int) - p)], good_app hl (good_step h1 (Nat.le_refl _) h4 (by simp [goodB]))⟩
  · rintro ⟨l, hl⟩
    by_cases e : l = []
    · subst e; exact .inl (good_nil.1 hl).symm
    · obtain ⟨p, c1, c2, c3⟩ := good_last hl e
      refine .inr ⟨p, c1, c1, ?_, c3⟩
      simp only [brkB, Bool.and_eq_true]
      obtain ⟨l2, hl2⟩ := (finB_iff hk hm).1 hf
      exact ⟨(metB_iff (by omega)).2 c2, (finB_iff (by omega) hm).2 ⟨_, good_step c1 hk c3 hl2⟩⟩
theorem MetSo.skip {k : Nat} {M : List Bool} (h : MetSo R m k M) (hb : brkB R m k = false) : MetSo R m (k + 1) M := by
  refine ⟨h.1, fun q hq => (h.2 q hq).trans ?_⟩
  constructor
  · rintro (h1 | ⟨p, h1, h2⟩)
    · exact .inl h1
    · exact .inr ⟨p, by omega, h2⟩
  · rintro (h1 | ⟨p, h1, h2, h3, h4⟩)
    · exact .inl h1
    · by_cases e : p = k
      · subst e; rw [hb] at h3; cases h3
      · exact .inr ⟨p, by omega, h2, h3, h4⟩
/-- The places at which no right reading breaks. -/
def nvK (R : Nat → Nat → Bool) (m k : Nat) : List Int := ((List.range k).filter fun p => !brkB R m p).map fun (p : Nat) => (p : Int)
theorem nvK_len (R : Nat → Nat → Bool) (m k : Nat) : (nvK R m k).length ≤ k := by
  have := List.length_filter_le (fun p => !brkB R m p) (List.range k)
  simp only [nvK, List.length_map]
  simpa using this
theorem nvK_succ (R : Nat → Nat → Bool) (m k : Nat) : nvK R m (k + 1) = nvK R m k ++ (if brkB R m k = true then [] else [(k : Int)]) := by
  simp only [nvK, List.range_succ, List.filter_append, List.map_append]
  congr 1
  rw [List.filter_cons]
  cases brkB R m k <;> rfl
end
section
variable {N : Nat} (hN : 110 ≤ N) {ws : List Wd} {ts : List Tn} {br_ : Int} (hF : TFine ws ts br_)
include hF
theorem never_l2_p {u u2 u3 u4 : Int} {d u5 : Tx} {on : List (Int × Int)} {O : List Int} : ∀ (es : List Nat) (M : List Bool), M.length = 13 → (∀ q ∈ es, q ≤ ws.length) →
    ∃ M', never_l2 N (es.map fun (j : Nat) => ((j : Int), ())) u d u2 u3 u4 u5 on M O = some (u, d, u2, u3, on, M', O) ∧ M'.length = 13 ∧ ∀ q, M'.getD q false = (M.getD q false || decide (q ∈ es))
  | [], M, hM, _ => ⟨M, rfl, hM, fun q => by simp⟩
  | e :: es, M, hM, he => by
    have := hF.n
    have h1 := he e (by simp)
    obtain ⟨M', e1, e2, e3⟩ := never_l2_p es (M.set e true) (by simpa using hM) (fun q hq => he q (by simp [hq]))
    refine ⟨M', ?_, e2, fun q => ?_⟩
    · rw [List.map_cons, never_l2]
      unfold never_l2_b
      rw [rng_eq (by omega), get_get false (by omega)]
      exact e1
    · rw [e3 q, getD_set' (by omega)]
      by_cases h : e = q
      · subst h; simp
      · rw [if_neg h]
        simp [show ¬ q = e from fun h2 => h h2.symm]
theorem never_l1_p {on : List (Int × Int)} (hon : ∀ q : Nat, q ≤ ws.length → look on q = (goodsT ws ts br_ q).length) {u : Int} : ∀ (n k : Nat) (M : List Bool), ws.length < n + k → k ≤ ws.length → MetSo (rightR ws ts br_) ws.length k M →
    never_l1 N n u (ws, ts, br_) ws.length k on M (nvK (rightR ws ts br_) ws.length k) = some (nvK (rightR ws ts br_) ws.length ws.length)
  | 0, k, M, h, _, _ => by omega
  | n + 1, k, M, h, hk, hM => by
    have hn := hF.n
    by_cases c : k < ws.length
    rotate_left
    · obtain rfl : k = ws.length := by omega
      rw [never_l1, br_ndec (by omega)]
    have hl := nvK_len (rightR ws ts br_) ws.length k
    have ih := never_l1_p hon (u := u) n (k + 1)
    rw [nvK_succ] at ih
    have hM0 := hM.1
    have hj : ∀ M O, never_j1 N (never_l1 N n) u (ws, ts, br_) ws.length k on M O = never_l1 N n u (ws, ts, br_) ws.length ((k + 1 : Nat) : Int) on M O := fun M O => by
      unfold never_j1
      rw [chk_eq (by omega)]; rfl
    have hlk := hon k hk
    rw [never_l1, br_dec (by omega), rng_eq (by omega), get_get false (by omega)]
    simp only [Int.toNat_natCast, hj]
    have put : brkB (rightR ws ts br_) ws.length k = false → (lim ((nvK (rightR ws ts br_) ws.length k).length + [(k : Int)].length) <| never_l1 N n u (ws, ts, br_) ws.length ((k + 1 : Nat) : Int) on M (nvK (rightR ws ts br_) ws.length k ++ [(k : Int)])) = some (nvK (rightR ws ts br_) ws.length ws.length) := fun hb => by
      rw [lim_eq (by simp; omega)]
      have := ih M (by omega) (by omega) (hM.skip hb)
      rw [hb] at this
      exact this
    have hfin : finB (rightR ws ts br_) ws.length k = !decide (look on k = 0) := by
      rw [hlk]
      unfold finB goodsT
      cases goodsL (rightR ws ts br_) ws.length k with
      | nil => rfl
      | cons a l => simp; omega
    cases hmet : M.getD k false
    · rw [Bool.not_false, br_true]
      refine put ?_
      cases hf : finB (rightR ws ts br_) ws.length k
      · simp [brkB, hf]
      · have := hM.here hk hn hf
        rw [hmet] at this
        simp [brkB, ← this]
    · rw [Bool.not_true, br_false]
      show br (decide (look on k = 0)) _ _ = _
      by_cases e : look on k = 0
      · rw [br_dec e]
        refine put ?_
        rw [decide_eq_true e] at hfin
        simp [brkB, hfin]
      · rw [br_ndec e]
        rw [decide_eq_false e] at hfin
        have hb : brkB (rightR ws ts br_) ws.length k = true := by
          have := hM.here hk hn hfin
          rw [hmet] at this
          simp [brkB, hfin, ← this]
        simp only [breaths_S, Option.bind_some]
        rw [breathsR_v hF hk]
        simp only [Option.bind_some]
        obtain ⟨M', e1, e2, e3⟩ := never_l2_p (N := N) hF (u := u) (u2 := (ws.length : Int)) (u3 := (k : Int)) (u4 := (k : Int)) (d := (ws, ts, br_)) (u5 := (ws, ts, br_)) (on := on) (O := nvK (rightR ws ts br_) ws.length k) (endsL ws ts br_ k) M hM0 (fun q hq => (mem_toL.1 hq).2.1)
        rw [e1]
        simp only [Option.bind_some, hj]
        have := ih M' (by omega) (by omega) ⟨e2, fun q hq => ?_⟩
        · rw [hb] at this
          simpa using this
        · rw [e3 q]
          simp only [Bool.or_eq_true, decide_eq_true_eq, hM.2 q hq]
          unfold endsL
          rw [mem_toL]
          constructor
          · rintro ((h1 | ⟨p, h1, h2⟩) | ⟨h1, h2, h3⟩)
            · exact .inl h1
            · exact .inr ⟨p, by omega, h2⟩
            · exact .inr ⟨k, by omega, by omega, hb, h3⟩
          · rintro (h1 | ⟨p, h1, h2, h3, h4⟩)
            · exact .inl (.inl h1)
            · by_cases e5 : p = k
              · subst e5; exact .inr ⟨by omega, hq, h4⟩
              · exact .inl (.inr ⟨p, by omega, h2, h3, h4⟩)
end
/-- The places at which no right reading breaks, or the error. -/
def neverR (ws : List Wd) (ts : List Tn) (br_ : Int) : List Int × Int :=
  if checkT ws ts br_ ≠ 0 then ([], checkT ws ts br_) else if goodsT ws ts br_ 0 = [] then ([], 6) else (nvK (rightR ws ts br_) ws.length ws.length, 0)
theorem never_v {N : Nat} (hN : 110 ≤ N) {ws : List Wd} {ts : List Tn} {br_ : Int} (hw : ws.length ≤ 1000000) (ht : ts.length ≤ 1000000) : never_S N ws ts br_ = some (neverR ws ts br_) := by
  unfold never_S neverR
  rw [opened_v (by omega) hw ht]
  by_cases c : checkT ws ts br_ = 0
  · have hF := tfine_of c
    have hn := hF.n; have hn0 := hF.n0
    rw [if_pos c, if_neg (by simpa using c)]
    simp only [Option.bind_some]
    rw [br_nd trivial]
    obtain ⟨M, e, hM⟩ := counts_v hN hF
    rw [e]
    simp only [Option.bind_some]
    show br (decide (look M 0 = 0)) _ _ = _
    have h0 := hM 0 (by omega)
    by_cases d : goodsT ws ts br_ 0 = []
    · rw [if_pos d, br_dec (by rw [show (0 : Int) = ((0 : Nat) : Int) from rfl, h0, d]; rfl)]
    · have : 0 < (goodsT ws ts br_ 0).length := List.length_pos_iff.2 d
      rw [if_neg d, br_ndec (by rw [show (0 : Int) = ((0 : Nat) : Int) from rfl, h0]; omega), get_get false (by simp)]
      simp only [end__S, Option.bind_some]
      have e1 := never_l1_p (N := N) hF hM (u := 0) N 0 ((List.replicate 13 false).set 0 true) (by omega) (by omega) ⟨by simp, fun q hq => ?_⟩
      · have e2 : nvK (rightR ws ts br_) ws.length 0 = [] := rfl
        rw [e2] at e1
        simp only [Int.natCast_zero] at e1
        rw [e1]; rfl
      · rw [getD_set' (by simp)]
        by_cases e : 0 = q
        · rw [if_pos e]; simp [e.symm]
        · rw [if_neg e]
          have : (List.replicate 13 false).getD q false = false := by
            simp only [List.getD, List.getElem?_replicate]
            split <;> rfl
          rw [this]
          simp
          omega
  · rw [if_neg c, if_pos c]
    simp only [Option.bind_some]
    rw [br_nnd c]
end Go.Proofs.Ytfamlpbdhhikdaa

namespace Go.Proofs.Ytfamlpbdhhikdaa
set_option linter.all false
open Go

end Go.Proofs.Ytfamlpbdhhikdaa

namespace Go.Proofs.Ytfamlpbdhhikdaa
set_option linter.all false
open Go

noncomputable abbrev readings_self (self : Int → Option (List (List Int))) : Spec := { f := 93, ins := ⟨[.i .i64], []⟩, outs := [⟨[.ols 0], [.lst (.sl (.int .i64))]⟩], run := fun p k => (self p.1.1).bind fun r => k (((), ()), (r, ())) }
def readings_l2 (N : Nat) (self : Int → Option (List (List Int))) : Nat → Int → Int → Int → (List (List Int)) → (List (List Int)) → Option (Int × Int × List (List Int))
  | 0, _, _, _, _, _ => none
  | n_ + 1, n, k, i, out, rest =>
    br (decide (i < (rest.length : Int)))
      (rng i rest.length <|
      get rest i.toNat fun x_2 =>
      lim ([k].length + x_2.length) <|
      lim (out.length + ([([k] ++ x_2)]).length) <|
      chk (i + 1) <|
      readings_l2 N self n_ n k (i + 1) (out ++ [([k] ++ x_2)]) rest)
      (some ((n, k, out)))
def readings_l1 (N : Nat) (self : Int → Option (List (List Int))) : Nat → Int → Int → (List (List Int)) → Option (List (List Int))
  | 0, _, _, _ => none
  | n_ + 1, n, k, out =>
    br (decide (k ≤ n))
      (chk (n - k) <|
      (self (n - k)).bind fun x_1 =>
      (readings_l2 N self N n k 0 out x_1).bind fun (n_3, k_4, out_5) =>
      chk (k_4 + 1) <|
      readings_l1 N self n_ n_3 (k_4 + 1) out_5)
      (some (out))
def readings_S (N : Nat) (self : Int → Option (List (List Int))) (n : Int) : Option (List (List Int)) :=
  br (decide (n = 0))
    (some ([[]]))
    ((readings_l1 N self N n 1 []).bind fun out_6 =>
    some out_6)
noncomputable def readings_sp (N : Nat) (self : Int → Option (List (List Int))) : List Spec := [readings_self self]
theorem readings_all (N : Nat) (self : Int → Option (List (List Int))) (hself : SpecOK Try.prog (readings_self self)) : AllP (SpecOK Try.prog) (readings_sp N self) := ⟨hself, trivial⟩
noncomputable def readings_c : Code := (Try.f93.body).getD .skip
noncomputable abbrev readings_B : Body := { c := readings_c, n := 36, res := [.tmp 2], outs := [⟨[.ols 0], [.lst (.sl (.int .i64))]⟩], m0 := 0 }
abbrev readings_rt : altD readings_B.outs → Option (List (List Int)) := fun r => some r.2.1
abbrev readings_l2_at : List PI := [.c [1, 1, 1, 0, 1, 0, 0, 1, 0, 0, 1, 1, 0, 0, 0, 0], .c [1, 1, 1, 0, 1, 0, 0, 1, 0, 0, 1, 1, 0, 0, 0, 1], .c [1, 1, 1, 0, 1, 0, 0, 1, 0, 0, 1, 1, 0, 0, 1], .l [1, 1, 1, 0, 1, 0, 0, 1, 0, 0, 1, 1, 0, 0], .b 2, .b 1, .c [1, 1, 1, 0, 1, 0, 0, 1, 1], .l [1, 1, 1, 0, 1, 0, 0], .b 0, .c [1, 1, 1, 1]]
abbrev readings_l2_st : Sta := ⟨[0, 3, 4, 5, 6], ⟨[.i .i64, .ols 0, .i .i64, .ols 1, .i .i64], [.lst (.sl (.int .i64)), .lst (.sl (.int .i64))]⟩⟩
abbrev readings_l2_h (rec : Int → Int → Int → (List (List Int)) → (List (List Int)) → Option (Int × Int × List (List Int))) : Leaf (Int × Int × List (List Int)) := ⟨readings_l2_at, readings_l2_st, fun p => rec p.1.1 p.1.2.2.1 p.1.2.2.2.2.1 p.2.1 p.2.2.1⟩
abbrev readings_l2_e0 : Leaf (Int × Int × List (List Int)) := ⟨[.c [1, 1, 1, 0, 1, 0, 0, 1, 1], .l [1, 1, 1, 0, 1, 0, 0], .b 0, .c [1, 1, 1, 1]], ⟨[0, 3, 4], ⟨[.i .i64, .ols 0, .i .i64], [.lst (.sl (.int .i64))]⟩⟩, fun p => some ((p.1.1, p.1.2.2.1, p.2.1))⟩
noncomputable def readings_l2_L (N : Nat) (self : Int → Option (List (List Int))) : LoopS := { at_ := readings_l2_at, sta := readings_l2_st, exits := [([.c [1, 1, 1, 0, 1, 0, 0, 1, 1], .l [1, 1, 1, 0, 1, 0, 0], .b 0, .c [1, 1, 1, 1]], ⟨[0, 3, 4], ⟨[.i .i64, .ols 0, .i .i64], [.lst (.sl (.int .i64))]⟩⟩)], run := fun p k => (readings_l2 N self N p.1.1 p.1.2.2.1 p.1.2.2.2.2.1 p.2.1 p.2.2.1).bind fun e => k (.inl ((e.1, (), e.2.1, ()), (e.2.2, ()))) }
theorem readings_l2_eq (N : Nat) (self : Int → Option (List (List Int))) (n_ : Nat) (n : Int) (k : Int) (i : Int) (out : List (List Int)) (rest : List (List Int)) : ev (Z := Int × Int × List (List Int)) Try.prog (readings_sp N self) readings_B [] [readings_l2_h (readings_l2 N self n_), readings_l2_e0] none 400 true readings_l2_at (stL readings_l2_st ((n, (), k, (), i, ()), (out, rest, ()))) (stH readings_l2_st ((n, (), k, (), i, ()), (out, rest, ()))) = readings_l2 N self (n_ + 1) n k i out rest := by kernel_rfl
theorem readings_l2_ok (N : Nat) (self : Int → Option (List (List Int))) (hself : SpecOK Try.prog (readings_self self)) {top : Bool} : LoopOK Try.prog readings_B.c readings_B.n readings_B.m0 top (readings_l2_L N self) := loop_of_ev (Z := Int × Int × List (List Int)) (N := N) (fun m p => readings_l2 N self m p.1.1 p.1.2.2.1 p.1.2.2.2.2.1 p.2.1 p.2.2.1) (fun e => .inl ((e.1, (), e.2.1, ()), (e.2.2, ()))) (fun _ _ _ => rfl) (fun _ => rfl) (fun m z E Xc hE hX hrec hx => leaf_of_ev (B := readings_B) (loops := []) (leaves := [readings_l2_h (readings_l2 N self m), readings_l2_e0]) (readings_all N self hself) mixed trivial hE hX ⟨hrec, (fun p hp => by obtain rfl := Option.some.inj hp; exact hx), trivial⟩ RetOK.no (fun p => readings_l2_eq N self m p.1.1 p.1.2.2.1 p.1.2.2.2.2.1 p.2.1 p.2.2.1))
abbrev readings_l1_at : List PI := [.c [1, 1, 1, 0, 1, 0, 0, 0, 0], .c [1, 1, 1, 0, 1, 0, 0, 0, 1], .c [1, 1, 1, 0, 1, 0, 0, 1], .l [1, 1, 1, 0, 1, 0, 0], .b 0, .c [1, 1, 1, 1]]
abbrev readings_l1_st : Sta := ⟨[0, 3, 4], ⟨[.i .i64, .ols 0, .i .i64], [.lst (.sl (.int .i64))]⟩⟩
abbrev readings_l1_h (rec : Int → Int → (List (List Int)) → Option (List (List Int))) : Leaf (List (List Int)) := ⟨readings_l1_at, readings_l1_st, fun p => rec p.1.1 p.1.2.2.1 p.2.1⟩
abbrev readings_l1_e0 : Leaf (List (List Int)) := ⟨[.c [1, 1, 1, 1, 0], .c [1, 1, 1, 1, 1]], ⟨[3], ⟨[.ols 0], [.lst (.sl (.int .i64))]⟩⟩, fun p => some (p.2.1)⟩
noncomputable def readings_l1_L (N : Nat) (self : Int → Option (List (List Int))) : LoopS := { at_ := readings_l1_at, sta := readings_l1_st, exits := [([.c [1, 1, 1, 1, 0], .c [1, 1, 1, 1, 1]], ⟨[3], ⟨[.ols 0], [.lst (.sl (.int .i64))]⟩⟩)], run := fun p k => (readings_l1 N self N p.1.1 p.1.2.2.1 p.2.1).bind fun e => k (.inl (((), ()), (e, ()))) }
theorem readings_l1_eq (N : Nat) (self : Int → Option (List (List Int))) (n_ : Nat) (n : Int) (k : Int) (out : List (List Int)) : ev (Z := List (List Int)) Try.prog (readings_sp N self) readings_B [readings_l2_L N self] [readings_l1_h (readings_l1 N self n_), readings_l1_e0] none 400 true readings_l1_at (stL readings_l1_st ((n, (), k, ()), (out, ()))) (stH readings_l1_st ((n, (), k, ()), (out, ()))) = readings_l1 N self (n_ + 1) n k out := by kernel_rfl
theorem readings_l1_ok (N : Nat) (self : Int → Option (List (List Int))) (hself : SpecOK Try.prog (readings_self self)) {top : Bool} : LoopOK Try.prog readings_B.c readings_B.n readings_B.m0 top (readings_l1_L N self) := loop_of_ev (Z := List (List Int)) (N := N) (fun m p => readings_l1 N self m p.1.1 p.1.2.2.1 p.2.1) (fun e => .inl (((), ()), (e, ()))) (fun _ _ _ => rfl) (fun _ => rfl) (fun m z E Xc hE hX hrec hx => leaf_of_ev (B := readings_B) (loops := [readings_l2_L N self]) (leaves := [readings_l1_h (readings_l1 N self m), readings_l1_e0]) (readings_all N self hself) mixed ⟨readings_l2_ok N self hself, trivial⟩ hE hX ⟨hrec, (fun p hp => by obtain rfl := Option.some.inj hp; exact hx), trivial⟩ RetOK.no (fun p => readings_l1_eq N self m p.1.1 p.1.2.2.1 p.2.1))
abbrev readings_st : Sta := ⟨[0], ⟨[.i .i64], []⟩⟩
theorem readings_eq (N : Nat) (self : Int → Option (List (List Int))) (n : Int) : ev (Z := List (List Int)) Try.prog (readings_sp N self) readings_B [readings_l2_L N self, readings_l1_L N self] [] (some readings_rt) 400 false [.c [0], .c [1]] (stL readings_st ((n, ()), ())) (stH readings_st ((n, ()), ())) = readings_S N self n := by kernel_rfl
theorem readings_self_ok (N : Nat) (self : Int → Option (List (List Int))) (hself : SpecOK Try.prog (readings_self self)) : SpecOK Try.prog (readings_self (readings_S N self)) := fn_sound (B := readings_B) (loops := [readings_l2_L N self, readings_l1_L N self]) (leaves := []) (fun p => readings_S N self p.1.1) (fun r => (((), ()), (r, ()))) readings_rt (fun _ _ _ => rfl) (fun r z h => by cases h; rfl) Try.func93 (by kernel_rfl) (by kernel_rfl) (by kernel_rfl) rfl rfl (by kernel_rfl) (fun args w => Sem.pv_run _ _ _ (by kernel_rfl) w) (readings_all N self hself) mixed ⟨readings_l2_ok N self hself, readings_l1_ok N self hself, trivial⟩ (fun z E Xc hE hX hret => trivial) (fun p => readings_eq N self p.1.1)
def readings_R (N : Nat) : Nat → Int → Option (List (List Int))
  | 0 => fun _ => none
  | n + 1 => readings_S N (readings_R N n)
theorem readings_R_ok (N : Nat) : ∀ n, SpecOK Try.prog (readings_self (readings_R N n))
  | 0 => SpecOK.none (fun _ _ _ => rfl) (fun args w => Sem.pv_run _ _ _ (by kernel_rfl) w)
  | n + 1 => readings_self_ok N (readings_R N n) (readings_R_ok N n)
noncomputable abbrev sp_readings (N : Nat) : Spec := readings_self (readings_R N N)
theorem sp_readings_ok (N : Nat) : SpecOK Try.prog (sp_readings N) := readings_R_ok N N

def rright_j1 (N : Nat) (rec : Int → (List (Int × (Int × Bool))) → (List (Int × (Int × Int))) → Int → (List (List Int)) → (List (List Int)) → Option (List (List Int))) (i : Int) (t : List (Int × (Int × Bool))) (t2 : List (Int × (Int × Int))) (t3 : Int) (out : List (List Int)) (all : List (List Int)) : Option (List (List Int)) :=
  chk (i + 1) <|
  rec (i + 1) t t2 t3 out all
def rright_l1 (N : Nat) : Nat → Int → (List (Int × (Int × Bool))) → (List (Int × (Int × Int))) → Int → (List (List Int)) → (List (List Int)) → Option (List (List Int))
  | 0, _, _, _, _, _, _ => none
  | n_ + 1, i, t, t2, t3, out, all =>
    br (decide (i < (all.length : Int)))
      (rng i all.length <|
      get all i.toNat fun x_2 =>
      (rwrong_S N t t2 t3 x_2).bind fun (x_3, y_4, y_5) =>
      br (decide (y_5 = 6))
        (rng i all.length <|
        get all i.toNat fun x_6 =>
        lim (out.length + [x_6].length) <|
        rright_j1 N (rright_l1 N n_) i t t2 t3 (out ++ [x_6]) all)
        (rright_j1 N (rright_l1 N n_) i t t2 t3 out all))
      (some (out))
def rright_S (N : Nat) (t : List (Int × (Int × Bool))) (t2 : List (Int × (Int × Int))) (t3 : Int) : Option (List (List Int)) :=
  (readings_R N N (t.length : Int)).bind fun x_1 =>
  (rright_l1 N N 0 t t2 t3 [] x_1).bind fun out_7 =>
  some out_7
noncomputable def rright_sp (N : Nat) : List Spec := [sp_rwrong N, sp_readings N]
theorem rright_all (N : Nat) : AllP (SpecOK Try.prog) (rright_sp N) := ⟨sp_rwrong_ok N, sp_readings_ok N, trivial⟩
noncomputable def rright_c : Code := (Try.f26.body).getD .skip
noncomputable abbrev rright_B : Body := { c := rright_c, n := 39, res := [.tmp 2], outs := [⟨[.sl (.sl (.int .i64))], []⟩], m0 := 0 }
abbrev rright_rt : altD rright_B.outs → Option (List (List Int)) := fun r => some r.1.1
abbrev rright_l1_at : List PI := [.c [1, 1, 1, 0, 1, 0, 0, 0, 0], .c [1, 1, 1, 0, 1, 0, 0, 0, 1], .c [1, 1, 1, 0, 1, 0, 0, 1], .l [1, 1, 1, 0, 1, 0, 0], .b 0, .c [1, 1, 1, 1]]
abbrev rright_l1_st : Sta := ⟨[1, 3, 4, 5], ⟨[.own 0 0, .ols 1, .ols 2, .i .i64], [.segs [.sl (.pair (.int .i64) (.pair (.int .i64) .bool)), .sl (.pair (.int .i64) (.pair (.int .i64) (.int .i64))), .i .i64], .lst (.sl (.int .i64)), .lst (.sl (.int .i64))]⟩⟩
abbrev rright_l1_h (rec : Int → (List (Int × (Int × Bool))) → (List (Int × (Int × Int))) → Int → (List (List Int)) → (List (List Int)) → Option (List (List Int))) : Leaf (List (List Int)) := ⟨rright_l1_at, rright_l1_st, fun p => rec p.1.2.2.2.1 p.2.1.1 p.2.1.2.1 p.2.1.2.2.1 p.2.2.1 p.2.2.2.1⟩
abbrev rright_l1_e0 : Leaf (List (List Int)) := ⟨[.c [1, 1, 1, 1, 0], .c [1, 1, 1, 1, 1]], ⟨[3], ⟨[.ols 0], [.lst (.sl (.int .i64))]⟩⟩, fun p => some (p.2.1)⟩
abbrev rright_j1_at : List PI := [.c [1, 1, 1, 0, 1, 0, 0, 1, 1], .l [1, 1, 1, 0, 1, 0, 0], .b 0, .c [1, 1, 1, 1]]
abbrev rright_j1_st : Sta := ⟨[1, 3, 4, 5], ⟨[.own 0 0, .ols 1, .ols 2, .i .i64], [.segs [.sl (.pair (.int .i64) (.pair (.int .i64) .bool)), .sl (.pair (.int .i64) (.pair (.int .i64) (.int .i64))), .i .i64], .lst (.sl (.int .i64)), .lst (.sl (.int .i64))]⟩⟩
abbrev rright_j1_k (N : Nat) (rec : Int → (List (Int × (Int × Bool))) → (List (Int × (Int × Int))) → Int → (List (List Int)) → (List (List Int)) → Option (List (List Int))) : Leaf (List (List Int)) := ⟨rright_j1_at, rright_j1_st, fun p => rright_j1 N rec p.1.2.2.2.1 p.2.1.1 p.2.1.2.1 p.2.1.2.2.1 p.2.2.1 p.2.2.2.1⟩
theorem rright_j1_eq (N : Nat) (rec : Int → (List (Int × (Int × Bool))) → (List (Int × (Int × Int))) → Int → (List (List Int)) → (List (List Int)) → Option (List (List Int))) (i : Int) (t : List (Int × (Int × Bool))) (t2 : List (Int × (Int × Int))) (t3 : Int) (out : List (List Int)) (all : List (List Int)) : ev (Z := List (List Int)) Try.prog (rright_sp N) rright_B [] [rright_l1_h rec, rright_l1_e0] none 400 true rright_j1_at (stL rright_j1_st (((), (), (), i, ()), ((t, t2, t3, ()), out, all, ()))) (stH rright_j1_st (((), (), (), i, ()), ((t, t2, t3, ()), out, all, ()))) = rright_j1 N rec i t t2 t3 out all := by kernel_rfl
theorem rright_j1_lf (N : Nat) (rec : Int → (List (Int × (Int × Bool))) → (List (Int × (Int × Int))) → Int → (List (List Int)) → (List (List Int)) → Option (List (List Int))) {z : List (List Int)} {top : Bool} {E : EE} {Xc : Ctx} (hE : EOK rright_B.m0 E) (hX : CxOK top Xc) (hrec : LeafOK Try.prog rright_B.c rright_B.n rright_B.m0 E Xc z (rright_l1_h rec)) (h0 : LeafOK Try.prog rright_B.c rright_B.n rright_B.m0 E Xc z rright_l1_e0) : LeafOK Try.prog rright_B.c rright_B.n rright_B.m0 E Xc z (rright_j1_k N rec) := leaf_of_ev (B := rright_B) (loops := []) (leaves := [rright_l1_h rec, rright_l1_e0]) (rright_all N) mixed trivial hE hX ⟨hrec, h0, trivial⟩ RetOK.no (fun p => rright_j1_eq N rec p.1.2.2.2.1 p.2.1.1 p.2.1.2.1 p.2.1.2.2.1 p.2.2.1 p.2.2.2.1)
noncomputable def rright_l1_L (N : Nat) : LoopS := { at_ := rright_l1_at, sta := rright_l1_st, exits := [([.c [1, 1, 1, 1, 0], .c [1, 1, 1, 1, 1]], ⟨[3], ⟨[.ols 0], [.lst (.sl (.int .i64))]⟩⟩)], run := fun p k => (rright_l1 N N p.1.2.2.2.1 p.2.1.1 p.2.1.2.1 p.2.1.2.2.1 p.2.2.1 p.2.2.2.1).bind fun e => k (.inl (((), ()), (e, ()))) }
theorem rright_l1_eq (N n_ : Nat) (i : Int) (t : List (Int × (Int × Bool))) (t2 : List (Int × (Int × Int))) (t3 : Int) (out : List (List Int)) (all : List (List Int)) : ev (Z := List (List Int)) Try.prog (rright_sp N) rright_B [] [rright_l1_h (rright_l1 N n_), rright_l1_e0, rright_j1_k N (rright_l1 N n_)] none 400 true rright_l1_at (stL rright_l1_st (((), (), (), i, ()), ((t, t2, t3, ()), out, all, ()))) (stH rright_l1_st (((), (), (), i, ()), ((t, t2, t3, ()), out, all, ()))) = rright_l1 N (n_ + 1) i t t2 t3 out all := by kernel_rfl
theorem rright_l1_ok (N : Nat) {top : Bool} : LoopOK Try.prog rright_B.c rright_B.n rright_B.m0 top (rright_l1_L N) := loop_of_ev (Z := List (List Int)) (N := N) (fun m p => rright_l1 N m p.1.2.2.2.1 p.2.1.1 p.2.1.2.1 p.2.1.2.2.1 p.2.2.1 p.2.2.2.1) (fun e => .inl (((), ()), (e, ()))) (fun _ _ _ => rfl) (fun _ => rfl) (fun m z E Xc hE hX hrec hx => leaf_of_ev (B := rright_B) (loops := []) (leaves := [rright_l1_h (rright_l1 N m), rright_l1_e0, rright_j1_k N (rright_l1 N m)]) (rright_all N) mixed trivial hE hX ⟨hrec, (fun p hp => by obtain rfl := Option.some.inj hp; exact hx), rright_j1_lf N _ hE hX hrec (fun p hp => by obtain rfl := Option.some.inj hp; exact hx), trivial⟩ RetOK.no (fun p => rright_l1_eq N m p.1.2.2.2.1 p.2.1.1 p.2.1.2.1 p.2.1.2.2.1 p.2.2.1 p.2.2.2.1))
abbrev rright_st : Sta := ⟨[0], ⟨[.agg [.sl (.pair (.int .i64) (.pair (.int .i64) .bool)), .sl (.pair (.int .i64) (.pair (.int .i64) (.int .i64))), .i .i64]], []⟩⟩
theorem rright_eq (N : Nat) (t : List (Int × (Int × Bool))) (t2 : List (Int × (Int × Int))) (t3 : Int) : ev (Z := List (List Int)) Try.prog (rright_sp N) rright_B [rright_l1_L N] [] (some rright_rt) 400 false [.c [0], .c [1]] (stL rright_st (((t, t2, t3, ()), ()), ())) (stH rright_st (((t, t2, t3, ()), ()), ())) = rright_S N t t2 t3 := by kernel_rfl
noncomputable def sp_rright (N : Nat) : Spec := { f := 26, ins := ⟨[.agg [.sl (.pair (.int .i64) (.pair (.int .i64) .bool)), .sl (.pair (.int .i64) (.pair (.int .i64) (.int .i64))), .i .i64]], []⟩, outs := [⟨[.sl (.sl (.int .i64))], []⟩], run := fun p k => (rright_S N p.1.1.1 p.1.1.2.1 p.1.1.2.2.1).bind fun r => k ((r, ()), ()) }
theorem sp_rright_ok (N : Nat) : SpecOK Try.prog (sp_rright N) := fn_sound (B := rright_B) (loops := [rright_l1_L N]) (leaves := []) (fun p => rright_S N p.1.1.1 p.1.1.2.1 p.1.1.2.2.1) (fun r => ((r, ()), ())) rright_rt (fun _ _ _ => rfl) (fun r z h => by cases h; rfl) Try.func26 (by kernel_rfl) (by kernel_rfl) (by kernel_rfl) rfl rfl (by kernel_rfl) (fun args w => Sem.pv_run _ _ _ (by kernel_rfl) w) (rright_all N) mixed ⟨rright_l1_ok N, trivial⟩ (fun z E Xc hE hX hret => trivial) (fun p => rright_eq N p.1.1.1 p.1.1.2.1 p.1.1.2.2.1)

def rfewest_j1 (N : Nat) (rec : (List (List Int)) → Int → Int → Option Int) (l : List (List Int)) (best : Int) (i : Int) : Option Int :=
  chk (i + 1) <|
  rec l best (i + 1)
def rfewest_l1 (N : Nat) : Nat → (List (List Int)) → Int → Int → Option Int
  | 0, _, _, _ => none
  | n_ + 1, l, best, i =>
    br (decide (i < (l.length : Int)))
      (br (decide (best = 0))
        (idx l i fun x_1 =>
        rfewest_j1 N (rfewest_l1 N n_) l (x_1.length : Int) i)
        (idx l i fun x_2 =>
        br (decide ((x_2.length : Int) < best))
          (idx l i fun x_3 =>
          rfewest_j1 N (rfewest_l1 N n_) l (x_3.length : Int) i)
          (rfewest_j1 N (rfewest_l1 N n_) l best i)))
      (some (best))
def rfewest_S (N : Nat) (l : List (List Int)) : Option (Int × Int) :=
  (rfewest_l1 N N l 0 0).bind fun best_4 =>
  br (decide (best_4 = 0))
    (some (0, 6))
    (some (best_4, 0))
noncomputable def rfewest_sp (N : Nat) : List Spec := []
theorem rfewest_all (N : Nat) : AllP (SpecOK Try.prog) (rfewest_sp N) := trivial
noncomputable def rfewest_c : Code := (Try.f27.body).getD .skip
noncomputable abbrev rfewest_B : Body := { c := rfewest_c, n := 31, res := [.tmp 2, .tmp 3], outs := [⟨[.i .i64, .i .i64], []⟩], m0 := 0 }
abbrev rfewest_rt : altD rfewest_B.outs → Option (Int × Int) := fun r => some (r.1.1, r.1.2.1)
abbrev rfewest_l1_at : List PI := [.c [1, 1, 0, 1, 0, 0, 0, 0], .c [1, 1, 0, 1, 0, 0, 0, 1], .c [1, 1, 0, 1, 0, 0, 1], .l [1, 1, 0, 1, 0, 0], .b 0, .c [1, 1, 1]]
abbrev rfewest_l1_st : Sta := ⟨[0, 4, 5], ⟨[.sl (.sl (.int .i64)), .i .i64, .i .i64], []⟩⟩
abbrev rfewest_l1_h (rec : (List (List Int)) → Int → Int → Option Int) : Leaf Int := ⟨rfewest_l1_at, rfewest_l1_st, fun p => rec p.1.1 p.1.2.1 p.1.2.2.1⟩
abbrev rfewest_l1_e0 : Leaf Int := ⟨[.c [1, 1, 1, 0, 0], .c [1, 1, 1, 0, 1], .c [1, 1, 1, 1]], ⟨[4], ⟨[.i .i64], []⟩⟩, fun p => some (p.1.1)⟩
abbrev rfewest_j1_at : List PI := [.c [1, 1, 0, 1, 0, 0, 1, 1], .l [1, 1, 0, 1, 0, 0], .b 0, .c [1, 1, 1]]
abbrev rfewest_j1_st : Sta := ⟨[0, 4, 5], ⟨[.sl (.sl (.int .i64)), .i .i64, .i .i64], []⟩⟩
abbrev rfewest_j1_k (N : Nat) (rec : (List (List Int)) → Int → Int → Option Int) : Leaf Int := ⟨rfewest_j1_at, rfewest_j1_st, fun p => rfewest_j1 N rec p.1.1 p.1.2.1 p.1.2.2.1⟩
theorem rfewest_j1_eq (N : Nat) (rec : (List (List Int)) → Int → Int → Option Int) (l : List (List Int)) (best : Int) (i : Int) : ev (Z := Int) Try.prog (rfewest_sp N) rfewest_B [] [rfewest_l1_h rec, rfewest_l1_e0] none 400 true rfewest_j1_at (stL rfewest_j1_st ((l, best, i, ()), ())) (stH rfewest_j1_st ((l, best, i, ()), ())) = rfewest_j1 N rec l best i := by kernel_rfl
theorem rfewest_j1_lf (N : Nat) (rec : (List (List Int)) → Int → Int → Option Int) {z : Int} {top : Bool} {E : EE} {Xc : Ctx} (hE : EOK rfewest_B.m0 E) (hX : CxOK top Xc) (hrec : LeafOK Try.prog rfewest_B.c rfewest_B.n rfewest_B.m0 E Xc z (rfewest_l1_h rec)) (h0 : LeafOK Try.prog rfewest_B.c rfewest_B.n rfewest_B.m0 E Xc z rfewest_l1_e0) : LeafOK Try.prog rfewest_B.c rfewest_B.n rfewest_B.m0 E Xc z (rfewest_j1_k N rec) := leaf_of_ev (B := rfewest_B) (loops := []) (leaves := [rfewest_l1_h rec, rfewest_l1_e0]) (rfewest_all N) mixed trivial hE hX ⟨hrec, h0, trivial⟩ RetOK.no (fun p => rfewest_j1_eq N rec p.1.1 p.1.2.1 p.1.2.2.1)
noncomputable def rfewest_l1_L (N : Nat) : LoopS := { at_ := rfewest_l1_at, sta := rfewest_l1_st, exits := [([.c [1, 1, 1, 0, 0], .c [1, 1, 1, 0, 1], .c [1, 1, 1, 1]], ⟨[4], ⟨[.i .i64], []⟩⟩)], run := fun p k => (rfewest_l1 N N p.1.1 p.1.2.1 p.1.2.2.1).bind fun e => k (.inl ((e, ()), ())) }
theorem rfewest_l1_eq (N n_ : Nat) (l : List (List Int)) (best : Int) (i : Int) : ev (Z := Int) Try.prog (rfewest_sp N) rfewest_B [] [rfewest_l1_h (rfewest_l1 N n_), rfewest_l1_e0, rfewest_j1_k N (rfewest_l1 N n_)] none 400 true rfewest_l1_at (stL rfewest_l1_st ((l, best, i, ()), ())) (stH rfewest_l1_st ((l, best, i, ()), ())) = rfewest_l1 N (n_ + 1) l best i := by kernel_rfl
theorem rfewest_l1_ok (N : Nat) {top : Bool} : LoopOK Try.prog rfewest_B.c rfewest_B.n rfewest_B.m0 top (rfewest_l1_L N) := loop_of_ev (Z := Int) (N := N) (fun m p => rfewest_l1 N m p.1.1 p.1.2.1 p.1.2.2.1) (fun e => .inl ((e, ()), ())) (fun _ _ _ => rfl) (fun _ => rfl) (fun m z E Xc hE hX hrec hx => leaf_of_ev (B := rfewest_B) (loops := []) (leaves := [rfewest_l1_h (rfewest_l1 N m), rfewest_l1_e0, rfewest_j1_k N (rfewest_l1 N m)]) (rfewest_all N) mixed trivial hE hX ⟨hrec, (fun p hp => by obtain rfl := Option.some.inj hp; exact hx), rfewest_j1_lf N _ hE hX hrec (fun p hp => by obtain rfl := Option.some.inj hp; exact hx), trivial⟩ RetOK.no (fun p => rfewest_l1_eq N m p.1.1 p.1.2.1 p.1.2.2.1))
abbrev rfewest_st : Sta := ⟨[0], ⟨[.sl (.sl (.int .i64))], []⟩⟩
theorem rfewest_eq (N : Nat) (l : List (List Int)) : ev (Z := Int × Int) Try.prog (rfewest_sp N) rfewest_B [rfewest_l1_L N] [] (some rfewest_rt) 400 false [.c [0], .c [1]] (stL rfewest_st ((l, ()), ())) (stH rfewest_st ((l, ()), ())) = rfewest_S N l := by kernel_rfl
noncomputable def sp_rfewest (N : Nat) : Spec := { f := 27, ins := ⟨[.sl (.sl (.int .i64))], []⟩, outs := [⟨[.i .i64, .i .i64], []⟩], run := fun p k => (rfewest_S N p.1.1).bind fun r => k ((r.1, r.2, ()), ()) }
theorem sp_rfewest_ok (N : Nat) : SpecOK Try.prog (sp_rfewest N) := fn_sound (B := rfewest_B) (loops := [rfewest_l1_L N]) (leaves := []) (fun p => rfewest_S N p.1.1) (fun r => ((r.1, r.2, ()), ())) rfewest_rt (fun _ _ _ => rfl) (fun r z h => by cases h; rfl) Try.func27 (by kernel_rfl) (by kernel_rfl) (by kernel_rfl) rfl rfl (by kernel_rfl) (fun args w => Sem.pv_run _ _ _ (by kernel_rfl) w) (rfewest_all N) mixed ⟨rfewest_l1_ok N, trivial⟩ (fun z E Xc hE hX hret => trivial) (fun p => rfewest_eq N p.1.1)

def rnever_l3 (N : Nat) : Nat → (List (List Int)) → Int → Bool → Int → Int → Int → (List (Int × (Int × Bool))) → (List (Int × (Int × Int))) → Int → (List Int) → Option (List (List Int) × Int × Bool × Int × (List (Int × (Int × Bool))) × (List (Int × (Int × Int))) × Int × List Int)
  | 0, _, _, _, _, _, _, _, _, _, _ => none
  | n_ + 1, l, place, breaks, i, at_, k, t, t2, t3, out =>
    idx l i fun x_1 =>
    br (decide (k < (x_1.length : Int)))
      (idx l i fun x_2 =>
      idx x_2 k fun x_3 =>
      chk (at_ + x_3) <|
      br breaks
        (chk (k + 1) <|
        rnever_l3 N n_ l place true i (at_ + x_3) (k + 1) t t2 t3 out)
        (chk (k + 1) <|
        rnever_l3 N n_ l place (decide ((at_ + x_3) = place)) i (at_ + x_3) (k + 1) t t2 t3 out))
      (some ((l, place, breaks, i, t, t2, t3, out)))
def rnever_l2 (N : Nat) : Nat → (List (List Int)) → Int → Bool → Int → (List (Int × (Int × Bool))) → (List (Int × (Int × Int))) → Int → (List Int) → Option (List (List Int) × Int × Bool × (List (Int × (Int × Bool))) × (List (Int × (Int × Int))) × Int × List Int)
  | 0, _, _, _, _, _, _, _, _ => none
  | n_ + 1, l, place, breaks, i, t, t2, t3, out =>
    br (decide (i < (l.length : Int)))
      ((rnever_l3 N N l place breaks i 0 0 t t2 t3 out).bind fun (l_4, place_5, breaks_6, i_7, t_8, t2_9, t3_10, out_11) =>
      chk (i_7 + 1) <|
      rnever_l2 N n_ l_4 place_5 breaks_6 (i_7 + 1) t_8 t2_9 t3_10 out_11)
      (some ((l, place, breaks, t, t2, t3, out)))
def rnever_j1 (N : Nat) (rec : (List (List Int)) → Int → (List (Int × (Int × Bool))) → (List (Int × (Int × Int))) → Int → (List Int) → Option (List Int)) (l : List (List Int)) (place : Int) (t : List (Int × (Int × Bool))) (t2 : List (Int × (Int × Int))) (t3 : Int) (out : List Int) : Option (List Int) :=
  chk (place + 1) <|
  rec l (place + 1) t t2 t3 out
def rnever_l1 (N : Nat) : Nat → (List (List Int)) → Int → (List (Int × (Int × Bool))) → (List (Int × (Int × Int))) → Int → (List Int) → Option (List Int)
  | 0, _, _, _, _, _, _ => none
  | n_ + 1, l, place, t, t2, t3, out =>
    br (decide (place < (t.length : Int)))
      ((rnever_l2 N N l place false 0 t t2 t3 out).bind fun (l_12, place_13, breaks_14, t_15, t2_16, t3_17, out_18) =>
      br (!breaks_14)
        (lim (out_18.length + [place_13].length) <|
        rnever_j1 N (rnever_l1 N n_) l_12 place_13 t_15 t2_16 t3_17 (out_18 ++ [place_13]))
        (rnever_j1 N (rnever_l1 N n_) l_12 place_13 t_15 t2_16 t3_17 out_18))
      (some (out))
def rnever_S (N : Nat) (t : List (Int × (Int × Bool))) (t2 : List (Int × (Int × Int))) (t3 : Int) (l : List (List Int)) : Option (List Int) :=
  (rnever_l1 N N l 1 t t2 t3 []).bind fun out_19 =>
  some out_19
noncomputable def rnever_sp (N : Nat) : List Spec := []
theorem rnever_all (N : Nat) : AllP (SpecOK Try.prog) (rnever_sp N) := trivial
noncomputable def rnever_c : Code := (Try.f31.body).getD .skip
noncomputable abbrev rnever_B : Body := { c := rnever_c, n := 55, res := [.tmp 4], outs := [⟨[.sl (.int .i64)], []⟩], m0 := 0 }
abbrev rnever_rt : altD rnever_B.outs → Option (List Int) := fun r => some r.1.1
abbrev rnever_l3_at : List PI := [.c [1, 1, 0, 1, 0, 0, 1, 0, 0, 1, 0, 1, 0, 0, 1, 0, 0, 1, 1, 0, 0, 0, 0], .c [1, 1, 0, 1, 0, 0, 1, 0, 0, 1, 0, 1, 0, 0, 1, 0, 0, 1, 1, 0, 0, 0, 1], .c [1, 1, 0, 1, 0, 0, 1, 0, 0, 1, 0, 1, 0, 0, 1, 0, 0, 1, 1, 0, 0, 1], .l [1, 1, 0, 1, 0, 0, 1, 0, 0, 1, 0, 1, 0, 0, 1, 0, 0, 1, 1, 0, 0], .b 4, .b 3, .c [1, 1, 0, 1, 0, 0, 1, 0, 0, 1, 0, 1, 0, 0, 1, 1], .l [1, 1, 0, 1, 0, 0, 1, 0, 0, 1, 0, 1, 0, 0], .b 2, .c [1, 1, 0, 1, 0, 0, 1, 0, 0, 1, 1], .b 1, .c [1, 1, 0, 1, 0, 0, 1, 1], .l [1, 1, 0, 1, 0, 0], .b 0, .c [1, 1, 1]]
abbrev rnever_l3_st : Sta := ⟨[1, 2, 5, 6, 7, 8, 9, 10], ⟨[.sl (.sl (.int .i64)), .own 0 0, .ols 1, .i .i64, .b, .i .i64, .i .i64, .i .i64], [.segs [.sl (.pair (.int .i64) (.pair (.int .i64) .bool)), .sl (.pair (.int .i64) (.pair (.int .i64) (.int .i64))), .i .i64], .lst (.int .i64)]⟩⟩
abbrev rnever_l3_h (rec : (List (List Int)) → Int → Bool → Int → Int → Int → (List (Int × (Int × Bool))) → (List (Int × (Int × Int))) → Int → (List Int) → Option (List (List Int) × Int × Bool × Int × (List (Int × (Int × Bool))) × (List (Int × (Int × Int))) × Int × List Int)) : Leaf (List (List Int) × Int × Bool × Int × (List (Int × (Int × Bool))) × (List (Int × (Int × Int))) × Int × List Int) := ⟨rnever_l3_at, rnever_l3_st, fun p => rec p.1.1 p.1.2.2.2.1 p.1.2.2.2.2.1 p.1.2.2.2.2.2.1 p.1.2.2.2.2.2.2.1 p.1.2.2.2.2.2.2.2.1 p.2.1.1 p.2.1.2.1 p.2.1.2.2.1 p.2.2.1⟩
abbrev rnever_l3_e0 : Leaf (List (List Int) × Int × Bool × Int × (List (Int × (Int × Bool))) × (List (Int × (Int × Int))) × Int × List Int) := ⟨[.c [1, 1, 0, 1, 0, 0, 1, 0, 0, 1, 0, 1, 0, 0, 1, 1], .l [1, 1, 0, 1, 0, 0, 1, 0, 0, 1, 0, 1, 0, 0], .b 2, .c [1, 1, 0, 1, 0, 0, 1, 0, 0, 1, 1], .b 1, .c [1, 1, 0, 1, 0, 0, 1, 1], .l [1, 1, 0, 1, 0, 0], .b 0, .c [1, 1, 1]], ⟨[1, 2, 5, 6, 7, 8], ⟨[.sl (.sl (.int .i64)), .own 0 0, .ols 1, .i .i64, .b, .i .i64], [.segs [.sl (.pair (.int .i64) (.pair (.int .i64) .bool)), .sl (.pair (.int .i64) (.pair (.int .i64) (.int .i64))), .i .i64], .lst (.int .i64)]⟩⟩, fun p => some ((p.1.1, p.1.2.2.2.1, p.1.2.2.2.2.1, p.1.2.2.2.2.2.1, p.2.1.1, p.2.1.2.1, p.2.1.2.2.1, p.2.2.1))⟩
noncomputable def rnever_l3_L (N : Nat) : LoopS := { at_ := rnever_l3_at, sta := rnever_l3_st, exits := [([.c [1, 1, 0, 1, 0, 0, 1, 0, 0, 1, 0, 1, 0, 0, 1, 1], .l [1, 1, 0, 1, 0, 0, 1, 0, 0, 1, 0, 1, 0, 0], .b 2, .c [1, 1, 0, 1, 0, 0, 1, 0, 0, 1, 1], .b 1, .c [1, 1, 0, 1, 0, 0, 1, 1], .l [1, 1, 0, 1, 0, 0], .b 0, .c [1, 1, 1]], ⟨[1, 2, 5, 6, 7, 8], ⟨[.sl (.sl (.int .i64)), .own 0 0, .ols 1, .i .i64, .b, .i .i64], [.segs [.sl (.pair (.int .i64) (.pair (.int .i64) .bool)), .sl (.pair (.int .i64) (.pair (.int .i64) (.int .i64))), .i .i64], .lst (.int .i64)]⟩⟩)], run := fun p k => (rnever_l3 N N p.1.1 p.1.2.2.2.1 p.1.2.2.2.2.1 p.1.2.2.2.2.2.1 p.1.2.2.2.2.2.2.1 p.1.2.2.2.2.2.2.2.1 p.2.1.1 p.2.1.2.1 p.2.1.2.2.1 p.2.2.1).bind fun e => k (.inl ((e.1, (), (), e.2.1, e.2.2.1, e.2.2.2.1, ()), ((e.2.2.2.2.1, e.2.2.2.2.2.1, e.2.2.2.2.2.2.1, ()), e.2.2.2.2.2.2.2, ()))) }
theorem rnever_l3_eq (N n_ : Nat) (l : List (List Int)) (place : Int) (breaks : Bool) (i : Int) (at_ : Int) (k : Int) (t : List (Int × (Int × Bool))) (t2 : List (Int × (Int × Int))) (t3 : Int) (out : List Int) : ev (Z := List (List Int) × Int × Bool × Int × (List (Int × (Int × Bool))) × (List (Int × (Int × Int))) × Int × List Int) Try.prog (rnever_sp N) rnever_B [] [rnever_l3_h (rnever_l3 N n_), rnever_l3_e0] none 400 true rnever_l3_at (stL rnever_l3_st ((l, (), (), place, breaks, i, at_, k, ()), ((t, t2, t3, ()), out, ()))) (stH rnever_l3_st ((l, (), (), place, breaks, i, at_, k, ()), ((t, t2, t3, ()), out, ()))) = rnever_l3 N (n_ + 1) l place breaks i at_ k t t2 t3 out := by kernel_rfl
theorem rnever_l3_ok (N : Nat) {top : Bool} : LoopOK Try.prog rnever_B.c rnever_B.n rnever_B.m0 top (rnever_l3_L N) := loop_of_ev (Z := List (List Int) × Int × Bool × Int × (List (Int × (Int × Bool))) × (List (Int × (Int × Int))) × Int × List Int) (N := N) (fun m p => rnever_l3 N m p.1.1 p.1.2.2.2.1 p.1.2.2.2.2.1 p.1.2.2.2.2.2.1 p.1.2.2.2.2.2.2.1 p.1.2.2.2.2.2.2.2.1 p.2.1.1 p.2.1.2.1 p.2.1.2.2.1 p.2.2.1) (fun e => .inl ((e.1, (), (), e.2.1, e.2.2.1, e.2.2.2.1, ()), ((e.2.2.2.2.1, e.2.2.2.2.2.1, e.2.2.2.2.2.2.1, ()), e.2.2.2.2.2.2.2, ()))) (fun _ _ _ => rfl) (fun _ => rfl) (fun m z E Xc hE hX hrec hx => leaf_of_ev (B := rnever_B) (loops := []) (leaves := [rnever_l3_h (rnever_l3 N m), rnever_l3_e0]) (rnever_all N) mixed trivial hE hX ⟨hrec, (fun p hp => by obtain rfl := Option.some.inj hp; exact hx), trivial⟩ RetOK.no (fun p => rnever_l3_eq N m p.1.1 p.1.2.2.2.1 p.1.2.2.2.2.1 p.1.2.2.2.2.2.1 p.1.2.2.2.2.2.2.1 p.1.2.2.2.2.2.2.2.1 p.2.1.1 p.2.1.2.1 p.2.1.2.2.1 p.2.2.1))
abbrev rnever_l2_at : List PI := [.c [1, 1, 0, 1, 0, 0, 1, 0, 0, 1, 0, 1, 0, 0, 0, 0], .c [1, 1, 0, 1, 0, 0, 1, 0, 0, 1, 0, 1, 0, 0, 0, 1], .c [1, 1, 0, 1, 0, 0, 1, 0, 0, 1, 0, 1, 0, 0, 1], .l [1, 1, 0, 1, 0, 0, 1, 0, 0, 1, 0, 1, 0, 0], .b 2, .c [1, 1, 0, 1, 0, 0, 1, 0, 0, 1, 1], .b 1, .c [1, 1, 0, 1, 0, 0, 1, 1], .l [1, 1, 0, 1, 0, 0], .b 0, .c [1, 1, 1]]
abbrev rnever_l2_st : Sta := ⟨[1, 2, 5, 6, 7, 8], ⟨[.sl (.sl (.int .i64)), .own 0 0, .ols 1, .i .i64, .b, .i .i64], [.segs [.sl (.pair (.int .i64) (.pair (.int .i64) .bool)), .sl (.pair (.int .i64) (.pair (.int .i64) (.int .i64))), .i .i64], .lst (.int .i64)]⟩⟩
abbrev rnever_l2_h (rec : (List (List Int)) → Int → Bool → Int → (List (Int × (Int × Bool))) → (List (Int × (Int × Int))) → Int → (List Int) → Option (List (List Int) × Int × Bool × (List (Int × (Int × Bool))) × (List (Int × (Int × Int))) × Int × List Int)) : Leaf (List (List Int) × Int × Bool × (List (Int × (Int × Bool))) × (List (Int × (Int × Int))) × Int × List Int) := ⟨rnever_l2_at, rnever_l2_st, fun p => rec p.1.1 p.1.2.2.2.1 p.1.2.2.2.2.1 p.1.2.2.2.2.2.1 p.2.1.1 p.2.1.2.1 p.2.1.2.2.1 p.2.2.1⟩
abbrev rnever_l2_e0 : Leaf (List (List Int) × Int × Bool × (List (Int × (Int × Bool))) × (List (Int × (Int × Int))) × Int × List Int) := ⟨[.c [1, 1, 0, 1, 0, 0, 1, 0, 0, 1, 1, 0], .c [1, 1, 0, 1, 0, 0, 1, 0, 0, 1, 1, 1], .b 1, .c [1, 1, 0, 1, 0, 0, 1, 1], .l [1, 1, 0, 1, 0, 0], .b 0, .c [1, 1, 1]], ⟨[1, 2, 5, 6, 7], ⟨[.sl (.sl (.int .i64)), .own 0 0, .ols 1, .i .i64, .b], [.segs [.sl (.pair (.int .i64) (.pair (.int .i64) .bool)), .sl (.pair (.int .i64) (.pair (.int .i64) (.int .i64))), .i .i64], .lst (.int .i64)]⟩⟩, fun p => some ((p.1.1, p.1.2.2.2.1, p.1.2.2.2.2.1, p.2.1.1, p.2.1.2.1, p.2.1.2.2.1, p.2.2.1))⟩
noncomputable def rnever_l2_L (N : Nat) : LoopS := { at_ := rnever_l2_at, sta := rnever_l2_st, exits := [([.c [1, 1, 0, 1, 0, 0, 1, 0, 0, 1, 1, 0], .c [1, 1, 0, 1, 0, 0, 1, 0, 0, 1, 1, 1], .b 1, .c [1, 1, 0, 1, 0, 0, 1, 1], .l [1, 1, 0, 1, 0, 0], .b 0, .c [1, 1, 1]], ⟨[1, 2, 5, 6, 7], ⟨[.sl (.sl (.int .i64)), .own 0 0, .ols 1, .i .i64, .b], [.segs [.sl (.pair (.int .i64) (.pair (.int .i64) .bool)), .sl (.pair (.int .i64) (.pair (.int .i64) (.int .i64))), .i .i64], .lst (.int .i64)]⟩⟩)], run := fun p k => (rnever_l2 N N p.1.1 p.1.2.2.2.1 p.1.2.2.2.2.1 p.1.2.2.2.2.2.1 p.2.1.1 p.2.1.2.1 p.2.1.2.2.1 p.2.2.1).bind fun e => k (.inl ((e.1, (), (), e.2.1, e.2.2.1, ()), ((e.2.2.2.1, e.2.2.2.2.1, e.2.2.2.2.2.1, ()), e.2.2.2.2.2.2, ()))) }
theorem rnever_l2_eq (N n_ : Nat) (l : List (List Int)) (place : Int) (breaks : Bool) (i : Int) (t : List (Int × (Int × Bool))) (t2 : List (Int × (Int × Int))) (t3 : Int) (out : List Int) : ev (Z := List (List Int) × Int × Bool × (List (Int × (Int × Bool))) × (List (Int × (Int × Int))) × Int × List Int) Try.prog (rnever_sp N) rnever_B [rnever_l3_L N] [rnever_l2_h (rnever_l2 N n_), rnever_l2_e0] none 400 true rnever_l2_at (stL rnever_l2_st ((l, (), (), place, breaks, i, ()), ((t, t2, t3, ()), out, ()))) (stH rnever_l2_st ((l, (), (), place, breaks, i, ()), ((t, t2, t3, ()), out, ()))) = rnever_l2 N (n_ + 1) l place breaks i t t2 t3 out := by kernel_rfl
theorem rnever_l2_ok (N : Nat) {top : Bool} : LoopOK Try.prog rnever_B.c rnever_B.n rnever_B.m0 top (rnever_l2_L N) := loop_of_ev (Z := List (List Int) × Int × Bool × (List (Int × (Int × Bool))) × (List (Int × (Int × Int))) × Int × List Int) (N := N) (fun m p => rnever_l2 N m p.1.1 p.1.2.2.2.1 p.1.2.2.2.2.1 p.1.2.2.2.2.2.1 p.2.1.1 p.2.1.2.1 p.2.1.2.2.1 p.2.2.1) (fun e => .inl ((e.1, (), (), e.2.1, e.2.2.1, ()), ((e.2.2.2.1, e.2.2.2.2.1, e.2.2.2.2.2.1, ()), e.2.2.2.2.2.2, ()))) (fun _ _ _ => rfl) (fun _ => rfl) (fun m z E Xc hE hX hrec hx => leaf_of_ev (B := rnever_B) (loops := [rnever_l3_L N]) (leaves := [rnever_l2_h (rnever_l2 N m), rnever_l2_e0]) (rnever_all N) mixed ⟨rnever_l3_ok N, trivial⟩ hE hX ⟨hrec, (fun p hp => by obtain rfl := Option.some.inj hp; exact hx), trivial⟩ RetOK.no (fun p => rnever_l2_eq N m p.1.1 p.1.2.2.2.1 p.1.2.2.2.2.1 p.1.2.2.2.2.2.1 p.2.1.1 p.2.1.2.1 p.2.1.2.2.1 p.2.2.1))
abbrev rnever_l1_at : List PI := [.c [1, 1, 0, 1, 0, 0, 0, 0], .c [1, 1, 0, 1, 0, 0, 0, 1], .c [1, 1, 0, 1, 0, 0, 1], .l [1, 1, 0, 1, 0, 0], .b 0, .c [1, 1, 1]]
abbrev rnever_l1_st : Sta := ⟨[1, 2, 5, 6], ⟨[.sl (.sl (.int .i64)), .own 0 0, .ols 1, .i .i64], [.segs [.sl (.pair (.int .i64) (.pair (.int .i64) .bool)), .sl (.pair (.int .i64) (.pair (.int .i64) (.int .i64))), .i .i64], .lst (.int .i64)]⟩⟩
abbrev rnever_l1_h (rec : (List (List Int)) → Int → (List (Int × (Int × Bool))) → (List (Int × (Int × Int))) → Int → (List Int) → Option (List Int)) : Leaf (List Int) := ⟨rnever_l1_at, rnever_l1_st, fun p => rec p.1.1 p.1.2.2.2.1 p.2.1.1 p.2.1.2.1 p.2.1.2.2.1 p.2.2.1⟩
abbrev rnever_l1_e0 : Leaf (List Int) := ⟨[.c [1, 1, 1, 0], .c [1, 1, 1, 1]], ⟨[5], ⟨[.ols 0], [.lst (.int .i64)]⟩⟩, fun p => some (p.2.1)⟩
abbrev rnever_j1_at : List PI := [.c [1, 1, 0, 1, 0, 0, 1, 1], .l [1, 1, 0, 1, 0, 0], .b 0, .c [1, 1, 1]]
abbrev rnever_j1_st : Sta := ⟨[1, 2, 5, 6], ⟨[.sl (.sl (.int .i64)), .own 0 0, .ols 1, .i .i64], [.segs [.sl (.pair (.int .i64) (.pair (.int .i64) .bool)), .sl (.pair (.int .i64) (.pair (.int .i64) (.int .i64))), .i .i64], .lst (.int .i64)]⟩⟩
abbrev rnever_j1_k (N : Nat) (rec : (List (List Int)) → Int → (List (Int × (Int × Bool))) → (List (Int × (Int × Int))) → Int → (List Int) → Option (List Int)) : Leaf (List Int) := ⟨rnever_j1_at, rnever_j1_st, fun p => rnever_j1 N rec p.1.1 p.1.2.2.2.1 p.2.1.1 p.2.1.2.1 p.2.1.2.2.1 p.2.2.1⟩
theorem rnever_j1_eq (N : Nat) (rec : (List (List Int)) → Int → (List (Int × (Int × Bool))) → (List (Int × (Int × Int))) → Int → (List Int) → Option (List Int)) (l : List (List Int)) (place : Int) (t : List (Int × (Int × Bool))) (t2 : List (Int × (Int × Int))) (t3 : Int) (out : List Int) : ev (Z := List Int) Try.prog (rnever_sp N) rnever_B [rnever_l3_L N, rnever_l2_L N] [rnever_l1_h rec, rnever_l1_e0] none 400 true rnever_j1_at (stL rnever_j1_st ((l, (), (), place, ()), ((t, t2, t3, ()), out, ()))) (stH rnever_j1_st ((l, (), (), place, ()), ((t, t2, t3, ()), out, ()))) = rnever_j1 N rec l place t t2 t3 out := by kernel_rfl
theorem rnever_j1_lf (N : Nat) (rec : (List (List Int)) → Int → (List (Int × (Int × Bool))) → (List (Int × (Int × Int))) → Int → (List Int) → Option (List Int)) {z : List Int} {top : Bool} {E : EE} {Xc : Ctx} (hE : EOK rnever_B.m0 E) (hX : CxOK top Xc) (hrec : LeafOK Try.prog rnever_B.c rnever_B.n rnever_B.m0 E Xc z (rnever_l1_h rec)) (h0 : LeafOK Try.prog rnever_B.c rnever_B.n rnever_B.m0 E Xc z rnever_l1_e0) : LeafOK Try.prog rnever_B.c rnever_B.n rnever_B.m0 E Xc z (rnever_j1_k N rec) := leaf_of_ev (B := rnever_B) (loops := [rnever_l3_L N, rnever_l2_L N]) (leaves := [rnever_l1_h rec, rnever_l1_e0]) (rnever_all N) mixed ⟨rnever_l3_ok N, rnever_l2_ok N, trivial⟩ hE hX ⟨hrec, h0, trivial⟩ RetOK.no (fun p => rnever_j1_eq N rec p.1.1 p.1.2.2.2.1 p.2.1.1 p.2.1.2.1 p.2.1.2.2.1 p.2.2.1)
noncomputable def rnever_l1_L (N : Nat) : LoopS := { at_ := rnever_l1_at, sta := rnever_l1_st, exits := [([.c [1, 1, 1, 0], .c [1, 1, 1, 1]], ⟨[5], ⟨[.ols 0], [.lst (.int .i64)]⟩⟩)], run := fun p k => (rnever_l1 N N p.1.1 p.1.2.2.2.1 p.2.1.1 p.2.1.2.1 p.2.1.2.2.1 p.2.2.1).bind fun e => k (.inl (((), ()), (e, ()))) }
theorem rnever_l1_eq (N n_ : Nat) (l : List (List Int)) (place : Int) (t : List (Int × (Int × Bool))) (t2 : List (Int × (Int × Int))) (t3 : Int) (out : List Int) : ev (Z := List Int) Try.prog (rnever_sp N) rnever_B [rnever_l3_L N, rnever_l2_L N] [rnever_l1_h (rnever_l1 N n_), rnever_l1_e0, rnever_j1_k N (rnever_l1 N n_)] none 400 true rnever_l1_at (stL rnever_l1_st ((l, (), (), place, ()), ((t, t2, t3, ()), out, ()))) (stH rnever_l1_st ((l, (), (), place, ()), ((t, t2, t3, ()), out, ()))) = rnever_l1 N (n_ + 1) l place t t2 t3 out := by kernel_rfl
theorem rnever_l1_ok (N : Nat) {top : Bool} : LoopOK Try.prog rnever_B.c rnever_B.n rnever_B.m0 top (rnever_l1_L N) := loop_of_ev (Z := List Int) (N := N) (fun m p => rnever_l1 N m p.1.1 p.1.2.2.2.1 p.2.1.1 p.2.1.2.1 p.2.1.2.2.1 p.2.2.1) (fun e => .inl (((), ()), (e, ()))) (fun _ _ _ => rfl) (fun _ => rfl) (fun m z E Xc hE hX hrec hx => leaf_of_ev (B := rnever_B) (loops := [rnever_l3_L N, rnever_l2_L N]) (leaves := [rnever_l1_h (rnever_l1 N m), rnever_l1_e0, rnever_j1_k N (rnever_l1 N m)]) (rnever_all N) mixed ⟨rnever_l3_ok N, rnever_l2_ok N, trivial⟩ hE hX ⟨hrec, (fun p hp => by obtain rfl := Option.some.inj hp; exact hx), rnever_j1_lf N _ hE hX hrec (fun p hp => by obtain rfl := Option.some.inj hp; exact hx), trivial⟩ RetOK.no (fun p => rnever_l1_eq N m p.1.1 p.1.2.2.2.1 p.2.1.1 p.2.1.2.1 p.2.1.2.2.1 p.2.2.1))
abbrev rnever_st : Sta := ⟨[0, 1], ⟨[.agg [.sl (.pair (.int .i64) (.pair (.int .i64) .bool)), .sl (.pair (.int .i64) (.pair (.int .i64) (.int .i64))), .i .i64], .sl (.sl (.int .i64))], []⟩⟩
theorem rnever_eq (N : Nat) (t : List (Int × (Int × Bool))) (t2 : List (Int × (Int × Int))) (t3 : Int) (l : List (List Int)) : ev (Z := List Int) Try.prog (rnever_sp N) rnever_B [rnever_l3_L N, rnever_l2_L N, rnever_l1_L N] [] (some rnever_rt) 400 false [.c [0], .c [1]] (stL rnever_st (((t, t2, t3, ()), l, ()), ())) (stH rnever_st (((t, t2, t3, ()), l, ()), ())) = rnever_S N t t2 t3 l := by kernel_rfl
noncomputable def sp_rnever (N : Nat) : Spec := { f := 31, ins := ⟨[.agg [.sl (.pair (.int .i64) (.pair (.int .i64) .bool)), .sl (.pair (.int .i64) (.pair (.int .i64) (.int .i64))), .i .i64], .sl (.sl (.int .i64))], []⟩, outs := [⟨[.sl (.int .i64)], []⟩], run := fun p k => (rnever_S N p.1.1.1 p.1.1.2.1 p.1.1.2.2.1 p.1.2.1).bind fun r => k ((r, ()), ()) }
theorem sp_rnever_ok (N : Nat) : SpecOK Try.prog (sp_rnever N) := fn_sound (B := rnever_B) (loops := [rnever_l3_L N, rnever_l2_L N, rnever_l1_L N]) (leaves := []) (fun p => rnever_S N p.1.1.1 p.1.1.2.1 p.1.1.2.2.1 p.1.2.1) (fun r => ((r, ()), ())) rnever_rt (fun _ _ _ => rfl) (fun r z h => by cases h; rfl) Try.func31 (by kernel_rfl) (by kernel_rfl) (by kernel_rfl) rfl rfl (by kernel_rfl) (fun args w => Sem.pv_run _ _ _ (by kernel_rfl) w) (rnever_all N) mixed ⟨rnever_l3_ok N, rnever_l2_ok N, rnever_l1_ok N, trivial⟩ (fun z E Xc hE hX hret => trivial) (fun p => rnever_eq N p.1.1.1 p.1.1.2.1 p.1.1.2.2.1 p.1.2.1)

def tfewest_S (N : Nat) (t : List (Int × (Int × Bool))) (t2 : List (Int × (Int × Int))) (t3 : Int) : Option Bool :=
  (great_S N t t2 t3 10).bind fun x_1 =>
  br x_1
    ((awake_S N).bind fun x_2 =>
    some x_2)
    ((copyx_S N t t2 t3).bind fun (x_3, y_4, y_5) =>
    (theirs_S N t t2 t3).bind fun (x_6, y_7, y_8) =>
    (fewest_S N x_3 y_4 y_5).bind fun (x_9, y_10) =>
    (count_S N x_3 y_4 y_5).bind fun (x_11, y_12) =>
    (never_S N x_3 y_4 y_5).bind fun (x_13, y_14) =>
    (rcheck_S N x_6 y_7 y_8).bind fun x_15 =>
    br (!decide (x_15 = 0))
      (br (decide (y_10 = x_15))
        (br (decide (y_12 = x_15))
          (br (decide (y_14 = x_15))
            (chk ((x_9.length : Int) + x_11) <|
            chk (((x_9.length : Int) + x_11) + (x_13.length : Int)) <|
            br (decide ((((x_9.length : Int) + x_11) + (x_13.length : Int)) = 0))
              ((awake_S N).bind fun x_16 =>
              some x_16)
              (some false))
            (some false))
          (some false))
        (some false))
      ((rright_S N x_6 y_7 y_8).bind fun x_17 =>
      (rfewest_S N x_17).bind fun (x_18, y_19) =>
      br (!decide (y_10 = y_19))
        (some false)
        (br (!decide (y_14 = y_19))
          (some false)
          (br (!decide (y_12 = 0))
            (some false)
            (br (!decide (x_11 = (x_17.length : Int)))
              (some false)
              (br (!decide ((x_9.length : Int) = x_18))
                (some false)
                (br (!decide (y_19 = 0))
                  (br (decide ((x_13.length : Int) = 0))
                    ((same_S N x_3 y_4 y_5 t t2 t3).bind fun x_20 =>
                    br x_20
                      ((awake_S N).bind fun x_21 =>
                      some x_21)
                      (some false))
                    (some false))
                  ((rwrong_S N x_6 y_7 y_8 x_9).bind fun (x_22, y_23, y_24) =>
                  br (decide (y_24 = 6))
                    ((rnever_S N x_6 y_7 y_8 x_17).bind fun x_25 =>
                    (likei_S N x_13 x_25).bind fun x_26 =>
                    br x_26
                      ((same_S N x_3 y_4 y_5 t t2 t3).bind fun x_27 =>
                      br x_27
                        ((awake_S N).bind fun x_28 =>
                        some x_28)
                        (some false))
                      (some false))
                    (some false)))))))))
noncomputable def tfewest_sp (N : Nat) : List Spec := [sp_fewest N, sp_count N, sp_never N, sp_likei N, sp_awake N, sp_copyx N, sp_same N, sp_theirs N, sp_great N, sp_rcheck N, sp_rwrong N, sp_rright N, sp_rfewest N, sp_rnever N]
theorem tfewest_all (N : Nat) : AllP (SpecOK Try.prog) (tfewest_sp N) := ⟨sp_fewest_ok N, sp_count_ok N, sp_never_ok N, sp_likei_ok N, sp_awake_ok N, sp_copyx_ok N, sp_same_ok N, sp_theirs_ok N, sp_great_ok N, sp_rcheck_ok N, sp_rwrong_ok N, sp_rright_ok N, sp_rfewest_ok N, sp_rnever_ok N, trivial⟩
noncomputable def tfewest_c : Code := (Try.f3.body).getD .skip
noncomputable abbrev tfewest_B : Body := { c := tfewest_c, n := 138, res := [.tmp 2], outs := [⟨[.b], []⟩], m0 := 0 }
abbrev tfewest_rt : altD tfewest_B.outs → Option Bool := fun r => some r.1.1
abbrev tfewest_st : Sta := ⟨[0], ⟨[.agg [.sl (.pair (.int .i64) (.pair (.int .i64) .bool)), .sl (.pair (.int .i64) (.pair (.int .i64) (.int .i64))), .i .i64]], []⟩⟩
theorem tfewest_eq (N : Nat) (t : List (Int × (Int × Bool))) (t2 : List (Int × (Int × Int))) (t3 : Int) : ev (Z := Bool) Try.prog (tfewest_sp N) tfewest_B [] [] (some tfewest_rt) 400 false [.c [0], .c [1]] (stL tfewest_st (((t, t2, t3, ()), ()), ())) (stH tfewest_st (((t, t2, t3, ()), ()), ())) = tfewest_S N t t2 t3 := by kernel_rfl
noncomputable def sp_tfewest (N : Nat) : Spec := { f := 3, ins := ⟨[.agg [.sl (.pair (.int .i64) (.pair (.int .i64) .bool)), .sl (.pair (.int .i64) (.pair (.int .i64) (.int .i64))), .i .i64]], []⟩, outs := [⟨[.b], []⟩], run := fun p k => (tfewest_S N p.1.1.1 p.1.1.2.1 p.1.1.2.2.1).bind fun r => k ((r, ()), ()) }
theorem sp_tfewest_ok (N : Nat) : SpecOK Try.prog (sp_tfewest N) := fn_sound (B := tfewest_B) (loops := []) (leaves := []) (fun p => tfewest_S N p.1.1.1 p.1.1.2.1 p.1.1.2.2.1) (fun r => ((r, ()), ())) tfewest_rt (fun _ _ _ => rfl) (fun r z h => by cases h; rfl) Try.func3 (by kernel_rfl) (by kernel_rfl) (by kernel_rfl) rfl rfl (by kernel_rfl) (fun args w => Sem.pv_run _ _ _ (by kernel_rfl) w) (tfewest_all N) mixed trivial (fun z E Xc hE hX hret => trivial) (fun p => tfewest_eq N p.1.1.1 p.1.1.2.1 p.1.1.2.2.1)

end Go.Proofs.Ytfamlpbdhhikdaa

namespace Go.Proofs.Ytfamlpbdhhikdaa
set_option linter.all false
open Go

/-- All lists of numbers that add up to a number. -/
def comps : Nat → Nat → List (List Int)
  | 0, n => if n = 0 then [[]] else []
  | f + 1, n => if n = 0 then [[]] else (List.range' 1 n).flatMap fun k => (comps f (n - k)).map fun l => (k : Int) :: l
theorem comps_fuel : ∀ (f g n : Nat), n ≤ f → n ≤ g → comps f n = comps g n
  | 0, 0, _, _, _ => rfl
  | 0, g + 1, n, h1, h2 => by obtain rfl : n = 0 := by omega
                              simp [comps]
  | f + 1, 0, n, h1, h2 => by obtain rfl : n = 0 := by omega
                              simp [comps]
  | f + 1, g + 1, n, h1, h2 => by
    unfold comps
    split
    · rfl
    · refine goods_fuel.flatMap_congr' fun k hk => ?_
      obtain ⟨a1, a2⟩ := List.mem_range'_1.1 hk
      rw [comps_fuel f g (n - k) (by omega) (by omega)]
theorem flat_shift {β : Type} (p : Nat → Bool) (a n : Nat) (G h : Nat → List β) (hG : ∀ s, 1 ≤ s → s ≤ n → G s = if p (a + s) = true then h (a + s) else []) : ∀ c s, 1 ≤ s → s + c ≤ n + 1 → (List.range' s c).flatMap G = ((List.range' (a + s) c).filter p).flatMap h
  | 0, s, _, _ => rfl
  | c + 1, s, hs, hn => by
    rw [List.range'_succ, List.range'_succ, List.flatMap_cons, List.filter_cons, hG s hs (by omega), flat_shift p a n G h hG c (s + 1) (by omega) (by omega), show a + (s + 1) = a + s + 1 by omega]
    cases p (a + s)
    · simp
    · simp
section
variable {R : Nat → Nat → Bool} {m : Nat}
theorem cons_shift {a k : Nat} : (fun l : List Int => (((a + k : Nat) : Int) - a) :: l) = fun l => (k : Int) :: l := by
  funext l; congr 1; omega
theorem comps_goods : ∀ (f a : Nat), m - a ≤ f → a ≤ m → (comps f (m - a)).filter (goodB R m a) = goods R m f a
  | 0, a, h, ha => by
    obtain rfl : a = m := by omega
    simp [comps, goods, goodB]
  | f + 1, a, h, ha => by
    unfold comps goods
    by_cases e : a = m
    · subst e; simp [goodB]
    · rw [if_neg (by omega), if_neg e, List.filter_flatMap]
      unfold toL
      rw [show m + 1 - (a + 1) = m - a by omega]
      refine flat_shift (R a) a (m - a) _ _ (fun s h1 h2 => ?_) (m - a) 1 (Nat.le_refl _) (by omega)
      have ih := comps_goods f (a + s) (by omega) (by omega)
      rw [List.filter_map, cons_shift]
      have hp : (goodB R m a ∘ fun l => (s : Int) :: l) = fun l => R a (a + s) && goodB R m (a + s) l := by
        funext l
        simp only [Function.comp, goodB, Int.toNat_natCast]
        rw [decide_eq_true (show 1 ≤ (s : Int) by omega), decide_eq_true (show a + s ≤ m by omega)]
        rfl
      rw [hp, show m - a - s = m - (a + s) by omega]
      cases hR : R a (a + s)
      · simp
      · simp only [Bool.true_and, if_true]
        rw [ih]
theorem comps_all : ∀ (f a : Nat), m - a ≤ f → a ≤ m → comps f (m - a) = goods (fun _ _ => true) m f a
  | 0, a, h, ha => by
    obtain rfl : a = m := by omega
    simp [comps, goods]
  | f + 1, a, h, ha => by
    unfold comps goods
    by_cases e : a = m
    · subst e; simp
    · rw [if_neg (by omega), if_neg e]
      unfold toL
      rw [show m + 1 - (a + 1) = m - a by omega]
      refine flat_shift (fun _ => true) a (m - a) _ _ (fun s h1 h2 => ?_) (m - a) 1 (Nat.le_refl _) (by omega)
      have ih := comps_all f (a + s) (by omega) (by omega)
      rw [cons_shift, show m - a - s = m - (a + s) by omega, ih]; rfl
end
/-- All readings of so many words. -/
def compsL (n : Nat) : List (List Int) := comps 13 n
theorem compsL_len {n : Nat} (h : n ≤ 12) : (compsL n).length ≤ 2 ^ n := by
  have e := comps_all (m := n) 13 0 (by omega) (by omega)
  unfold compsL
  rw [Nat.sub_zero] at e
  rw [e]
  exact goodsL_len (R := fun _ _ => true) h n 0 (by omega)
theorem compsL_step {n : Nat} (h : 1 ≤ n) (hn : n ≤ 12) : compsL n = (List.range' 1 n).flatMap fun k => (compsL (n - k)).map fun l => (k : Int) :: l := by
  unfold compsL
  rw [comps_fuel 13 14 n (by omega) (by omega), comps, if_neg (by omega)]
theorem compsL_zero : compsL 0 = [[]] := rfl
theorem compsL_mem : ∀ (n : Nat), n ≤ 12 → ∀ l ∈ compsL n, (∀ x ∈ l, 1 ≤ x ∧ x ≤ 12) ∧ l.sum = n ∧ l.length ≤ n := by
  intro n
  induction n using Nat.strongRecOn with
  | ind n ih =>
    intro hn l hl
    by_cases e : n = 0
    · subst e
      rw [compsL_zero, List.mem_singleton] at hl
      subst hl; simp
    · rw [compsL_step (by omega) hn] at hl
      simp only [List.mem_flatMap, List.mem_map] at hl
      obtain ⟨k, hk, l', hl', rfl⟩ := hl
      obtain ⟨a1, a2⟩ := List.mem_range'_1.1 hk
      obtain ⟨b1, b2, b3⟩ := ih (n - k) (by omega) (by omega) l' hl'
      refine ⟨fun x hx => ?_, ?_, ?_⟩
      · rcases List.mem_cons.1 hx with rfl | hx
        · omega
        · exact b1 x hx
      · rw [List.sum_cons, b2]; omega
      · rw [List.length_cons]; omega
theorem goodsL_comps {R : Nat → Nat → Bool} {m : Nat} (hm : m ≤ 12) : (compsL m).filter (goodB R m 0) = goodsL R m 0 := by
  have := comps_goods (R := R) (m := m) 13 0 (by omega) (by omega)
  rw [Nat.sub_zero] at this
  exact this
/-! ### The program of the reference -/
section
variable {N : Nat} (hN : 110 ≤ N)
theorem readings_l2_p {self : Int → Option (List (List Int))} {nn : Int} {k : Int} {rest : List (List Int)} (hrl : rest.length ≤ 100000) (hr : ∀ x ∈ rest, x.length ≤ 100) : ∀ (n i : Nat) (O : List (List Int)), rest.length < n + i → i ≤ rest.length → O.length + rest.length ≤ 100000 + i →
    readings_l2 N self n nn k i O rest = some (nn, k, O ++ (rest.drop i).map fun l => k :: l)
  | 0, i, O, h, _, _ => by omega
  | n + 1, i, O, h, hi, hO => by
    by_cases c : i < rest.length
    · have hx := hr _ (getD_mem (d := []) c)
      rw [readings_l2, br_dec (by omega), rng_eq (by omega), get_get [] (by omega), drop_cons c []]
      simp only [Int.toNat_natCast]
      generalize rest.getD i [] = x at *
      have ih := readings_l2_p (self := self) (nn := nn) (k := k) hrl hr n (i + 1) (O ++ [[k] ++ x]) (by omega) (by omega) (by simp; omega)
      rw [show ((i + 1 : Nat) : Int) = (i : Int) + 1 by omega] at ih
      rw [lim_eq (by simp; omega), lim_eq (by simp; omega), chk_eq (by omega), ih]
      simp
    · rw [readings_l2, br_ndec (by omega), List.drop_of_length_le (by omega)]; simp
theorem flat_bound {C : Nat → List (List Int)} (hC : ∀ k, (C k).length ≤ 4096) : ∀ (c s : Nat), ((List.range' s c).flatMap C).length ≤ 4096 * c
  | 0, s => by simp
  | c + 1, s => by
    rw [List.range'_succ, List.flatMap_cons, List.length_append]
    have := hC s; have := flat_bound hC c (s + 1); omega
theorem readings_l1_p {self : Int → Option (List (List Int))} {m : Nat} (hm : m ≤ 12) {C : Nat → List (List Int)} (hs : ∀ j, j < m → self j = some (C j)) (hC : ∀ j, (C j).length ≤ 4096 ∧ (C j).length < N) (hC2 : ∀ j, j < m → ∀ x ∈ C j, x.length ≤ 100) : ∀ (n k : Nat) (O : List (List Int)), m + 1 < n + k → 1 ≤ k → k ≤ m + 1 → O.length ≤ 4096 * k →
    readings_l1 N self n m k O = some (O ++ (List.range' k (m + 1 - k)).flatMap fun k => (C (m - k)).map fun l => (k : Int) :: l)
  | 0, k, O, h, _, _, _ => by omega
  | n + 1, k, O, h, h1, hk, hO => by
    by_cases c : k ≤ m
    · have hc := hC (m - k)
      have e2 := readings_l2_p (N := N) (self := self) (nn := (m : Int)) (k := (k : Int)) (rest := C (m - k)) (by omega) (hC2 _ (by omega)) N 0 O (by omega) (by omega) (by omega)
      simp only [Int.natCast_zero, List.drop_zero] at e2
      have ih := readings_l1_p hm hs hC hC2 n (k + 1) (O ++ (C (m - k)).map fun l => (k : Int) :: l) (by omega) (by omega) (by omega) (by simp; omega)
      rw [show ((k + 1 : Nat) : Int) = (k : Int) + 1 by omega] at ih
      rw [readings_l1, br_dec (by omega), chk_eq (by omega), show (m : Int) - k = ((m - k : Nat) : Int) by omega, hs _ (by omega)]
      simp only [Option.bind_some]
      rw [e2]
      simp only [Option.bind_some]
      rw [chk_eq (by omega), ih, show m + 1 - k = (m + 1 - (k + 1)) + 1 by omega, List.range'_succ, List.flatMap_cons, List.append_assoc]
    · rw [readings_l1, br_ndec (by omega), show m + 1 - k = 0 by omega]; simp
include hN
theorem readings_v (hN2 : 1030 ≤ N) : ∀ (f m : Nat), m < f → m ≤ 10 → readings_R N f m = some (compsL m)
  | 0, m, h, _ => by omega
  | f + 1, m, h, hm => by
    show readings_S N (readings_R N f) m = _
    unfold readings_S
    by_cases e : m = 0
    · subst e; rfl
    · have hb : ∀ j, (compsL (min j 10)).length ≤ 1024 := fun j => by
        refine Nat.le_trans (compsL_len (n := min j 10) (by omega)) ?_
        exact Nat.le_trans (Nat.pow_le_pow_right (by omega) (show min j 10 ≤ 10 by omega)) (by decide)
      have e1 := readings_l1_p (N := N) (self := readings_R N f) (m := m) (by omega) (C := fun j => compsL (min j 10)) (fun j hj => by
        rw [show min j 10 = j by omega]
        exact readings_v hN2 f j (by omega) (by omega)) (fun j => by have := hb j; omega) (fun j hj x hx => by
        have := compsL_mem (min j 10) (by omega) x hx; omega) N 1 [] (by omega) (by omega) (by omega) (by simp)
      rw [br_ndec (by omega)]
      simp only [Int.natCast_one] at e1
      rw [e1]
      simp only [Option.bind_some, List.nil_append]
      rw [compsL_step (by omega) (by omega), show m + 1 - 1 = m by omega]
      congr 1
      refine goods_fuel.flatMap_congr' fun k hk => ?_
      rw [show min (m - k) 10 = m - k by omega]
end
section
variable {ws : List Wd} {ts : List Tn} {br_ : Int}
theorem good_wrong : ∀ (l : List Int) (p : Nat) (i : Int), (∀ x ∈ l, 1 ≤ x ∧ x ≤ 12) → (p : Int) + l.sum = ws.length → (goodB (rightR ws ts br_) ws.length p l = true ↔ wrongF ws ts br_ l p i = none)
  | [], p, i, _, hs => by simp [goodB, wrongF]; simp at hs; omega
  | x :: l, p, i, h, hs => by
    have hx := h x (by simp)
    have hge := sum_ge (l := l) (fun y hy => h y (by simp [hy]))
    rw [List.sum_cons] at hs
    have ih := good_wrong l (p + x.toNat) (i + 1) (fun y hy => h y (by simp [hy])) (by omega)
    rw [good_cons, wrongF]
    unfold rightR
    cases (faultR ws ts br_ p (p + x.toNat)).2
    · rw [if_neg (by simp), ← ih]
      unfold rightR
      simp only [Bool.not_false, true_and]
      exact ⟨fun h => h.2, fun h => ⟨⟨by omega, by omega⟩, h⟩⟩
    · simp
theorem wrongR_iff (hF : checkT ws ts br_ = 0) {l : List Int} (h : ∀ x ∈ l, 1 ≤ x ∧ x ≤ 12) (hs : l.sum = ws.length) : (wrongR ws ts br_ l).2.2 = 6 ↔ goodB (rightR ws ts br_) ws.length 0 l = true := by
  rw [good_wrong l 0 0 h (by simpa using hs)]
  have hr : readE ws ts br_ l = 0 := by
    unfold readE
    rw [if_neg (by simpa using hF), if_neg (by simpa [in12] using h), if_neg (by simpa using hs)]
  unfold wrongR
  rw [if_neg (by simpa using hr)]
  cases wrongF ws ts br_ l 0 0 <;> simp
theorem good_read {l : List Int} (hm : ws.length ≤ 12) : ∀ {p : Nat}, goodB (rightR ws ts br_) ws.length p l = true → (∀ x ∈ l, 1 ≤ x ∧ x ≤ 12) ∧ (p : Int) + l.sum = ws.length := by
  induction l with
  | nil => intro p h; have := good_nil.1 h; simp; omega
  | cons x l ih =>
    intro p h
    obtain ⟨⟨b1, b2⟩, _, b4⟩ := good_cons.1 h
    obtain ⟨c1, c2⟩ := ih b4
    refine ⟨fun y hy => ?_, by rw [List.sum_cons]; omega⟩
    rcases List.mem_cons.1 hy with rfl | hy
    · omega
    · exact c1 y hy
variable {N : Nat} (hN : 1030 ≤ N)
include hN
theorem rright_l1_p (hw : ws.length ≤ 1000000) (ht : ts.length ≤ 1000000) {P : List Int → Bool} {all : List (List Int)} (ha : all.length ≤ 100000) (hl : ∀ l ∈ all, l.length ≤ 100 ∧ P l = decide ((wrongR ws ts br_ l).2.2 = 6)) : ∀ (n k : Nat), all.length < n + k → k ≤ all.length →
    rright_l1 N n k ws ts br_ ((all.take k).filter P) all = some (all.filter P)
  | 0, k, h, _ => by omega
  | n + 1, k, h, hk => by
    by_cases c : k < all.length
    · obtain ⟨hx1, hx2⟩ := hl _ (getD_mem (d := []) c)
      have ih := rright_l1_p hw ht ha hl n (k + 1) (by omega) (by omega)
      rw [take_succ' c [], List.filter_append] at ih
      have hlen : ((all.take k).filter P).length ≤ 100000 := Nat.le_trans (List.length_filter_le _ _) (by simp; omega)
      rw [rright_l1, br_dec (by omega), rng_eq (by omega), get_get [] (by omega)]
      simp only [Int.toNat_natCast]
      have g : all[k]? = some (all.getD k []) := by simp [List.getD, c]
      generalize all.getD k [] = x at *
      have hj : ∀ O, rright_j1 N (rright_l1 N n) k ws ts br_ O all = rright_l1 N n ((k + 1 : Nat) : Int) ws ts br_ O all := fun O => by
        unfold rright_j1
        rw [chk_eq (by omega)]; rfl
      rw [rwrong_v (by omega) hw ht hx1]
      simp only [Option.bind_some, hj]
      rw [List.filter_cons] at ih
      by_cases e : (wrongR ws ts br_ x).2.2 = 6
      · rw [decide_eq_true e] at hx2
        rw [br_dec e, rng_eq (by omega), get_eq g, lim_eq (by simp; omega)]
        rw [hx2] at ih
        exact ih
      · rw [decide_eq_false e] at hx2
        rw [br_ndec e]
        rw [hx2] at ih
        simpa using ih
    · rw [rright_l1, br_ndec (by omega), List.take_of_length_le (by omega)]
theorem rright_v (hF : checkT ws ts br_ = 0) (hm : ws.length ≤ 10) : rright_S N ws ts br_ = some (goodsT ws ts br_ 0) := by
  have hT := tfine_of hF
  have := hT.t
  unfold rright_S
  rw [readings_v (by omega) (by omega) N ws.length (by omega) hm]
  simp only [Option.bind_some]
  have hlen : (compsL ws.length).length ≤ 1024 := Nat.le_trans (compsL_len (by omega)) (Nat.le_trans (Nat.pow_le_pow_right (by omega) hm) (by decide))
  have e := rright_l1_p (ws := ws) (ts := ts) (br_ := br_) hN (by omega) (by omega) (P := goodB (rightR ws ts br_) ws.length 0) (all := compsL ws.length) (by omega) (fun l hl => by
    obtain ⟨a1, a2, a3⟩ := compsL_mem ws.length (by omega) l hl
    refine ⟨by omega, ?_⟩
    rw [Bool.eq_iff_iff, decide_eq_true_eq]
    exact (wrongR_iff hF a1 a2).symm) N 0 (by omega) (by omega)
  simp only [Int.natCast_zero, List.take_zero, List.filter_nil] at e
  rw [e, goodsL_comps (by omega)]; rfl
end
/-! ### The fewest breaths -/
section
variable {N : Nat} {l : List (List Int)} (hl : l.length ≤ 100000) (h1 : ∀ x ∈ l, 1 ≤ x.length)
include hl h1
theorem rfewest_l1_p : ∀ (n k : Nat) (b : Int), l.length < n + k → k ≤ l.length → (k = 0 ∧ b = 0 ∨ 0 < k ∧ (∃ x ∈ l, (x.length : Int) = b) ∧ ∀ x ∈ l.take k, b ≤ x.length) →
    ∃ z, rfewest_l1 N n l b k = some z ∧ (l = [] ∧ z = 0 ∨ (∃ x ∈ l, (x.length : Int) = z) ∧ ∀ x ∈ l, z ≤ x.length)
  | 0, k, b, h, _, _ => by omega
  | n + 1, k, b, h, hk, hb => by
    by_cases c : k < l.length
    · have hm := getD_mem (d := []) c
      have hx := h1 _ hm
      have tk := take_succ' c []
      have g := gets c ([] : List Int)
      have ih := rfewest_l1_p n (k + 1)
      rw [tk] at ih
      rw [rfewest_l1, br_dec (by omega)]
      generalize l.getD k [] = x at *
      have hj : ∀ b, rfewest_j1 N (rfewest_l1 N n) l b k = rfewest_l1 N n l b ((k + 1 : Nat) : Int) := fun b => by
        unfold rfewest_j1
        rw [chk_eq (by omega)]; rfl
      simp only [hj]
      rcases hb with ⟨rfl, rfl⟩ | ⟨h0, ⟨y, hy, rfl⟩, hb⟩
      · rw [br_dec rfl, idx_eq (by omega) g]
        exact ih x.length (by omega) (by omega) (.inr ⟨by omega, ⟨x, hm, rfl⟩, fun z hz => by simp at hz; subst hz; omega⟩)
      · have := h1 y hy
        rw [br_ndec (by omega), idx_eq (by omega) g]
        by_cases e : (x.length : Int) < y.length
        · rw [br_dec e, idx_eq (by omega) g]
          refine ih x.length (by omega) (by omega) (.inr ⟨by omega, ⟨x, hm, rfl⟩, fun z hz => ?_⟩)
          rcases List.mem_append.1 hz with hz | hz
          · have := hb z hz; omega
          · simp at hz; subst hz; omega
        · rw [br_ndec e]
          refine ih y.length (by omega) (by omega) (.inr ⟨by omega, ⟨y, hy, rfl⟩, fun z hz => ?_⟩)
          rcases List.mem_append.1 hz with hz | hz
          · exact hb z hz
          · simp at hz; subst hz; omega
    · rw [rfewest_l1, br_ndec (by omega)]
      refine ⟨b, rfl, ?_⟩
      rcases hb with ⟨rfl, rfl⟩ | ⟨h0, hb1, hb2⟩
      · exact .inl ⟨List.length_eq_zero_iff.1 (by omega), rfl⟩
      · rw [List.take_of_length_le (by omega)] at hb2
        exact .inr ⟨hb1, hb2⟩
theorem rfewest_v (hN : l.length < N) : (l = [] ∧ rfewest_S N l = some (0, 6)) ∨ ∃ z, rfewest_S N l = some (z, 0) ∧ (∃ x ∈ l, (x.length : Int) = z) ∧ ∀ x ∈ l, z ≤ x.length := by
  obtain ⟨z, e, hz⟩ := rfewest_l1_p (N := N) hl h1 N 0 0 (by omega) (by omega) (.inl ⟨rfl, rfl⟩)
  simp only [Int.natCast_zero] at e
  unfold rfewest_S
  rw [e]
  simp only [Option.bind_some]
  rcases hz with ⟨h, rfl⟩ | ⟨⟨x, hx, rfl⟩, h⟩
  · exact .inl ⟨h, rfl⟩
  · have := h1 x hx
    rw [br_ndec (by omega)]
    exact .inr ⟨_, rfl, ⟨x, hx, rfl⟩, h⟩
end
end Go.Proofs.Ytfamlpbdhhikdaa

namespace Go.Proofs.Ytfamlpbdhhikdaa
set_option linter.all false
open Go

section
variable {N : Nat} {l : List (List Int)} {ws : List Wd} {ts : List Tn} {br_ : Int} {O : List Int}
theorem rnever_l3_p {i : Nat} (hi : i < l.length) {x : List Int} (hx : l[i]? = some x) (hx1 : ∀ y ∈ x, 1 ≤ y ∧ y ≤ 12) (hxl : x.length ≤ 100) {p : Int} : ∀ (n k : Nat) (a : Int) (b : Bool), x.length < n + k → k ≤ x.length → 0 ≤ a ∧ a ≤ 12 * k →
    rnever_l3 N n l p b i a k ws ts br_ O = some (l, p, b || (psums a (x.drop k)).contains p, (i : Int), ws, ts, br_, O)
  | 0, k, a, b, h, _, _ => by omega
  | n + 1, k, a, b, h, hk, ha => by
    have gi : l[((i : Nat) : Int).toNat]? = some x := by simpa using hx
    by_cases c : k < x.length
    · have hy := hx1 _ (getD_mem (d := 0) c)
      have gk := gets c 0
      rw [drop_cons c 0]
      generalize x.getD k 0 = y at *
      have ih := fun b => rnever_l3_p hi hx hx1 hxl (p := p) n (k + 1) (a + y) b (by omega) (by omega) (by omega)
      rw [show ((k + 1 : Nat) : Int) = (k : Int) + 1 by omega] at ih
      rw [rnever_l3, idx_eq (by omega) gi, br_dec (by omega), idx_eq (by omega) gi, idx_eq (by omega) gk, chk_eq (by omega), chk_eq (by omega), chk_eq (by omega), ih, ih, psums, List.contains_cons]
      cases b
      · rw [br_false, Bool.false_or, show (p == a + y) = decide (a + y = p) by rw [Bool.eq_iff_iff]; simp; exact eq_comm]
      · rw [br_true, Bool.true_or, Bool.true_or]
    · rw [rnever_l3, idx_eq (by omega) gi, br_ndec (by omega), List.drop_of_length_le (by omega)]
      simp [psums]
theorem rnever_l2_p (hN : 110 ≤ N) (hl : l.length ≤ 100000) (hx : ∀ x ∈ l, (∀ y ∈ x, 1 ≤ y ∧ y ≤ 12) ∧ x.length ≤ 100) {p : Int} : ∀ (n k : Nat) (b : Bool), l.length < n + k → k ≤ l.length →
    rnever_l2 N n l p b k ws ts br_ O = some (l, p, b || (l.drop k).any (fun x => (psums 0 x).contains p), ws, ts, br_, O)
  | 0, k, b, h, _ => by omega
  | n + 1, k, b, h, hk => by
    by_cases c : k < l.length
    · obtain ⟨h1, h2⟩ := hx _ (getD_mem (d := []) c)
      have g : l[k]? = some (l.getD k []) := by simp [List.getD, c]
      rw [drop_cons c []]
      generalize l.getD k [] = x at *
      have e3 := rnever_l3_p (N := N) (ws := ws) (ts := ts) (br_ := br_) (O := O) c g h1 h2 (p := p) N 0 0 b (by omega) (by omega) (by omega)
      simp only [Int.natCast_zero, List.drop_zero] at e3
      have ih := rnever_l2_p hN hl hx (p := p) n (k + 1) (b || (psums 0 x).contains p) (by omega) (by omega)
      rw [show ((k + 1 : Nat) : Int) = (k : Int) + 1 by omega] at ih
      rw [rnever_l2, br_dec (by omega), e3]
      simp only [Option.bind_some]
      rw [chk_eq (by omega), ih, List.any_cons, Bool.or_assoc]
    · rw [rnever_l2, br_ndec (by omega), List.drop_of_length_le (by omega)]
      simp
end
section
variable {R : Nat → Nat → Bool} {m : Nat}
theorem any_brk (hm : m ≤ 12) {p : Nat} (h1 : 1 ≤ p) (hp : p ≤ m) : (goodsL R m 0).any (fun x => (psums 0 x).contains (p : Int)) = brkB R m p := by
  rw [Bool.eq_iff_iff, brkB, Bool.and_eq_true, metB_iff (by omega), finB_iff hp hm, List.any_eq_true]
  constructor
  · rintro ⟨l, hl, hc⟩
    have hg := (mem_goodsL (by omega) hm).1 hl
    rw [List.contains_iff_mem] at hc
    obtain ⟨l1, l2, _, _, a, b⟩ := (mem_psums hg p).1 hc
    exact ⟨⟨l1, a⟩, ⟨l2, b⟩⟩
  · rintro ⟨⟨l1, a⟩, ⟨l2, b⟩⟩
    have hg := good_app a b
    refine ⟨l1 ++ l2, (mem_goodsL (by omega) hm).2 hg, ?_⟩
    rw [List.contains_iff_mem]
    refine (mem_psums hg p).2 ⟨l1, l2, rfl, ?_, a, b⟩
    rintro rfl
    have := good_nil.1 a; omega
theorem brk_zero (hm : m ≤ 12) (h : goodsL R m 0 ≠ []) : brkB R m 0 = true := by
  rw [brkB, Bool.and_eq_true]
  refine ⟨(metB_iff (by omega)).2 ⟨[], by simp [goodB]⟩, ?_⟩
  unfold finB
  cases e : goodsL R m 0 with
  | nil => exact absurd e h
  | cons a l => rfl
end
section
variable {N : Nat} {ws : List Wd} {ts : List Tn} {br_ : Int} (hF : TFine ws ts br_) (hN : 1030 ≤ N) (hm : ws.length ≤ 10)
include hF hm hN
theorem goodsT_len : (goodsT ws ts br_ 0).length ≤ 1024 := by
  refine Nat.le_trans (goodsL_len hF.n ws.length 0 (by omega)) ?_
  exact Nat.le_trans (Nat.pow_le_pow_right (by omega) hm) (by decide)
theorem goodsT_mem {x : List Int} (hx : x ∈ goodsT ws ts br_ 0) : (∀ y ∈ x, 1 ≤ y ∧ y ≤ 12) ∧ x.length ≤ 12 ∧ 1 ≤ x.length ∧ x.sum = ws.length := by
  have hg := (mem_goodsL (by omega) hF.n).1 hx
  obtain ⟨h1, h2⟩ := good_read (by omega) hg
  have := sum_ge h1
  have := hF.n0
  refine ⟨h1, by omega, ?_, by simpa using h2⟩
  cases x with
  | nil => simp at h2; omega
  | cons a l => simp
theorem rnever_l1_p : ∀ (n k : Nat), ws.length < n + k → 1 ≤ k → k ≤ ws.length → (∀ x ∈ [0], goodsT ws ts br_ 0 ≠ []) → rnever_l1 N n (goodsT ws ts br_ 0) k ws ts br_ (nvK (rightR ws ts br_) ws.length k) = some (nvK (rightR ws ts br_) ws.length ws.length)
  | 0, k, h, _, _, _ => by omega
  | n + 1, k, h, h1, hk, h0 => by
    have hlen := goodsT_len hF hN hm
    by_cases c : k < ws.length
    · have e2 := rnever_l2_p (N := N) (ws := ws) (ts := ts) (br_ := br_) (O := nvK (rightR ws ts br_) ws.length k) (l := goodsT ws ts br_ 0) (by omega) (by omega) (fun x hx => by
        obtain ⟨a, b, _⟩ := goodsT_mem hF hN hm hx
        exact ⟨a, by omega⟩) (p := (k : Int)) N 0 false (by omega) (by omega)
      simp only [Int.natCast_zero, List.drop_zero, Bool.false_or] at e2
      rw [any_brk hF.n h1 hk] at e2
      have ih := rnever_l1_p n (k + 1) (by omega) (by omega) (by omega) h0
      rw [nvK_succ] at ih
      have hl := nvK_len (rightR ws ts br_) ws.length k
      have hj : ∀ O, rnever_j1 N (rnever_l1 N n) (goodsT ws ts br_ 0) k ws ts br_ O = rnever_l1 N n (goodsT ws ts br_ 0) ((k + 1 : Nat) : Int) ws ts br_ O := fun O => by
        unfold rnever_j1
        rw [chk_eq (by omega)]; rfl
      rw [rnever_l1, br_dec (by omega), e2]
      simp only [Option.bind_some, hj]
      cases hb : brkB (rightR ws ts br_) ws.length k
      · rw [Bool.not_false, br_true, lim_eq (by simp; omega)]
        rw [hb] at ih
        exact ih
      · rw [Bool.not_true, br_false]
        rw [hb] at ih
        simpa using ih
    · rw [rnever_l1, br_ndec (by omega)]
      obtain rfl : k = ws.length := by omega
      rfl
theorem rnever_v (h0 : goodsT ws ts br_ 0 ≠ []) : rnever_S N ws ts br_ (goodsT ws ts br_ 0) = some (nvK (rightR ws ts br_) ws.length ws.length) := by
  have := hF.n0
  have e := rnever_l1_p hF hN hm N 1 (by omega) (by omega) (by omega) (fun _ _ => h0)
  rw [nvK_succ, brk_zero hF.n h0] at e
  have e2 : nvK (rightR ws ts br_) ws.length 0 = [] := rfl
  rw [e2] at e
  simp only [Int.natCast_one, if_true, List.append_nil] at e
  unfold rnever_S
  rw [e]; rfl
end
/-- The fewest breaths: what is told. -/
theorem fewest_v {N : Nat} (hN : 110 ≤ N) {ws : List Wd} {ts : List Tn} {br_ : Int} (hw : ws.length ≤ 1000000) (ht : ts.length ≤ 1000000) :
    (checkT ws ts br_ ≠ 0 ∧ fewest_S N ws ts br_ = some ([], checkT ws ts br_)) ∨ (checkT ws ts br_ = 0 ∧
      ((∃ l, fewest_S N ws ts br_ = some (l, 0) ∧ goodB (rightR ws ts br_) ws.length 0 l = true ∧ IsMin (rightR ws ts br_) ws.length 0 l.length) ∨
       (fewest_S N ws ts br_ = some ([], 6) ∧ ∀ l, goodB (rightR ws ts br_) ws.length 0 l = false))) := by
  unfold fewest_S
  rw [opened_v (by omega) hw ht]
  by_cases c : checkT ws ts br_ = 0
  · refine .inr ⟨c, ?_⟩
    have hF := tfine_of c
    have := hF.t
    rw [if_pos c]
    simp only [Option.bind_some]
    rw [br_nd trivial]
    rcases fewestr_v (N := N) hN (d := (ws, ts, br_)) (r := (ws, ts, br_)) (R := rightR ws ts br_) (m := ws.length) rfl ⟨hF.n0, hF.n⟩ (fun a b h1 h2 => right_v hN hF.okW (by omega) (by omega) h2) with ⟨l, e, h1, h2⟩ | ⟨e, h1⟩
    · rw [e]; exact .inl ⟨l, rfl, h1, h2⟩
    · rw [e]; exact .inr ⟨rfl, h1⟩
  · refine .inl ⟨c, ?_⟩
    rw [if_neg c]
    simp only [Option.bind_some]
    rw [br_nnd c]
theorem tfewest_true {ws : List Wd} {ts : List Tn} {br_ : Int} (h0 : Ty.inB TextT (ws, ts, br_)) : tfewest_S 1100 ws ts br_ = some true := by
  unfold tfewest_S
  have aw : ((awake_S 1100).bind fun x => some x) = some true := by rw [awake_v]; rfl
  rcases great_v (N := 1100) (ws := ws) (ts := ts) (br_ := br_) 10 with e | ⟨e, hw, ht, hg⟩ <;> rw [e] <;> simp only [Option.bind_some]
  · rw [br_true]; exact aw
  rw [br_false, copyx_v (by omega) (by omega)]
  simp only [Option.bind_some]
  rw [theirs_v (by omega) (by omega) (by omega) (by omega)]
  simp only [Option.bind_some]
  have sm : same_S 1100 ws ts br_ ws ts br_ = some true := same_v (by omega) (by omega) (by omega) (by omega)
  rw [count_v (by omega) (by omega) (by omega), never_v (by omega) (by omega) (by omega), rcheck_v (by omega) (by omega) (by omega)]
  unfold countR neverR
  rcases fewest_v (N := 1100) (by omega) (ws := ws) (ts := ts) (br_ := br_) (by omega) (by omega) with ⟨c, ef⟩ | ⟨c, hf⟩
  · rw [ef]
    simp only [Option.bind_some]
    rw [if_pos c, if_pos c]
    dsimp only
    rw [br_nnd c, br_dec (by first | trivial | rfl), br_dec (by first | trivial | rfl), br_dec (by first | trivial | rfl)]
    simp only [List.length_nil, Int.natCast_zero, Int.add_zero]
    rw [chk_eq (by omega), chk_eq (by omega), br_dec trivial]
    exact aw
  · have hF := tfine_of c
    have hm : ws.length ≤ 10 := by have := hF.n; omega
    have hlen := goodsT_len (N := 1100) hF (by omega) hm
    have hmem := @goodsT_mem 1100 ws ts br_ hF (by omega) hm
    rw [if_neg (by simpa using c), if_neg (by simpa using c)]
    rcases rfewest_v (N := 1100) (l := goodsT ws ts br_ 0) (by omega) (fun x hx => (hmem hx).2.2.1) (by omega) with ⟨g0, er⟩ | ⟨z, er, ⟨x, hx, rfl⟩, hz⟩
    · rcases hf with ⟨l, ef, hl, _⟩ | ⟨ef, hno⟩
      · have := (mem_goodsL (R := rightR ws ts br_) (by omega) hF.n).2 hl
        rw [show goodsL (rightR ws ts br_) ws.length 0 = [] from g0] at this; cases this
      · rw [ef]
        simp only [Option.bind_some]
        rw [br_nd c, rright_v (by omega) c hm]
        simp only [Option.bind_some]
        rw [er, if_pos g0]
        simp only [Option.bind_some]
        rw [br_nd trivial, br_nd trivial, br_nd trivial, br_nd trivial, br_nd (by rfl), br_nnd (by omega), br_dec (by rfl), sm]
        simp only [Option.bind_some]
        rw [br_true]; exact aw
    · rcases hf with ⟨l, ef, hl, hmin⟩ | ⟨ef, hno⟩
      rotate_left
      · have := (mem_goodsL (R := rightR ws ts br_) (by omega) hF.n).1 hx
        rw [hno x] at this; cases this
      · have hne : goodsT ws ts br_ 0 ≠ [] := fun e => by rw [e] at hx; cases hx
        have hlx : (l.length : Int) = x.length := by
          have := hmin.le x ((mem_goodsL (R := rightR ws ts br_) (by omega) hF.n).1 hx)
          have := hz l ((mem_goodsL (R := rightR ws ts br_) (by omega) hF.n).2 hl)
          omega
        obtain ⟨r1, r2⟩ := good_read (by omega) hl
        have := sum_ge r1
        have hwr := (wrongR_iff c r1 (by simpa using r2)).2 hl
        rw [ef]
        simp only [Option.bind_some]
        rw [br_nd c, rright_v (by omega) c hm]
        simp only [Option.bind_some]
        rw [er, if_neg hne]
        simp only [Option.bind_some]
        rw [br_nd trivial, br_nd trivial, br_nd trivial, br_nd trivial, br_nd hlx, br_nd trivial, rwrong_v (by omega) (by omega) (by omega) (by omega)]
        simp only [Option.bind_some]
        rw [br_dec hwr, rnever_v hF (by omega) hm hne]
        simp only [Option.bind_some]
        have := nvK_len (rightR ws ts br_) ws.length ws.length
        rw [likei_v (by omega) (by omega)]
        simp only [Option.bind_some]
        rw [br_true, sm]
        simp only [Option.bind_some]
        rw [br_true]; exact aw
end Go.Proofs.Ytfamlpbdhhikdaa

/-
  Parts of a proof, put together: TD4, TD5, TD6, TD7, TD8, TD9, TB, TL1, TL2, TL3, TL4, TL5, TL6, TL7, TL8, TL9, TM1, TM2, TM3, TM4.
  Conditions: none.
-/
import Derived.Test.YtfamlpbdhhikdaaGreatZf
namespace Go.Proofs.YtfamlpbdhhikdaaGreat
set_option linter.all false
open Go
def goods (R : Nat → Nat → Bool) (m : Nat) : Nat → Nat → List (List Int)
 | 0, a => if a = m then [[]] else []
 | n + 1, a => if a = m then [[]] else (toL (R a) m (a + 1)).flatMap fun q => (goods R m n q).map fun l => ((q : Int) - a) :: l
section
variable {R : Nat → Nat → Bool} {m : Nat}
theorem goods_fuel : ∀ (n k a : Nat), m - a ≤ n → m - a ≤ k → a ≤ m → goods R m n a = goods R m k a
 | 0, 0, _, _, _, _ => rfl
 | 0, k + 1, a, h1, h2, h3 => by
  obtain rfl : a = m := by omega
  simp [goods]
 | n + 1, 0, a, h1, h2, h3 => by
  obtain rfl : a = m := by omega
  simp [goods]
 | n + 1, k + 1, a, h1, h2, h3 => by
  unfold goods
  split
  ·rfl
  ·have : ∀ q ∈ toL (R a) m (a + 1), (fun q => (goods R m n q).map fun l => ((q : Int) - a) :: l) q = (fun q => (goods R m k q).map fun l => ((q : Int) - a) :: l) q := fun q hq => by
    obtain ⟨a1, a2, _⟩ := mem_toL.1 hq
    dsimp only
    rw [goods_fuel n k q (by omega) (by omega) a2]
   exact flatMap_congr' this
where
 flatMap_congr' {α β : Type} {l : List α} {f g : α → List β} (h : ∀ x ∈ l, f x = g x) : l.flatMap f = l.flatMap g := by
  induction l with
  | nil => rfl
  | cons x l ih => rw [List.flatMap_cons, List.flatMap_cons, h x (by simp), ih (fun y hy => h y (by simp [hy]))]
def goodsL (R : Nat → Nat → Bool) (m a : Nat) : List (List Int) := goods R m 13 a
theorem goodsL_end : goodsL R m m = [[]] := by simp [goodsL, goods]
theorem goodsL_step {a : Nat} (h : a < m) (hm : m ≤ 12) : goodsL R m a = (toL (R a) m (a + 1)).flatMap fun q => (goodsL R m q).map fun l => ((q : Int) - a) :: l := by
 unfold goodsL
 rw [goods_fuel 13 14 a (by omega) (by omega) (by omega), goods, if_neg (by omega)]
theorem mem_goods {n : Nat} : ∀ (a : Nat), m - a ≤ n → a ≤ m → ∀ l, l ∈ goods R m n a ↔ goodB R m a l = true := by
 induction n with
 | zero =>
  intro a h1 h2 l
  obtain rfl : a = m := by omega
  simp only [goods, if_true, List.mem_singleton]
  cases l with
  | nil => simp [goodB]
  | cons x l =>
   simp only [reduceCtorEq, false_iff]
   intro h
   have := (good_cons.1 h).1; omega
 | succ n ih =>
  intro a h1 h2 l
  unfold goods
  split
  ·rename_i e; subst e
   simp only [List.mem_singleton]
   cases l with
   | nil => simp [goodB]
   | cons x l =>
    simp only [reduceCtorEq, false_iff]
    intro h
    have := (good_cons.1 h).1; omega
  ·rename_i e
   simp only [List.mem_flatMap, List.mem_map]
   constructor
   ·rintro ⟨q, hq, l', hl', rfl⟩
    obtain ⟨a1, a2, a3⟩ := mem_toL.1 hq
    exact good_step (by omega) a2 a3 ((ih q (by omega) a2 l').1 hl')
   ·intro h
    cases l with
    | nil => exact absurd (good_nil.1 h) e
    | cons x l =>
     obtain ⟨⟨b1, b2⟩, b3, b4⟩ := good_cons.1 h
     refine ⟨a + x.toNat, mem_toL.2 ⟨by omega, b2, b3⟩, l, (ih _ (by omega) b2 l).2 b4, ?_⟩
     congr 1; omega
theorem mem_goodsL {a : Nat} (ha : a ≤ m) (hm : m ≤ 12) {l : List Int} : l ∈ goodsL R m a ↔ goodB R m a l = true := mem_goods a (by omega) ha l
theorem toL_len {R : Nat → Bool} {m k : Nat} : (toL R m k).length ≤ m + 1 - k := by
 unfold toL
 refine Nat.le_trans (List.length_filter_le _ _) ?_
 simp
theorem goodsL_len (hm : m ≤ 12) : ∀ (k a : Nat), a + k = m → (goodsL R m a).length ≤ 2 ^ k := by
 intro k
 induction k using Nat.strongRecOn with
 | ind k ih =>
  intro a h
  by_cases e : k = 0
  ·subst e
   obtain rfl : a = m := by omega
   rw [goodsL_end]; simp
  ·-- one end after the other
   have key : ∀ (j : Nat), j ≤ k → ((toL (R a) m (m + 1 - j)).flatMap fun q => (goodsL R m q).map fun l => ((q : Int) - a) :: l).length + 1 ≤ 2 ^ j := by
    intro j
    induction j with
    | zero => intro _; rw [toL_end (by omega)]; simp
    | succ j ihj =>
     intro hj
     have h1 := ihj (by omega)
     have h2 := ih j (by omega) (m - j) (by omega)
     rw [show m + 1 - (j + 1) = m - j by omega]
     have e3 : m - j + 1 = m + 1 - j := by omega
     rw [Nat.pow_succ]
     cases hR : R a (m - j)
     ·rw [toL_no (by omega) hR, e3]; omega
     ·rw [toL_yes (by omega) hR, e3, List.flatMap_cons, List.length_append, List.length_map]; omega
   have := key k (Nat.le_refl _)
   rw [goodsL_step (by omega) hm, show a + 1 = m + 1 - k by omega]
   omega
theorem goodsL_len' (hm : m ≤ 12) {a : Nat} (ha : a ≤ m) : (goodsL R m a).length ≤ 4096 := by
 refine Nat.le_trans (goodsL_len hm (m - a) a (by omega)) ?_
 exact Nat.le_trans (Nat.pow_le_pow_right (by omega) (show m - a ≤ 12 by omega)) (by decide)
end
def look (M : List (Int × Int)) (a : Int) : Int := ((M.find? fun y => Ty.beq (.int .i64) y.1 a).map (·.2)).getD (Ty.dflt (.int .i64))
theorem look_nil (a : Int) : look [] a = 0 := rfl
theorem look_cons (k v : Int) (M : List (Int × Int)) (a : Int) : look ((k, v) :: M) a = if k = a then v else look M a := by
 unfold look
 rw [List.find?_cons]
 by_cases h : k = a
 ·rw [if_pos h, show Ty.beq (.int .i64) k a = true from decide_eq_true h]; rfl
 ·rw [if_neg h, show Ty.beq (.int .i64) k a = false from decide_eq_false h]
section
variable {N : Nat} (hN : 110 ≤ N) {ws : List Wd} {ts : List Tn} {br_ : Int} (hF : TFine ws ts br_)
abbrev goodsT (ws : List Wd) (ts : List Tn) (br_ : Int) (a : Nat) : List (List Int) := goodsL (rightR ws ts br_) ws.length a
include hF
theorem counts_l2_p {f : Nat} (hf : f < ws.length) {u : Int} {u2 : Tx} : ∀ (es : List Nat) (M : List (Int × Int)) (s : Int), (∀ q ∈ es, f < q ∧ q ≤ ws.length) → (∀ q : Nat, f < q → q ≤ ws.length → look M q = (goodsT ws ts br_ q).length) → (∀ q : Nat, q < f → look M q = 0) → look M f = s → 0 ≤ s ∧ s + 4096 * es.length ≤ 1000000 →
  Ok (counts_l2 N (es.map fun (j : Nat) => ((j : Int), ())) (ws, ts, br_) u u2 f M) fun z => z.1 = (ws, ts, br_) ∧ z.2.1 = f ∧ (∀ q : Nat, f < q → q ≤ ws.length → look z.2.2 q = (goodsT ws ts br_ q).length) ∧ (∀ q : Nat, q < f → look z.2.2 q = 0) ∧ look z.2.2 f = s + ((es.flatMap fun q => (goodsT ws ts br_ q).map fun l => ((q : Int) - f) :: l).length : Int)
 | [], M, s, _, h1, h2, h3, _ => Ok.some ⟨rfl, rfl, h1, h2, by simp [h3]⟩
 | q :: es, M, s, he, h1, h2, h3, hs => by
  obtain ⟨a1, a2⟩ := he q (by simp)
  have hlen : (goodsT ws ts br_ q).length ≤ 4096 := goodsL_len' (R := rightR ws ts br_) (m := ws.length) hF.n a2
  have hlk := h1 q a1 a2
  rw [List.map_cons, counts_l2]
  unfold counts_l2_b
  show Ok (chk (look M f + look M q) ((fun from__ out_ => counts_l2 N (es.map fun (j : Nat) => ((j : Int), ())) (ws, ts, br_) u u2 from__ out_) (f : Int) (((f : Int), look M f + look M q) :: M))) _
  rw [List.length_cons] at hs
  rw [chk_eq (by omega)]
  dsimp only
  refine (counts_l2_p hf es _ (s + (goodsT ws ts br_ q).length) (fun p hp => he p (by simp [hp])) (fun p b1 b2 => ?_) (fun p b1 => ?_) ?_ (by omega)).mono ?_
  ·rw [look_cons, if_neg (by omega)]; exact h1 p b1 b2
  ·rw [look_cons, if_neg (by omega)]; exact h2 p b1
  ·rw [look_cons, if_pos rfl]; omega
  ·rintro z ⟨c1, c2, c3, c4, c5⟩
   refine ⟨c1, c2, c3, c4, ?_⟩
   rw [c5, List.flatMap_cons, List.length_append, List.length_map]
   omega
theorem breathsR_v {f : Nat} (hf : f ≤ ws.length) : breathsR f (ws, ts, br_) = some ((endsL ws ts br_ f).map fun (j : Nat) => ((j : Int), ())) := by
 have := hF.t
 unfold breathsR
 rw [if_pos ⟨⟨by omega, by simp; omega⟩, hF.okW, by simp; omega⟩]
 simp
theorem counts_l1_p : ∀ (n f : Nat) (M : List (Int × Int)), f < n → f ≤ ws.length → (∀ q : Nat, f ≤ q → q ≤ ws.length → look M q = (goodsT ws ts br_ q).length) → (∀ q : Nat, q < f → look M q = 0) →
  Ok (counts_l1 N n (ws, ts, br_) ((f : Int) - 1) M) fun z => ∀ q : Nat, q ≤ ws.length → look z q = (goodsT ws ts br_ q).length
 | 0, f, M, h, _, _, _ => by omega
 | n + 1, f, M, h, hf, h1, h2 => by
  have := hF.n
  unfold counts_l1
  by_cases c : f = 0
  ·subst c
   rw [br_ndec (by omega)]
   exact Ok.some fun q hq => h1 q (by omega) hq
  ·obtain ⟨g, rfl⟩ : ∃ g, f = g + 1 := ⟨f - 1, by omega⟩
   rw [br_dec (by omega), show ((g + 1 : Nat) : Int) - 1 = (g : Int) by omega]
   simp only [breaths_S, Option.bind_some]
   rw [breathsR_v hF (by omega)]
   simp only [Option.bind_some]
   have hes : ∀ q ∈ endsL ws ts br_ g, g < q ∧ q ≤ ws.length := fun q hq => by
    obtain ⟨a1, a2, _⟩ := mem_toL.1 hq; omega
   have hel := toL_len (R := rightR ws ts br_ g) (m := ws.length) (k := g + 1)
   refine Ok.bind (counts_l2_p hF (f := g) (by omega) (endsL ws ts br_ g) M 0 hes (fun q a b => h1 q (by omega) b) (fun q a => h2 q (by omega)) (h2 g (by omega)) (by unfold endsL; omega)) ?_
   rintro ⟨d', f', M'⟩ ⟨e1, e2, e3, e4, e5⟩
   dsimp only at e1 e2 e3 e4 e5 ⊢
   rw [e1, e2, chk_eq (by omega)]
   refine counts_l1_p n g M' (by omega) (by omega) (fun q a b => ?_) e4
   by_cases e : q = g
   ·subst e
    have est : goodsT ws ts br_ q = _ := goodsL_step (R := rightR ws ts br_) (by omega) hF.n
    rw [e5, est, Int.zero_add]
    rfl
   ·exact e3 q (by omega) b
include hN
theorem counts_v : Ok (counts_S N (ws, ts, br_)) fun M => ∀ q : Nat, q ≤ ws.length → look M q = (goodsT ws ts br_ q).length := by
 have := hF.n; have := hF.n0
 unfold counts_S
 simp only [end__S, Option.bind_some]
 rw [chk_eq (by omega)]
 obtain ⟨z, e, hz⟩ := counts_l1_p (N := N) hF N ws.length (((ws.length : Int), 1) :: []) (by omega) (by omega) (fun q a b => by
  obtain rfl : q = ws.length := by omega
  rw [look_cons, if_pos rfl, (show goodsT ws ts br_ ws.length = _ from goodsL_end)]; rfl) (fun q a => by rw [look_cons, if_neg (by omega), look_nil])
 rw [e]
 exact Ok.some hz
end
def countR (ws : List Wd) (ts : List Tn) (br_ : Int) : Int × Int := if checkT ws ts br_ ≠ 0 then (0, checkT ws ts br_) else ((goodsT ws ts br_ 0).length, 0)
theorem count_v {N : Nat} (hN : 110 ≤ N) {ws : List Wd} {ts : List Tn} {br_ : Int} (hw : ws.length ≤ 1000000) (ht : ts.length ≤ 1000000) : count_S N ws ts br_ = some (countR ws ts br_) := by
 unfold count_S countR
 rw [opened_v (by omega) hw ht]
 by_cases c : checkT ws ts br_ = 0
 ·rw [if_pos c, if_neg (by simpa using c)]
  simp only [Option.bind_some]
  rw [br_nd trivial]
  obtain ⟨M, e, hM⟩ := counts_v hN (tfine_of c)
  rw [e]
  show some (look M 0, (0 : Int)) = _
  rw [show (0 : Int) = ((0 : Nat) : Int) from rfl, hM 0 (by omega)]
 ·rw [if_neg c, if_pos c]
  simp only [Option.bind_some]
  rw [br_nnd c]
end Go.Proofs.YtfamlpbdhhikdaaGreat

namespace Go.Proofs.YtfamlpbdhhikdaaGreat
set_option linter.all false
open Go

section
variable {R : Nat → Nat → Bool} {m : Nat}
theorem good_le : ∀ {l : List Int} {a : Nat}, goodB R m a l = true → a ≤ m
 | [], a, h => by have := good_nil.1 h; omega
 | x :: l, a, h => by have := (good_cons.1 h).1; omega
theorem good_last {k : Nat} : ∀ {l : List Int} {a : Nat}, goodB R k a l = true → l ≠ [] → ∃ p, p < k ∧ (∃ l1, goodB R p a l1 = true) ∧ R p k = true
 | [], a, h, hn => absurd rfl hn
 | x :: l, a, h, _ => by
  obtain ⟨⟨b1, b2⟩, b3, b4⟩ := good_cons.1 h
  by_cases e : l = []
  ·subst e
   have := good_nil.1 b4
   exact ⟨a, by omega, ⟨[], by simp [goodB]⟩, by rw [← this]; exact b3⟩
  ·obtain ⟨p, c1, ⟨l1, c2⟩, c3⟩ := good_last b4 e
   exact ⟨p, c1, ⟨x :: l1, good_cons.2 ⟨⟨b1, good_le c2⟩, b3, c2⟩⟩, c3⟩
theorem good_app {p : Nat} : ∀ {l1 : List Int} {a : Nat} {l2 : List Int}, goodB R p a l1 = true → goodB R m p l2 = true → goodB R m a (l1 ++ l2) = true
 | [], a, l2, h1, h2 => by obtain rfl := good_nil.1 h1; exact h2
 | x :: l1, a, l2, h1, h2 => by
  obtain ⟨⟨b1, b2⟩, b3, b4⟩ := good_cons.1 h1
  have := good_le h2
  exact good_cons.2 ⟨⟨b1, by omega⟩, b3, good_app b4 h2⟩
def psums : Int → List Int → List Int
 | _, [] => []
 | a, x :: l => (a + x) :: psums (a + x) l
theorem mem_psums : ∀ {l : List Int} {a : Nat}, goodB R m a l = true → ∀ p : Nat, (p : Int) ∈ psums a l ↔ ∃ l1 l2, l = l1 ++ l2 ∧ l1 ≠ [] ∧ goodB R p a l1 = true ∧ goodB R m p l2 = true
 | [], a, h, p => by
  simp only [psums, List.not_mem_nil, false_iff]
  rintro ⟨l1, l2, e, hn, _⟩
  exact hn (List.append_eq_nil_iff.1 e.symm).1
 | x :: l, a, h, p => by
  obtain ⟨⟨b1, b2⟩, b3, b4⟩ := good_cons.1 h
  have ih := mem_psums b4 p
  have e : (a : Int) + x = ((a + x.toNat : Nat) : Int) := by omega
  rw [psums, e, List.mem_cons, ih]
  constructor
  ·rintro (h1 | ⟨l1, l2, rfl, _, c2, c3⟩)
   ·obtain rfl : p = a + x.toNat := by omega
    exact ⟨[x], l, rfl, by simp, good_cons.2 ⟨⟨b1, Nat.le_refl _⟩, b3, by simp [goodB]⟩, b4⟩
   ·exact ⟨x :: l1, l2, rfl, by simp, good_cons.2 ⟨⟨b1, good_le c2⟩, b3, c2⟩, c3⟩
  ·rintro ⟨l1, l2, e1, hn, c2, c3⟩
   cases l1 with
   | nil => exact absurd rfl hn
   | cons y l1 =>
    simp only [List.cons_append, List.cons.injEq] at e1
    obtain ⟨rfl, rfl⟩ := e1
    obtain ⟨⟨d1, d2⟩, d3, d4⟩ := good_cons.1 c2
    by_cases e2 : l1 = []
    ·subst e2
     have := good_nil.1 d4
     exact .inl (by omega)
    ·exact .inr ⟨l1, l2, rfl, e2, d4, c3⟩
def metB (R : Nat → Nat → Bool) (p : Nat) : Bool := !(goodsL R p 0).isEmpty
def finB (R : Nat → Nat → Bool) (m p : Nat) : Bool := !(goodsL R m p).isEmpty
theorem ne_iff {α : Type} {l : List α} : (!l.isEmpty) = true ↔ ∃ x, x ∈ l := by
 cases l with
 | nil => simp
 | cons a l => simp
theorem metB_iff {p : Nat} (hp : p ≤ 12) : metB R p = true ↔ ∃ l, goodB R p 0 l = true := by
 unfold metB
 rw [ne_iff]
 exact ⟨fun ⟨l, h⟩ => ⟨l, (mem_goodsL (by omega) hp).1 h⟩, fun ⟨l, h⟩ => ⟨l, (mem_goodsL (by omega) hp).2 h⟩⟩
theorem finB_iff {p : Nat} (hp : p ≤ m) (hm : m ≤ 12) : finB R m p = true ↔ ∃ l, goodB R m p l = true := by
 unfold finB
 rw [ne_iff]
 exact ⟨fun ⟨l, h⟩ => ⟨l, (mem_goodsL hp hm).1 h⟩, fun ⟨l, h⟩ => ⟨l, (mem_goodsL hp hm).2 h⟩⟩
def brkB (R : Nat → Nat → Bool) (m p : Nat) : Bool := metB R p && finB R m p
def MetSo (R : Nat → Nat → Bool) (m k : Nat) (M : List Bool) : Prop := M.length = 13 ∧ ∀ q, q ≤ m → (M.getD q false = true ↔ q = 0 ∨ ∃ p, p < k ∧ p < q ∧ brkB R m p = true ∧ R p q = true)
theorem MetSo.here {k : Nat} {M : List Bool} (h : MetSo R m k M) (hk : k ≤ m) (hm : m ≤ 12) (hf : finB R m k = true) : M.getD k false = metB R k := by
 rw [Bool.eq_iff_iff, h.2 k hk, metB_iff (by omega)]
 constructor
 ·rintro (rfl | ⟨p, h1, h2, h3, h4⟩)
  ·exact ⟨[], by simp [goodB]⟩
  ·simp only [brkB, Bool.and_eq_true] at h3
   obtain ⟨l, hl⟩ := (metB_iff (by omega)).1 h3.1
   exact ⟨l ++ [((k : Int) - p)], good_app hl (good_step h1 (Nat.le_refl _) h4 (by simp [goodB]))⟩
 ·rintro ⟨l, hl⟩
  by_cases e : l = []
  ·subst e; exact .inl (good_nil.1 hl).symm
  ·obtain ⟨p, c1, c2, c3⟩ := good_last hl e
   refine .inr ⟨p, c1, c1, ?_, c3⟩
   simp only [brkB, Bool.and_eq_true]
   obtain ⟨l2, hl2⟩ := (finB_iff hk hm).1 hf
   exact ⟨(metB_iff (by omega)).2 c2, (finB_iff (by omega) hm).2 ⟨_, good_step c1 hk c3 hl2⟩⟩
theorem MetSo.skip {k : Nat} {M : List Bool} (h : MetSo R m k M) (hb : brkB R m k = false) : MetSo R m (k + 1) M := by
 refine ⟨h.1, fun q hq => (h.2 q hq).trans ?_⟩
 constructor
 ·rintro (h1 | ⟨p, h1, h2⟩)
  ·exact .inl h1
  ·exact .inr ⟨p, by omega, h2⟩
 ·rintro (h1 | ⟨p, h1, h2, h3, h4⟩)
  ·exact .inl h1
  ·by_cases e : p = k
   ·subst e; rw [hb] at h3; cases h3
   ·exact .inr ⟨p, by omega, h2, h3, h4⟩
def nvK (R : Nat → Nat → Bool) (m k : Nat) : List Int := ((List.range k).filter fun p => !brkB R m p).map fun (p : Nat) => (p : Int)
theorem nvK_len (R : Nat → Nat → Bool) (m k : Nat) : (nvK R m k).length ≤ k := by
 have := List.length_filter_le (fun p => !brkB R m p) (List.range k)
 simp only [nvK, List.length_map]
 simpa using this
theorem nvK_succ (R : Nat → Nat → Bool) (m k : Nat) : nvK R m (k + 1) = nvK R m k ++ (if brkB R m k = true then [] else [(k : Int)]) := by
 simp only [nvK, List.range_succ, List.filter_append, List.map_append]
 congr 1
 rw [List.filter_cons]
 cases brkB R m k <;> rfl
end
section
variable {N : Nat} (hN : 110 ≤ N) {ws : List Wd} {ts : List Tn} {br_ : Int} (hF : TFine ws ts br_)
include hF
theorem never_l2_p {u u2 u3 u4 : Int} {d u5 : Tx} {on : List (Int × Int)} {O : List Int} : ∀ (es : List Nat) (M : List Bool), M.length = 13 → (∀ q ∈ es, q ≤ ws.length) →
  ∃ M', never_l2 N (es.map fun (j : Nat) => ((j : Int), ())) u d u2 u3 u4 u5 on M O = some (u, d, u2, u3, on, M', O) ∧ M'.length = 13 ∧ ∀ q, M'.getD q false = (M.getD q false || decide (q ∈ es))
 | [], M, hM, _ => ⟨M, rfl, hM, fun q => by simp⟩
 | e :: es, M, hM, he => by
  have := hF.n
  have h1 := he e (by simp)
  obtain ⟨M', e1, e2, e3⟩ := never_l2_p es (M.set e true) (by simpa using hM) (fun q hq => he q (by simp [hq]))
  refine ⟨M', ?_, e2, fun q => ?_⟩
  ·rw [List.map_cons, never_l2]
   unfold never_l2_b
   rw [rng_eq (by omega), get_get false (by omega)]
   exact e1
  ·rw [e3 q, getD_set' (by omega)]
   by_cases h : e = q
   ·subst h; simp
   ·rw [if_neg h]
    simp [show ¬ q = e from fun h2 => h h2.symm]
theorem never_l1_p {on : List (Int × Int)} (hon : ∀ q : Nat, q ≤ ws.length → look on q = (goodsT ws ts br_ q).length) {u : Int} : ∀ (n k : Nat) (M : List Bool), ws.length < n + k → k ≤ ws.length → MetSo (rightR ws ts br_) ws.length k M →
  never_l1 N n u (ws, ts, br_) ws.length k on M (nvK (rightR ws ts br_) ws.length k) = some (nvK (rightR ws ts br_) ws.length ws.length)
 | 0, k, M, h, _, _ => by omega
 | n + 1, k, M, h, hk, hM => by
  have hn := hF.n
  by_cases c : k < ws.length
  rotate_left
  ·obtain rfl : k = ws.length := by omega
   rw [never_l1, br_ndec (by omega)]
  have hl := nvK_len (rightR ws ts br_) ws.length k
  have ih := never_l1_p hon (u := u) n (k + 1)
  rw [nvK_succ] at ih
  have hM0 := hM.1
  have hj : ∀ M O, never_j1 N (never_l1 N n) u (ws, ts, br_) ws.length k on M O = never_l1 N n u (ws, ts, br_) ws.length ((k + 1 : Nat) : Int) on M O := fun M O => by
   unfold never_j1
   rw [chk_eq (by omega)]; rfl
  have hlk := hon k hk
  rw [never_l1, br_dec (by omega), rng_eq (by omega), get_get false (by omega)]
  simp only [Int.toNat_natCast, hj]
  have put : brkB (rightR ws ts br_) ws.length k = false → (lim ((nvK (rightR ws ts br_) ws.length k).length + [(k : Int)].length) <| never_l1 N n u (ws, ts, br_) ws.length ((k + 1 : Nat) : Int) on M (nvK (rightR ws ts br_) ws.length k ++ [(k : Int)])) = some (nvK (rightR ws ts br_) ws.length ws.length) := fun hb => by
   rw [lim_eq (by simp; omega)]
   have := ih M (by omega) (by omega) (hM.skip hb)
   rw [hb] at this
   exact this
  have hfin : finB (rightR ws ts br_) ws.length k = !decide (look on k = 0) := by
   rw [hlk]
   unfold finB goodsT
   cases goodsL (rightR ws ts br_) ws.length k with
   | nil => rfl
   | cons a l => simp; omega
  cases hmet : M.getD k false
  ·rw [Bool.not_false, br_true]
   refine put ?_
   cases hf : finB (rightR ws ts br_) ws.length k
   ·simp [brkB, hf]
   ·have := hM.here hk hn hf
    rw [hmet] at this
    simp [brkB, ← this]
  ·rw [Bool.not_true, br_false]
   show br (decide (look on k = 0)) _ _ = _
   by_cases e : look on k = 0
   ·rw [br_dec e]
    refine put ?_
    rw [decide_eq_true e] at hfin
    simp [brkB, hfin]
   ·rw [br_ndec e]
    rw [decide_eq_false e] at hfin
    have hb : brkB (rightR ws ts br_) ws.length k = true := by
     have := hM.here hk hn hfin
     rw [hmet] at this
     simp [brkB, hfin, ← this]
    simp only [breaths_S, Option.bind_some]
    rw [breathsR_v hF hk]
    simp only [Option.bind_some]
    obtain ⟨M', e1, e2, e3⟩ := never_l2_p (N := N) hF (u := u) (u2 := (ws.length : Int)) (u3 := (k : Int)) (u4 := (k : Int)) (d := (ws, ts, br_)) (u5 := (ws, ts, br_)) (on := on) (O := nvK (rightR ws ts br_) ws.length k) (endsL ws ts br_ k) M hM0 (fun q hq => (mem_toL.1 hq).2.1)
    rw [e1]
    simp only [Option.bind_some, hj]
    have := ih M' (by omega) (by omega) ⟨e2, fun q hq => ?_⟩
    ·rw [hb] at this
     simpa using this
    ·rw [e3 q]
     simp only [Bool.or_eq_true, decide_eq_true_eq, hM.2 q hq]
     unfold endsL
     rw [mem_toL]
     constructor
     ·rintro ((h1 | ⟨p, h1, h2⟩) | ⟨h1, h2, h3⟩)
      ·exact .inl h1
      ·exact .inr ⟨p, by omega, h2⟩
      ·exact .inr ⟨k, by omega, by omega, hb, h3⟩
     ·rintro (h1 | ⟨p, h1, h2, h3, h4⟩)
      ·exact .inl (.inl h1)
      ·by_cases e5 : p = k
       ·subst e5; exact .inr ⟨by omega, hq, h4⟩
       ·exact .inl (.inr ⟨p, by omega, h2, h3, h4⟩)
end
def neverR (ws : List Wd) (ts : List Tn) (br_ : Int) : List Int × Int :=
 if checkT ws ts br_ ≠ 0 then ([], checkT ws ts br_) else if goodsT ws ts br_ 0 = [] then ([], 6) else (nvK (rightR ws ts br_) ws.length ws.length, 0)
theorem never_v {N : Nat} (hN : 110 ≤ N) {ws : List Wd} {ts : List Tn} {br_ : Int} (hw : ws.length ≤ 1000000) (ht : ts.length ≤ 1000000) : never_S N ws ts br_ = some (neverR ws ts br_) := by
 unfold never_S neverR
 rw [opened_v (by omega) hw ht]
 by_cases c : checkT ws ts br_ = 0
 ·have hF := tfine_of c
  have hn := hF.n; have hn0 := hF.n0
  rw [if_pos c, if_neg (by simpa using c)]
  simp only [Option.bind_some]
  rw [br_nd trivial]
  obtain ⟨M, e, hM⟩ := counts_v hN hF
  rw [e]
  simp only [Option.bind_some]
  show br (decide (look M 0 = 0)) _ _ = _
  have h0 := hM 0 (by omega)
  by_cases d : goodsT ws ts br_ 0 = []
  ·rw [if_pos d, br_dec (by rw [show (0 : Int) = ((0 : Nat) : Int) from rfl, h0, d]; rfl)]
  ·have : 0 < (goodsT ws ts br_ 0).length := List.length_pos_iff.2 d
   rw [if_neg d, br_ndec (by rw [show (0 : Int) = ((0 : Nat) : Int) from rfl, h0]; omega), get_get false (by simp)]
   simp only [end__S, Option.bind_some]
   have e1 := never_l1_p (N := N) hF hM (u := 0) N 0 ((List.replicate 13 false).set 0 true) (by omega) (by omega) ⟨by simp, fun q hq => ?_⟩
   ·have e2 : nvK (rightR ws ts br_) ws.length 0 = [] := rfl
    rw [e2] at e1
    simp only [Int.natCast_zero] at e1
    rw [e1]; rfl
   ·rw [getD_set' (by simp)]
    by_cases e : 0 = q
    ·rw [if_pos e]; simp [e.symm]
    ·rw [if_neg e]
     have : (List.replicate 13 false).getD q false = false := by
      simp only [List.getD, List.getElem?_replicate]
      split <;> rfl
     rw [this]
     simp
     omega
 ·rw [if_neg c, if_pos c]
  simp only [Option.bind_some]
  rw [br_nnd c]
end Go.Proofs.YtfamlpbdhhikdaaGreat

namespace Go.Proofs.YtfamlpbdhhikdaaGreat
set_option linter.all false
open Go
def comps : Nat → Nat → List (List Int)
 | 0, n => if n = 0 then [[]] else []
 | f + 1, n => if n = 0 then [[]] else (List.range' 1 n).flatMap fun k => (comps f (n - k)).map fun l => (k : Int) :: l
theorem comps_fuel : ∀ (f g n : Nat), n ≤ f → n ≤ g → comps f n = comps g n
 | 0, 0, _, _, _ => rfl
 | 0, g + 1, n, h1, h2 => by obtain rfl : n = 0 := by omega
                             simp [comps]
 | f + 1, 0, n, h1, h2 => by obtain rfl : n = 0 := by omega
                             simp [comps]
 | f + 1, g + 1, n, h1, h2 => by
  unfold comps
  split
  ·rfl
  ·refine goods_fuel.flatMap_congr' fun k hk => ?_
   obtain ⟨a1, a2⟩ := List.mem_range'_1.1 hk
   rw [comps_fuel f g (n - k) (by omega) (by omega)]
theorem flat_shift {β : Type} (p : Nat → Bool) (a n : Nat) (G h : Nat → List β) (hG : ∀ s, 1 ≤ s → s ≤ n → G s = if p (a + s) = true then h (a + s) else []) : ∀ c s, 1 ≤ s → s + c ≤ n + 1 → (List.range' s c).flatMap G = ((List.range' (a + s) c).filter p).flatMap h
 | 0, s, _, _ => rfl
 | c + 1, s, hs, hn => by
  rw [List.range'_succ, List.range'_succ, List.flatMap_cons, List.filter_cons, hG s hs (by omega), flat_shift p a n G h hG c (s + 1) (by omega) (by omega), show a + (s + 1) = a + s + 1 by omega]
  cases p (a + s)
  ·simp
  ·simp
section
variable {R : Nat → Nat → Bool} {m : Nat}
theorem cons_shift {a k : Nat} : (fun l : List Int => (((a + k : Nat) : Int) - a) :: l) = fun l => (k : Int) :: l := by
 funext l; congr 1; omega
theorem comps_goods : ∀ (f a : Nat), m - a ≤ f → a ≤ m → (comps f (m - a)).filter (goodB R m a) = goods R m f a
 | 0, a, h, ha => by
  obtain rfl : a = m := by omega
  simp [comps, goods, goodB]
 | f + 1, a, h, ha => by
  unfold comps goods
  by_cases e : a = m
  ·subst e; simp [goodB]
  ·rw [if_neg (by omega), if_neg e, List.filter_flatMap]
   unfold toL
   rw [show m + 1 - (a + 1) = m - a by omega]
   refine flat_shift (R a) a (m - a) _ _ (fun s h1 h2 => ?_) (m - a) 1 (Nat.le_refl _) (by omega)
   have ih := comps_goods f (a + s) (by omega) (by omega)
   rw [List.filter_map, cons_shift]
   have hp : (goodB R m a ∘ fun l => (s : Int) :: l) = fun l => R a (a + s) && goodB R m (a + s) l := by
    funext l
    simp only [Function.comp, goodB, Int.toNat_natCast]
    rw [decide_eq_true (show 1 ≤ (s : Int) by omega), decide_eq_true (show a + s ≤ m by omega)]
    rfl
   rw [hp, show m - a - s = m - (a + s) by omega]
   cases hR : R a (a + s)
   ·simp
   ·simp only [Bool.true_and, if_true]
    rw [ih]
theorem comps_all : ∀ (f a : Nat), m - a ≤ f → a ≤ m → comps f (m - a) = goods (fun _ _ => true) m f a
 | 0, a, h, ha => by
  obtain rfl : a = m := by omega
  simp [comps, goods]
 | f + 1, a, h, ha => by
  unfold comps goods
  by_cases e : a = m
  ·subst e; simp
  ·rw [if_neg (by omega), if_neg e]
   unfold toL
   rw [show m + 1 - (a + 1) = m - a by omega]
   refine flat_shift (fun _ => true) a (m - a) _ _ (fun s h1 h2 => ?_) (m - a) 1 (Nat.le_refl _) (by omega)
   have ih := comps_all f (a + s) (by omega) (by omega)
   rw [cons_shift, show m - a - s = m - (a + s) by omega, ih]; rfl
end
def compsL (n : Nat) : List (List Int) := comps 13 n
theorem compsL_len {n : Nat} (h : n ≤ 12) : (compsL n).length ≤ 2 ^ n := by
 have e := comps_all (m := n) 13 0 (by omega) (by omega)
 unfold compsL
 rw [Nat.sub_zero] at e
 rw [e]
 exact goodsL_len (R := fun _ _ => true) h n 0 (by omega)
theorem compsL_step {n : Nat} (h : 1 ≤ n) (hn : n ≤ 12) : compsL n = (List.range' 1 n).flatMap fun k => (compsL (n - k)).map fun l => (k : Int) :: l := by
 unfold compsL
 rw [comps_fuel 13 14 n (by omega) (by omega), comps, if_neg (by omega)]
theorem compsL_zero : compsL 0 = [[]] := rfl
theorem compsL_mem : ∀ (n : Nat), n ≤ 12 → ∀ l ∈ compsL n, (∀ x ∈ l, 1 ≤ x ∧ x ≤ 12) ∧ l.sum = n ∧ l.length ≤ n := by
 intro n
 induction n using Nat.strongRecOn with
 | ind n ih =>
  intro hn l hl
  by_cases e : n = 0
  ·subst e
   rw [compsL_zero, List.mem_singleton] at hl
   subst hl; simp
  ·rw [compsL_step (by omega) hn] at hl
   simp only [List.mem_flatMap, List.mem_map] at hl
   obtain ⟨k, hk, l', hl', rfl⟩ := hl
   obtain ⟨a1, a2⟩ := List.mem_range'_1.1 hk
   obtain ⟨b1, b2, b3⟩ := ih (n - k) (by omega) (by omega) l' hl'
   refine ⟨fun x hx => ?_, ?_, ?_⟩
   ·rcases List.mem_cons.1 hx with rfl | hx
    ·omega
    ·exact b1 x hx
   ·rw [List.sum_cons, b2]; omega
   ·rw [List.length_cons]; omega
theorem goodsL_comps {R : Nat → Nat → Bool} {m : Nat} (hm : m ≤ 12) : (compsL m).filter (goodB R m 0) = goodsL R m 0 := by
 have := comps_goods (R := R) (m := m) 13 0 (by omega) (by omega)
 rw [Nat.sub_zero] at this
 exact this
section
variable {N : Nat} (hN : 110 ≤ N)
theorem readings_l2_p {self : Int → Option (List (List Int))} {nn : Int} {k : Int} {rest : List (List Int)} (hrl : rest.length ≤ 100000) (hr : ∀ x ∈ rest, x.length ≤ 100) : ∀ (n i : Nat) (O : List (List Int)), rest.length < n + i → i ≤ rest.length → O.length + rest.length ≤ 100000 + i →
  readings_l2 N self n nn k i O rest = some (nn, k, O ++ (rest.drop i).map fun l => k :: l)
 | 0, i, O, h, _, _ => by omega
 | n + 1, i, O, h, hi, hO => by
  by_cases c : i < rest.length
  ·have hx := hr _ (getD_mem (d := []) c)
   rw [readings_l2, br_dec (by omega), rng_eq (by omega), get_get [] (by omega), drop_cons c []]
   simp only [Int.toNat_natCast]
   generalize rest.getD i [] = x at *
   have ih := readings_l2_p (self := self) (nn := nn) (k := k) hrl hr n (i + 1) (O ++ [[k] ++ x]) (by omega) (by omega) (by simp; omega)
   rw [show ((i + 1 : Nat) : Int) = (i : Int) + 1 by omega] at ih
   rw [lim_eq (by simp; omega), lim_eq (by simp; omega), chk_eq (by omega), ih]
   simp
  ·rw [readings_l2, br_ndec (by omega), List.drop_of_length_le (by omega)]; simp
theorem readings_l1_p {self : Int → Option (List (List Int))} {m : Nat} (hm : m ≤ 12) {C : Nat → List (List Int)} (hs : ∀ j, j < m → self j = some (C j)) (hC : ∀ j, (C j).length ≤ 4096 ∧ (C j).length < N) (hC2 : ∀ j, j < m → ∀ x ∈ C j, x.length ≤ 100) : ∀ (n k : Nat) (O : List (List Int)), m + 1 < n + k → 1 ≤ k → k ≤ m + 1 → O.length ≤ 4096 * k →
  readings_l1 N self n m k O = some (O ++ (List.range' k (m + 1 - k)).flatMap fun k => (C (m - k)).map fun l => (k : Int) :: l)
 | 0, k, O, h, _, _, _ => by omega
 | n + 1, k, O, h, h1, hk, hO => by
  by_cases c : k ≤ m
  ·have hc := hC (m - k)
   have e2 := readings_l2_p (N := N) (self := self) (nn := (m : Int)) (k := (k : Int)) (rest := C (m - k)) (by omega) (hC2 _ (by omega)) N 0 O (by omega) (by omega) (by omega)
   simp only [Int.natCast_zero, List.drop_zero] at e2
   have ih := readings_l1_p hm hs hC hC2 n (k + 1) (O ++ (C (m - k)).map fun l => (k : Int) :: l) (by omega) (by omega) (by omega) (by simp; omega)
   rw [show ((k + 1 : Nat) : Int) = (k : Int) + 1 by omega] at ih
   rw [readings_l1, br_dec (by omega), chk_eq (by omega), show (m : Int) - k = ((m - k : Nat) : Int) by omega, hs _ (by omega)]
   simp only [Option.bind_some]
   rw [e2]
   simp only [Option.bind_some]
   rw [chk_eq (by omega), ih, show m + 1 - k = (m + 1 - (k + 1)) + 1 by omega, List.range'_succ, List.flatMap_cons, List.append_assoc]
  ·rw [readings_l1, br_ndec (by omega), show m + 1 - k = 0 by omega]; simp
include hN
theorem readings_v (hN2 : 1030 ≤ N) : ∀ (f m : Nat), m < f → m ≤ 10 → readings_R N f m = some (compsL m)
 | 0, m, h, _ => by omega
 | f + 1, m, h, hm => by
  show readings_S N (readings_R N f) m = _
  unfold readings_S
  by_cases e : m = 0
  ·subst e; rfl
  ·have hb : ∀ j, (compsL (min j 10)).length ≤ 1024 := fun j => by
    refine Nat.le_trans (compsL_len (n := min j 10) (by omega)) ?_
    exact Nat.le_trans (Nat.pow_le_pow_right (by omega) (show min j 10 ≤ 10 by omega)) (by decide)
   have e1 := readings_l1_p (N := N) (self := readings_R N f) (m := m) (by omega) (C := fun j => compsL (min j 10)) (fun j hj => by
    rw [show min j 10 = j by omega]
    exact readings_v hN2 f j (by omega) (by omega)) (fun j => by have := hb j; omega) (fun j hj x hx => by
    have := compsL_mem (min j 10) (by omega) x hx; omega) N 1 [] (by omega) (by omega) (by omega) (by simp)
   rw [br_ndec (by omega)]
   simp only [Int.natCast_one] at e1
   rw [e1]
   simp only [Option.bind_some, List.nil_append]
   rw [compsL_step (by omega) (by omega), show m + 1 - 1 = m by omega]
   congr 1
   refine goods_fuel.flatMap_congr' fun k hk => ?_
   rw [show min (m - k) 10 = m - k by omega]
end
section
variable {ws : List Wd} {ts : List Tn} {br_ : Int}
theorem good_wrong : ∀ (l : List Int) (p : Nat) (i : Int), (∀ x ∈ l, 1 ≤ x ∧ x ≤ 12) → (p : Int) + l.sum = ws.length → (goodB (rightR ws ts br_) ws.length p l = true ↔ wrongF ws ts br_ l p i = none)
 | [], p, i, _, hs => by simp [goodB, wrongF]; simp at hs; omega
 | x :: l, p, i, h, hs => by
  have hx := h x (by simp)
  have hge := sum_ge (l := l) (fun y hy => h y (by simp [hy]))
  rw [List.sum_cons] at hs
  have ih := good_wrong l (p + x.toNat) (i + 1) (fun y hy => h y (by simp [hy])) (by omega)
  rw [good_cons, wrongF]
  unfold rightR
  cases (faultR ws ts br_ p (p + x.toNat)).2
  ·rw [if_neg (by simp), ← ih]
   unfold rightR
   simp only [Bool.not_false, true_and]
   exact ⟨fun h => h.2, fun h => ⟨⟨by omega, by omega⟩, h⟩⟩
  ·simp
theorem wrongR_iff (hF : checkT ws ts br_ = 0) {l : List Int} (h : ∀ x ∈ l, 1 ≤ x ∧ x ≤ 12) (hs : l.sum = ws.length) : (wrongR ws ts br_ l).2.2 = 6 ↔ goodB (rightR ws ts br_) ws.length 0 l = true := by
 rw [good_wrong l 0 0 h (by simpa using hs)]
 have hr : readE ws ts br_ l = 0 := by
  unfold readE
  rw [if_neg (by simpa using hF), if_neg (by simpa [in12] using h), if_neg (by simpa using hs)]
 unfold wrongR
 rw [if_neg (by simpa using hr)]
 cases wrongF ws ts br_ l 0 0 <;> simp
theorem good_read {l : List Int} (hm : ws.length ≤ 12) : ∀ {p : Nat}, goodB (rightR ws ts br_) ws.length p l = true → (∀ x ∈ l, 1 ≤ x ∧ x ≤ 12) ∧ (p : Int) + l.sum = ws.length := by
 induction l with
 | nil => intro p h; have := good_nil.1 h; simp; omega
 | cons x l ih =>
  intro p h
  obtain ⟨⟨b1, b2⟩, _, b4⟩ := good_cons.1 h
  obtain ⟨c1, c2⟩ := ih b4
  refine ⟨fun y hy => ?_, by rw [List.sum_cons]; omega⟩
  rcases List.mem_cons.1 hy with rfl | hy
  ·omega
  ·exact c1 y hy
variable {N : Nat} (hN : 1030 ≤ N)
include hN
theorem rright_l1_p (hw : ws.length ≤ 1000000) (ht : ts.length ≤ 1000000) {P : List Int → Bool} {all : List (List Int)} (ha : all.length ≤ 100000) (hl : ∀ l ∈ all, l.length ≤ 100 ∧ P l = decide ((wrongR ws ts br_ l).2.2 = 6)) : ∀ (n k : Nat), all.length < n + k → k ≤ all.length →
  rright_l1 N n k ws ts br_ ((all.take k).filter P) all = some (all.filter P)
 | 0, k, h, _ => by omega
 | n + 1, k, h, hk => by
  by_cases c : k < all.length
  ·obtain ⟨hx1, hx2⟩ := hl _ (getD_mem (d := []) c)
   have ih := rright_l1_p hw ht ha hl n (k + 1) (by omega) (by omega)
   rw [take_succ' c [], List.filter_append] at ih
   have hlen : ((all.take k).filter P).length ≤ 100000 := Nat.le_trans (List.length_filter_le _ _) (by simp; omega)
   rw [rright_l1, br_dec (by omega), rng_eq (by omega), get_get [] (by omega)]
   simp only [Int.toNat_natCast]
   have g : all[k]? = some (all.getD k []) := by simp [List.getD, c]
   generalize all.getD k [] = x at *
   have hj : ∀ O, rright_j1 N (rright_l1 N n) k ws ts br_ O all = rright_l1 N n ((k + 1 : Nat) : Int) ws ts br_ O all := fun O => by
    unfold rright_j1
    rw [chk_eq (by omega)]; rfl
   rw [rwrong_v (by omega) hw ht hx1]
   simp only [Option.bind_some, hj]
   rw [List.filter_cons] at ih
   by_cases e : (wrongR ws ts br_ x).2.2 = 6
   ·rw [decide_eq_true e] at hx2
    rw [br_dec e, rng_eq (by omega), get_eq g, lim_eq (by simp; omega)]
    rw [hx2] at ih
    exact ih
   ·rw [decide_eq_false e] at hx2
    rw [br_ndec e]
    rw [hx2] at ih
    simpa using ih
  ·rw [rright_l1, br_ndec (by omega), List.take_of_length_le (by omega)]
theorem rright_v (hF : checkT ws ts br_ = 0) (hm : ws.length ≤ 10) : rright_S N ws ts br_ = some (goodsT ws ts br_ 0) := by
 have hT := tfine_of hF
 have := hT.t
 unfold rright_S
 rw [readings_v (by omega) (by omega) N ws.length (by omega) hm]
 simp only [Option.bind_some]
 have hlen : (compsL ws.length).length ≤ 1024 := Nat.le_trans (compsL_len (by omega)) (Nat.le_trans (Nat.pow_le_pow_right (by omega) hm) (by decide))
 have e := rright_l1_p (ws := ws) (ts := ts) (br_ := br_) hN (by omega) (by omega) (P := goodB (rightR ws ts br_) ws.length 0) (all := compsL ws.length) (by omega) (fun l hl => by
  obtain ⟨a1, a2, a3⟩ := compsL_mem ws.length (by omega) l hl
  refine ⟨by omega, ?_⟩
  rw [Bool.eq_iff_iff, decide_eq_true_eq]
  exact (wrongR_iff hF a1 a2).symm) N 0 (by omega) (by omega)
 simp only [Int.natCast_zero, List.take_zero, List.filter_nil] at e
 rw [e, goodsL_comps (by omega)]; rfl
end
section
variable {N : Nat} {l : List (List Int)} (hl : l.length ≤ 100000) (h1 : ∀ x ∈ l, 1 ≤ x.length)
include hl h1
theorem rfewest_l1_p : ∀ (n k : Nat) (b : Int), l.length < n + k → k ≤ l.length → (k = 0 ∧ b = 0 ∨ 0 < k ∧ (∃ x ∈ l, (x.length : Int) = b) ∧ ∀ x ∈ l.take k, b ≤ x.length) →
  ∃ z, rfewest_l1 N n l b k = some z ∧ (l = [] ∧ z = 0 ∨ (∃ x ∈ l, (x.length : Int) = z) ∧ ∀ x ∈ l, z ≤ x.length)
 | 0, k, b, h, _, _ => by omega
 | n + 1, k, b, h, hk, hb => by
  by_cases c : k < l.length
  ·have hm := getD_mem (d := []) c
   have hx := h1 _ hm
   have tk := take_succ' c []
   have g := gets c ([] : List Int)
   have ih := rfewest_l1_p n (k + 1)
   rw [tk] at ih
   rw [rfewest_l1, br_dec (by omega)]
   generalize l.getD k [] = x at *
   have hj : ∀ b, rfewest_j1 N (rfewest_l1 N n) l b k = rfewest_l1 N n l b ((k + 1 : Nat) : Int) := fun b => by
    unfold rfewest_j1
    rw [chk_eq (by omega)]; rfl
   simp only [hj]
   rcases hb with ⟨rfl, rfl⟩ | ⟨h0, ⟨y, hy, rfl⟩, hb⟩
   ·rw [br_dec rfl, idx_eq (by omega) g]
    exact ih x.length (by omega) (by omega) (.inr ⟨by omega, ⟨x, hm, rfl⟩, fun z hz => by simp at hz; subst hz; omega⟩)
   ·have := h1 y hy
    rw [br_ndec (by omega), idx_eq (by omega) g]
    by_cases e : (x.length : Int) < y.length
    ·rw [br_dec e, idx_eq (by omega) g]
     refine ih x.length (by omega) (by omega) (.inr ⟨by omega, ⟨x, hm, rfl⟩, fun z hz => ?_⟩)
     rcases List.mem_append.1 hz with hz | hz
     ·have := hb z hz; omega
     ·simp at hz; subst hz; omega
    ·rw [br_ndec e]
     refine ih y.length (by omega) (by omega) (.inr ⟨by omega, ⟨y, hy, rfl⟩, fun z hz => ?_⟩)
     rcases List.mem_append.1 hz with hz | hz
     ·exact hb z hz
     ·simp at hz; subst hz; omega
  ·rw [rfewest_l1, br_ndec (by omega)]
   refine ⟨b, rfl, ?_⟩
   rcases hb with ⟨rfl, rfl⟩ | ⟨h0, hb1, hb2⟩
   ·exact .inl ⟨List.length_eq_zero_iff.1 (by omega), rfl⟩
   ·rw [List.take_of_length_le (by omega)] at hb2
    exact .inr ⟨hb1, hb2⟩
theorem rfewest_v (hN : l.length < N) : (l = [] ∧ rfewest_S N l = some (0, 6)) ∨ ∃ z, rfewest_S N l = some (z, 0) ∧ (∃ x ∈ l, (x.length : Int) = z) ∧ ∀ x ∈ l, z ≤ x.length := by
 obtain ⟨z, e, hz⟩ := rfewest_l1_p (N := N) hl h1 N 0 0 (by omega) (by omega) (.inl ⟨rfl, rfl⟩)
 simp only [Int.natCast_zero] at e
 unfold rfewest_S
 rw [e]
 simp only [Option.bind_some]
 rcases hz with ⟨h, rfl⟩ | ⟨⟨x, hx, rfl⟩, h⟩
 ·exact .inl ⟨h, rfl⟩
 ·have := h1 x hx
  rw [br_ndec (by omega)]
  exact .inr ⟨_, rfl, ⟨x, hx, rfl⟩, h⟩
end
end Go.Proofs.YtfamlpbdhhikdaaGreat

namespace Go.Proofs.YtfamlpbdhhikdaaGreat
set_option linter.all false
open Go

section
variable {N : Nat} {l : List (List Int)} {ws : List Wd} {ts : List Tn} {br_ : Int} {O : List Int}
theorem rnever_l3_p {i : Nat} (hi : i < l.length) {x : List Int} (hx : l[i]? = some x) (hx1 : ∀ y ∈ x, 1 ≤ y ∧ y ≤ 12) (hxl : x.length ≤ 100) {p : Int} : ∀ (n k : Nat) (a : Int) (b : Bool), x.length < n + k → k ≤ x.length → 0 ≤ a ∧ a ≤ 12 * k →
  rnever_l3 N n l p b i a k ws ts br_ O = some (l, p, b || (psums a (x.drop k)).contains p, (i : Int), ws, ts, br_, O)
 | 0, k, a, b, h, _, _ => by omega
 | n + 1, k, a, b, h, hk, ha => by
  have gi : l[((i : Nat) : Int).toNat]? = some x := by simpa using hx
  by_cases c : k < x.length
  ·have hy := hx1 _ (getD_mem (d := 0) c)
   have gk := gets c 0
   rw [drop_cons c 0]
   generalize x.getD k 0 = y at *
   have ih := fun b => rnever_l3_p hi hx hx1 hxl (p := p) n (k + 1) (a + y) b (by omega) (by omega) (by omega)
   rw [show ((k + 1 : Nat) : Int) = (k : Int) + 1 by omega] at ih
   rw [rnever_l3, idx_eq (by omega) gi, br_dec (by omega), idx_eq (by omega) gi, idx_eq (by omega) gk, chk_eq (by omega), chk_eq (by omega), chk_eq (by omega), ih, ih, psums, List.contains_cons]
   cases b
   ·rw [br_false, Bool.false_or, show (p == a + y) = decide (a + y = p) by rw [Bool.eq_iff_iff]; simp; exact eq_comm]
   ·rw [br_true, Bool.true_or, Bool.true_or]
  ·rw [rnever_l3, idx_eq (by omega) gi, br_ndec (by omega), List.drop_of_length_le (by omega)]
   simp [psums]
theorem rnever_l2_p (hN : 110 ≤ N) (hl : l.length ≤ 100000) (hx : ∀ x ∈ l, (∀ y ∈ x, 1 ≤ y ∧ y ≤ 12) ∧ x.length ≤ 100) {p : Int} : ∀ (n k : Nat) (b : Bool), l.length < n + k → k ≤ l.length →
  rnever_l2 N n l p b k ws ts br_ O = some (l, p, b || (l.drop k).any (fun x => (psums 0 x).contains p), ws, ts, br_, O)
 | 0, k, b, h, _ => by omega
 | n + 1, k, b, h, hk => by
  by_cases c : k < l.length
  ·obtain ⟨h1, h2⟩ := hx _ (getD_mem (d := []) c)
   have g : l[k]? = some (l.getD k []) := by simp [List.getD, c]
   rw [drop_cons c []]
   generalize l.getD k [] = x at *
   have e3 := rnever_l3_p (N := N) (ws := ws) (ts := ts) (br_ := br_) (O := O) c g h1 h2 (p := p) N 0 0 b (by omega) (by omega) (by omega)
   simp only [Int.natCast_zero, List.drop_zero] at e3
   have ih := rnever_l2_p hN hl hx (p := p) n (k + 1) (b || (psums 0 x).contains p) (by omega) (by omega)
   rw [show ((k + 1 : Nat) : Int) = (k : Int) + 1 by omega] at ih
   rw [rnever_l2, br_dec (by omega), e3]
   simp only [Option.bind_some]
   rw [chk_eq (by omega), ih, List.any_cons, Bool.or_assoc]
  ·rw [rnever_l2, br_ndec (by omega), List.drop_of_length_le (by omega)]
   simp
end
section
variable {R : Nat → Nat → Bool} {m : Nat}
theorem any_brk (hm : m ≤ 12) {p : Nat} (h1 : 1 ≤ p) (hp : p ≤ m) : (goodsL R m 0).any (fun x => (psums 0 x).contains (p : Int)) = brkB R m p := by
 rw [Bool.eq_iff_iff, brkB, Bool.and_eq_true, metB_iff (by omega), finB_iff hp hm, List.any_eq_true]
 constructor
 ·rintro ⟨l, hl, hc⟩
  have hg := (mem_goodsL (by omega) hm).1 hl
  rw [List.contains_iff_mem] at hc
  obtain ⟨l1, l2, _, _, a, b⟩ := (mem_psums hg p).1 hc
  exact ⟨⟨l1, a⟩, ⟨l2, b⟩⟩
 ·rintro ⟨⟨l1, a⟩, ⟨l2, b⟩⟩
  have hg := good_app a b
  refine ⟨l1 ++ l2, (mem_goodsL (by omega) hm).2 hg, ?_⟩
  rw [List.contains_iff_mem]
  refine (mem_psums hg p).2 ⟨l1, l2, rfl, ?_, a, b⟩
  rintro rfl
  have := good_nil.1 a; omega
theorem brk_zero (hm : m ≤ 12) (h : goodsL R m 0 ≠ []) : brkB R m 0 = true := by
 rw [brkB, Bool.and_eq_true]
 refine ⟨(metB_iff (by omega)).2 ⟨[], by simp [goodB]⟩, ?_⟩
 unfold finB
 cases e : goodsL R m 0 with
 | nil => exact absurd e h
 | cons a l => rfl
end
section
variable {N : Nat} {ws : List Wd} {ts : List Tn} {br_ : Int} (hF : TFine ws ts br_) (hN : 1030 ≤ N) (hm : ws.length ≤ 10)
include hF hm hN
theorem goodsT_len : (goodsT ws ts br_ 0).length ≤ 1024 := by
 refine Nat.le_trans (goodsL_len hF.n ws.length 0 (by omega)) ?_
 exact Nat.le_trans (Nat.pow_le_pow_right (by omega) hm) (by decide)
theorem goodsT_mem {x : List Int} (hx : x ∈ goodsT ws ts br_ 0) : (∀ y ∈ x, 1 ≤ y ∧ y ≤ 12) ∧ x.length ≤ 12 ∧ 1 ≤ x.length ∧ x.sum = ws.length := by
 have hg := (mem_goodsL (by omega) hF.n).1 hx
 obtain ⟨h1, h2⟩ := good_read (by omega) hg
 have := sum_ge h1
 have := hF.n0
 refine ⟨h1, by omega, ?_, by simpa using h2⟩
 cases x with
 | nil => simp at h2; omega
 | cons a l => simp
theorem rnever_l1_p : ∀ (n k : Nat), ws.length < n + k → 1 ≤ k → k ≤ ws.length → (∀ x ∈ [0], goodsT ws ts br_ 0 ≠ []) → rnever_l1 N n (goodsT ws ts br_ 0) k ws ts br_ (nvK (rightR ws ts br_) ws.length k) = some (nvK (rightR ws ts br_) ws.length ws.length)
 | 0, k, h, _, _, _ => by omega
 | n + 1, k, h, h1, hk, h0 => by
  have hlen := goodsT_len hF hN hm
  by_cases c : k < ws.length
  ·have e2 := rnever_l2_p (N := N) (ws := ws) (ts := ts) (br_ := br_) (O := nvK (rightR ws ts br_) ws.length k) (l := goodsT ws ts br_ 0) (by omega) (by omega) (fun x hx => by
    obtain ⟨a, b, _⟩ := goodsT_mem hF hN hm hx
    exact ⟨a, by omega⟩) (p := (k : Int)) N 0 false (by omega) (by omega)
   simp only [Int.natCast_zero, List.drop_zero, Bool.false_or] at e2
   rw [any_brk hF.n h1 hk] at e2
   have ih := rnever_l1_p n (k + 1) (by omega) (by omega) (by omega) h0
   rw [nvK_succ] at ih
   have hl := nvK_len (rightR ws ts br_) ws.length k
   have hj : ∀ O, rnever_j1 N (rnever_l1 N n) (goodsT ws ts br_ 0) k ws ts br_ O = rnever_l1 N n (goodsT ws ts br_ 0) ((k + 1 : Nat) : Int) ws ts br_ O := fun O => by
    unfold rnever_j1
    rw [chk_eq (by omega)]; rfl
   rw [rnever_l1, br_dec (by omega), e2]
   simp only [Option.bind_some, hj]
   cases hb : brkB (rightR ws ts br_) ws.length k
   ·rw [Bool.not_false, br_true, lim_eq (by simp; omega)]
    rw [hb] at ih
    exact ih
   ·rw [Bool.not_true, br_false]
    rw [hb] at ih
    simpa using ih
  ·rw [rnever_l1, br_ndec (by omega)]
   obtain rfl : k = ws.length := by omega
   rfl
theorem rnever_v (h0 : goodsT ws ts br_ 0 ≠ []) : rnever_S N ws ts br_ (goodsT ws ts br_ 0) = some (nvK (rightR ws ts br_) ws.length ws.length) := by
 have := hF.n0
 have e := rnever_l1_p hF hN hm N 1 (by omega) (by omega) (by omega) (fun _ _ => h0)
 rw [nvK_succ, brk_zero hF.n h0] at e
 have e2 : nvK (rightR ws ts br_) ws.length 0 = [] := rfl
 rw [e2] at e
 simp only [Int.natCast_one, if_true, List.append_nil] at e
 unfold rnever_S
 rw [e]; rfl
end
theorem fewest_v {N : Nat} (hN : 110 ≤ N) {ws : List Wd} {ts : List Tn} {br_ : Int} (hw : ws.length ≤ 1000000) (ht : ts.length ≤ 1000000) :
  (checkT ws ts br_ ≠ 0 ∧ fewest_S N ws ts br_ = some ([], checkT ws ts br_)) ∨ (checkT ws ts br_ = 0 ∧
   ((∃ l, fewest_S N ws ts br_ = some (l, 0) ∧ goodB (rightR ws ts br_) ws.length 0 l = true ∧ IsMin (rightR ws ts br_) ws.length 0 l.length) ∨
   (fewest_S N ws ts br_ = some ([], 6) ∧ ∀ l, goodB (rightR ws ts br_) ws.length 0 l = false))) := by
 unfold fewest_S
 rw [opened_v (by omega) hw ht]
 by_cases c : checkT ws ts br_ = 0
 ·refine .inr ⟨c, ?_⟩
  have hF := tfine_of c
  have := hF.t
  rw [if_pos c]
  simp only [Option.bind_some]
  rw [br_nd trivial]
  rcases fewestr_v (N := N) hN (d := (ws, ts, br_)) (r := (ws, ts, br_)) (R := rightR ws ts br_) (m := ws.length) rfl ⟨hF.n0, hF.n⟩ (fun a b h1 h2 => right_v hN hF.okW (by omega) (by omega) h2) with ⟨l, e, h1, h2⟩ | ⟨e, h1⟩
  ·rw [e]; exact .inl ⟨l, rfl, h1, h2⟩
  ·rw [e]; exact .inr ⟨rfl, h1⟩
 ·refine .inl ⟨c, ?_⟩
  rw [if_neg c]
  simp only [Option.bind_some]
  rw [br_nnd c]
theorem tfewest_true {ws : List Wd} {ts : List Tn} {br_ : Int} (h0 : Ty.inB TextT (ws, ts, br_)) : tfewest_S 1100 ws ts br_ = some true := by
 unfold tfewest_S
 have aw : ((awake_S 1100).bind fun x => some x) = some true := by rw [awake_v]; rfl
 rcases great_v (N := 1100) (ws := ws) (ts := ts) (br_ := br_) 10 with e | ⟨e, hw, ht, hg⟩ <;> rw [e] <;> simp only [Option.bind_some]
 ·rw [br_true]; exact aw
 rw [br_false, copyx_v (by omega) (by omega)]
 simp only [Option.bind_some]
 rw [theirs_v (by omega) (by omega) (by omega) (by omega)]
 simp only [Option.bind_some]
 have sm : same_S 1100 ws ts br_ ws ts br_ = some true := same_v (by omega) (by omega) (by omega) (by omega)
 rw [count_v (by omega) (by omega) (by omega), never_v (by omega) (by omega) (by omega), rcheck_v (by omega) (by omega) (by omega)]
 unfold countR neverR
 rcases fewest_v (N := 1100) (by omega) (ws := ws) (ts := ts) (br_ := br_) (by omega) (by omega) with ⟨c, ef⟩ | ⟨c, hf⟩
 ·rw [ef]
  simp only [Option.bind_some]
  rw [if_pos c, if_pos c]
  dsimp only
  rw [br_nnd c, br_dec (by first | trivial | rfl), br_dec (by first | trivial | rfl), br_dec (by first | trivial | rfl)]
  simp only [List.length_nil, Int.natCast_zero, Int.add_zero]
  rw [chk_eq (by omega), chk_eq (by omega), br_dec trivial]
  exact aw
 ·have hF := tfine_of c
  have hm : ws.length ≤ 10 := by have := hF.n; omega
  have hlen := goodsT_len (N := 1100) hF (by omega) hm
  have hmem := @goodsT_mem 1100 ws ts br_ hF (by omega) hm
  rw [if_neg (by simpa using c), if_neg (by simpa using c)]
  rcases rfewest_v (N := 1100) (l := goodsT ws ts br_ 0) (by omega) (fun x hx => (hmem hx).2.2.1) (by omega) with ⟨g0, er⟩ | ⟨z, er, ⟨x, hx, rfl⟩, hz⟩
  ·rcases hf with ⟨l, ef, hl, _⟩ | ⟨ef, hno⟩
   ·have := (mem_goodsL (R := rightR ws ts br_) (by omega) hF.n).2 hl
    rw [show goodsL (rightR ws ts br_) ws.length 0 = [] from g0] at this; cases this
   ·rw [ef]
    simp only [Option.bind_some]
    rw [br_nd c, rright_v (by omega) c hm]
    simp only [Option.bind_some]
    rw [er, if_pos g0]
    simp only [Option.bind_some]
    rw [br_nd trivial, br_nd trivial, br_nd trivial, br_nd trivial, br_nd (by rfl), br_nnd (by omega), br_dec (by rfl), sm]
    simp only [Option.bind_some]
    rw [br_true]; exact aw
  ·rcases hf with ⟨l, ef, hl, hmin⟩ | ⟨ef, hno⟩
   rotate_left
   ·have := (mem_goodsL (R := rightR ws ts br_) (by omega) hF.n).1 hx
    rw [hno x] at this; cases this
   ·have hne : goodsT ws ts br_ 0 ≠ [] := fun e => by rw [e] at hx; cases hx
    have hlx : (l.length : Int) = x.length := by
     have := hmin.le x ((mem_goodsL (R := rightR ws ts br_) (by omega) hF.n).1 hx)
     have := hz l ((mem_goodsL (R := rightR ws ts br_) (by omega) hF.n).2 hl)
     omega
    obtain ⟨r1, r2⟩ := good_read (by omega) hl
    have := sum_ge r1
    have hwr := (wrongR_iff c r1 (by simpa using r2)).2 hl
    rw [ef]
    simp only [Option.bind_some]
    rw [br_nd c, rright_v (by omega) c hm]
    simp only [Option.bind_some]
    rw [er, if_neg hne]
    simp only [Option.bind_some]
    rw [br_nd trivial, br_nd trivial, br_nd trivial, br_nd trivial, br_nd hlx, br_nd trivial, rwrong_v (by omega) (by omega) (by omega) (by omega)]
    simp only [Option.bind_some]
    rw [br_dec hwr, rnever_v hF (by omega) hm hne]
    simp only [Option.bind_some]
    have := nvK_len (rightR ws ts br_) ws.length ws.length
    rw [likei_v (by omega) (by omega)]
    simp only [Option.bind_some]
    rw [br_true, sm]
    simp only [Option.bind_some]
    rw [br_true]; exact aw
end Go.Proofs.YtfamlpbdhhikdaaGreat

namespace Go.Proofs.YtfamlpbdhhikdaaGreat
set_option linter.all false
open Go

theorem likei_gen {N : Nat} {a b : List Int} (h : a.length ≤ 1000) (hN : a.length < N) : likei_S N a b = some (decide (a = b)) := by
 have e : ∀ (n k : Nat), a.length = b.length → a.length < n + k → k ≤ a.length → equali_l1 N n a b a.length k = some (if a.drop k = b.drop k then .inr () else .inl ()) := by
  intro n
  induction n with
  | zero => intro k _ h _; omega
  | succ n ih =>
   intro k hab h2 hk
   unfold equali_l1
   by_cases c : k < a.length
   ·have := ih (k + 1) hab (by omega) (by omega)
    rw [show ((k + 1 : Nat) : Int) = (k : Int) + 1 by omega] at this
    have c2 : k < b.length := by omega
    rw [br_dec (by omega), idx_eq (by omega) (gets c 0), idx_eq (by omega) (gets c2 0), chk_eq (by omega), this, drop_cons c 0, drop_cons c2 0]
    by_cases d : a.getD k 0 = b.getD k 0
    ·rw [br_nd d, d]; simp
    ·rw [br_nnd d, if_neg]
     simp only [List.cons.injEq, not_and]
     exact fun e => absurd e d
   ·rw [br_ndec (by omega), List.drop_of_length_le (by omega), List.drop_of_length_le (by omega)]; rfl
 unfold likei_S equali_S
 by_cases c : a.length = b.length
 ·have e0 := e N 0 c (by omega) (by omega)
  simp only [Int.natCast_zero, List.drop_zero] at e0
  rw [br_nd (by omega), e0]
  by_cases d : a = b
  ·rw [if_pos d]; simp [d]
  ·rw [if_neg d]; simp [d]
 ·rw [br_nnd (by omega)]
  have : ¬ a = b := fun e => c (by rw [e])
  simp [this]
def longF (ws : List Wd) : List Int → Nat → Int
 | [], _ => 0
 | x :: l, p => max (sylR ws p (p + x.toNat)) (longF ws l (p + x.toNat))
def evR (ws : List Wd) (ts : List Tn) (br_ : Int) (k : Int) (a b : Nat) : Bool := decide (sylR ws a b ≤ k) && rightR ws ts br_ a b
def partP (s : Int) (x : Tn) : Bool := (decide (x.1 < s) && decide (s ≤ x.2.1)) || (decide (x.2.2 < s) && decide (s ≤ x.1))
def suR (ws : List Wd) (ts : List Tn) (br_ : Int) (a b : Nat) : Bool := rightR ws ts br_ a b && (decide (b = ws.length) || !(ts.any (partP b)))
section
variable {ws : List Wd} {ts : List Tn} {br_ : Int}
theorem good_even {k : Int} (hk : 0 ≤ k) : ∀ {l : List Int} {p : Nat}, goodB (evR ws ts br_ k) ws.length p l = true ↔ goodB (rightR ws ts br_) ws.length p l = true ∧ longF ws l p ≤ k
 | [], p => by simp [goodB, longF]; exact fun _ => hk
 | x :: l, p => by
  rw [good_cons, good_cons, good_even hk, longF]
  unfold evR
  simp only [Bool.and_eq_true, decide_eq_true_eq]
  constructor
  ·rintro ⟨h1, ⟨h2, h3⟩, h4, h5⟩
   exact ⟨⟨h1, h3, h4⟩, by omega⟩
  ·rintro ⟨⟨h1, h2, h3⟩, h4⟩
   exact ⟨h1, ⟨by omega, h2⟩, h3, by omega⟩
theorem right_syl {a b : Nat} (h : rightR ws ts br_ a b = true) : sylR ws a b ≤ br_ := by
 unfold rightR faultR at h
 by_cases c : br_ < sylR ws a b
 ·rw [if_pos c] at h; cases h
 ·omega
theorem long_le (hb : 0 ≤ br_) : ∀ {l : List Int} {p : Nat}, goodB (rightR ws ts br_) ws.length p l = true → longF ws l p ≤ br_
 | [], p, _ => hb
 | x :: l, p, h => by
  obtain ⟨_, h2, h3⟩ := good_cons.1 h
  have := right_syl h2
  have := long_le hb h3
  rw [longF]; omega
theorem long_pos (hF : TFine ws ts br_) {l : List Int} (h : goodB (rightR ws ts br_) ws.length 0 l = true) : 1 ≤ longF ws l 0 := by
 cases l with
 | nil => have := good_nil.1 h; have := hF.n0; omega
 | cons x l =>
  obtain ⟨⟨h1, h2⟩, _, _⟩ := good_cons.1 h
  have h3 := sylR_step (ws := ws) (a := 0) (b := 0 + x.toNat) (by omega) h2
  have h4 := (hF.w _ (getD_mem (d := (0, 0, false)) (show 0 < ws.length by have := hF.n0; omega))).1
  have h5 := sylR_bound hF.okW (0 + 1) (0 + x.toNat)
  rw [longF]; omega
variable {N : Nat} (hN : 110 ≤ N) (hF : TFine ws ts br_)
include hN hF
theorem even1_v {k : Int} (hk : 0 ≤ k ∧ k ≤ 1000) {a b : Nat} (hab : a < b) (hb : b ≤ ws.length) : even1_S N a b (ws, ts, br_) k (ws, ts, br_) = some (evR ws ts br_ (k + 1) a b) := by
 have := hF.t
 unfold even1_S evR
 rw [syllables_v hN hF.okW (by omega) (by omega) (by omega)]
 simp only [Option.bind_some, Int.toNat_natCast]
 rw [chk_eq (by omega)]
 by_cases c : sylR ws a b ≤ k + 1
 ·rw [br_dec c, right_v hN hF.okW (by omega) (by omega) hb]; simp [c]
 ·rw [br_ndec c]; simp [c]
theorem even_l1_p : ∀ (n k : Nat), br_ < n + k → (k : Int) ≤ br_ → (∀ l, goodB (rightR ws ts br_) ws.length 0 l = true → (k : Int) < longF ws l 0) →
  (∃ (q : Nat) (l : List Int), even_l1 N n (ws, ts, br_) (ws, ts, br_) br_ k = some (.inl ((q : Int), l)) ∧ (q : Int) < br_ ∧ goodB (rightR ws ts br_) ws.length 0 l = true ∧ longF ws l 0 = q + 1 ∧
   ∀ l', goodB (rightR ws ts br_) ws.length 0 l' = true → (q : Int) + 1 ≤ longF ws l' 0 ∧ (longF ws l' 0 = q + 1 → (l.length : Int) ≤ l'.length)) ∨
  (even_l1 N n (ws, ts, br_) (ws, ts, br_) br_ k = some (.inr ()) ∧ ∀ l, goodB (rightR ws ts br_) ws.length 0 l = false)
 | 0, k, h, hk, _ => by omega
 | n + 1, k, h, hk, hno => by
  have hb := hF.b1; have hb0 := hF.b0
  unfold even_l1
  by_cases c : (k : Int) < br_
  ·rw [br_dec c]
   rcases feweste_v (N := N) hN (d := (ws, ts, br_)) (r := ((ws, ts, br_), (k : Int), (ws, ts, br_))) (R := evR ws ts br_ ((k : Int) + 1)) (m := ws.length) rfl ⟨hF.n0, hF.n⟩ (fun a b h1 h2 => (show even1_S N a b (ws, ts, br_) (k : Int) (ws, ts, br_) = _ from even1_v hN hF (k := (k : Int)) (by omega) h1 h2)) with ⟨l, e, h1, h2⟩ | ⟨e, h1⟩
   ·dsimp only at e
    rw [e]
    obtain ⟨g1, g2⟩ := (good_even (by omega)).1 h1
    have g3 := hno l g1
    refine .inl ⟨k, l, rfl, c, g1, by omega, fun l' hl' => ?_⟩
    have g4 := hno l' hl'
    exact ⟨by omega, fun e2 => h2.le l' ((good_even (by omega)).2 ⟨hl', by omega⟩)⟩
   ·dsimp only at e
    rw [e]
    simp only [Option.bind_some]
    rw [br_false, chk_eq (by omega)]
    have ih := even_l1_p n (k + 1) (by omega) (by omega) (fun l hl => by
     have g := hno l hl
     have g2 : ¬ longF ws l 0 ≤ (k : Int) + 1 := fun g3 => by
      have := (good_even (by omega)).2 ⟨hl, g3⟩
      rw [h1 l] at this; cases this
     omega)
    rw [show ((k + 1 : Nat) : Int) = (k : Int) + 1 by omega] at ih
    exact ih
  ·rw [br_ndec c]
   refine .inr ⟨rfl, fun l => ?_⟩
   cases hg : goodB (rightR ws ts br_) ws.length 0 l
   ·rfl
   ·have := hno l hg; have := long_le (by omega) hg; omega
end
theorem even_v {N : Nat} (hN : 110 ≤ N) {ws : List Wd} {ts : List Tn} {br_ : Int} (hw : ws.length ≤ 1000000) (ht : ts.length ≤ 1000000) :
  (checkT ws ts br_ ≠ 0 ∧ even_S N ws ts br_ = some ([], 0, checkT ws ts br_)) ∨ (checkT ws ts br_ = 0 ∧
   ((∃ l k, even_S N ws ts br_ = some (l, k, 0) ∧ k ≤ br_ ∧ goodB (rightR ws ts br_) ws.length 0 l = true ∧ longF ws l 0 = k ∧
    ∀ l', goodB (rightR ws ts br_) ws.length 0 l' = true → k ≤ longF ws l' 0 ∧ (longF ws l' 0 = k → (l.length : Int) ≤ l'.length)) ∨
   (even_S N ws ts br_ = some ([], 0, 6) ∧ ∀ l, goodB (rightR ws ts br_) ws.length 0 l = false))) := by
 unfold even_S
 rw [opened_v (by omega) hw ht]
 by_cases c : checkT ws ts br_ = 0
 ·refine .inr ⟨c, ?_⟩
  have hF := tfine_of c
  have hb := hF.b1; have hb0 := hF.b0
  rw [if_pos c]
  simp only [Option.bind_some]
  rw [br_nd trivial]
  rcases even_l1_p hN hF N 0 (by omega) (by omega) (fun l hl => by have := long_pos hF hl; omega) with ⟨q, l, e, h1, h2, h3, h4⟩ | ⟨e, h1⟩
  ·simp only [Int.natCast_zero] at e
   rw [e]
   simp only [Option.bind_some]
   rw [chk_eq (by omega)]
   exact .inl ⟨l, (q : Int) + 1, rfl, by omega, h2, h3, h4⟩
  ·simp only [Int.natCast_zero] at e
   rw [e]; exact .inr ⟨rfl, h1⟩
 ·refine .inl ⟨c, ?_⟩
  rw [if_neg c]
  simp only [Option.bind_some]
  rw [br_nnd c]
theorem ixfpa_gen (N : Nat) (s : Int) : ∀ (n : Nat) (l : List Tn) (u u2 : Int), ixfpa_l1 N n l s u u2 = ixL (fun x => parted1_S N x.1 x.2.1 x.2.2 s) n l u u2
 | 0, _, _, _ => rfl
 | n + 1, l, u, u2 => by unfold ixfpa_l1 ixL; simp only [ixfpa_gen N s n]
theorem parted_v {N : Nat} {ws : List Wd} {ts : List Tn} {br_ : Int} (ht : ts.length ≤ 1000) (hN : ts.length < N) (s : Int) : parted_S N (ws, ts, br_) s = some (ts.any (partP s)) := by
 have h := ixS_any (f := fun x : Tn => parted1_S N x.1 x.2.1 x.2.2 s) (p := partP s) (s := ts) (N := N) (fun x _ => by
  unfold parted1_S partP
  by_cases h1 : x.1 < s <;> by_cases h2 : s ≤ x.2.1 <;> by_cases h3 : x.2.2 < s <;> by_cases h4 : s ≤ x.1 <;> simp [br, h1, h2, h3, h4]) (by omega) hN
 unfold parted_S cofpa_S ixfpa_S
 unfold ixS at h
 simp only [ixfpa_gen]
 rw [show ∀ (o : Option Bool), (o.bind fun x => some x) = o from fun o => by cases o <;> rfl]
 exact h
section
variable {ws : List Wd} {ts : List Tn} {br_ : Int} {N : Nat} (hN : 110 ≤ N) (hF : TFine ws ts br_)
include hN hF
theorem surest1_v {a b : Nat} (hab : a < b) (hb : b ≤ ws.length) : surest1_S N a b (ws, ts, br_) = some (suR ws ts br_ a b) := by
 have := hF.t; have := hF.n
 unfold surest1_S suR
 rw [right_v hN hF.okW (by omega) (by omega) hb]
 simp only [Option.bind_some, end__S]
 cases rightR ws ts br_ a b
 ·rfl
 ·rw [br_true]
  by_cases c : b = ws.length
  ·rw [br_dec (by omega)]; simp [c]
  ·rw [br_ndec (by omega), parted_v (by omega) (by omega)]
   simp [c]
end
theorem surest_v {N : Nat} (hN : 110 ≤ N) {ws : List Wd} {ts : List Tn} {br_ : Int} (hw : ws.length ≤ 1000000) (ht : ts.length ≤ 1000000) :
  (checkT ws ts br_ ≠ 0 ∧ surest_S N ws ts br_ = some ([], checkT ws ts br_)) ∨ (checkT ws ts br_ = 0 ∧
   ((∃ l, surest_S N ws ts br_ = some (l, 0) ∧ goodB (suR ws ts br_) ws.length 0 l = true ∧ IsMin (suR ws ts br_) ws.length 0 l.length) ∨
   (surest_S N ws ts br_ = some ([], 6) ∧ ∀ l, goodB (suR ws ts br_) ws.length 0 l = false))) := by
 unfold surest_S
 rw [opened_v (by omega) hw ht]
 by_cases c : checkT ws ts br_ = 0
 ·refine .inr ⟨c, ?_⟩
  have hF := tfine_of c
  rw [if_pos c]
  simp only [Option.bind_some]
  rw [br_nd trivial]
  rcases fewests_v (N := N) hN (d := (ws, ts, br_)) (r := (ws, ts, br_)) (R := suR ws ts br_) (m := ws.length) rfl ⟨hF.n0, hF.n⟩ (fun a b h1 h2 => surest1_v hN hF h1 h2) with ⟨l, e, h1, h2⟩ | ⟨e, h1⟩
  ·rw [e]; exact .inl ⟨l, rfl, h1, h2⟩
  ·rw [e]; exact .inr ⟨rfl, h1⟩
 ·refine .inl ⟨c, ?_⟩
  rw [if_neg c]
  simp only [Option.bind_some]
  rw [br_nnd c]
def runsOK (p : Int → Int → Bool) : Int → List Int → Prop
 | _, [] => True
 | f, x :: r => (∀ s ∈ psums f (x :: r), p f s = false) ∧ runsOK p (f + x) r
theorem inF_none {q : Int → Bool} : ∀ (r : List Int) (to b : Int), inF q r to b = none ↔ ∀ s ∈ psums to r, q s = false
 | [], to, b => by simp [inF, psums]
 | x :: r, to, b => by
  have ih := inF_none (q := q) r (to + x) (b + 1)
  simp only [inF, psums, List.mem_cons, forall_eq_or_imp]
  cases q (to + x)
  ·rw [if_neg (by simp), ih]; simp
  ·simp
theorem outF_none {p : Int → Int → Bool} : ∀ (r : List Int) (f a : Int), outF p r f a = none ↔ runsOK p f r
 | [], f, a => by simp [outF, runsOK]
 | x :: r, f, a => by
  have ih := outF_none (p := p) r (f + x) (a + 1)
  rw [outF, runsOK, ← inF_none (x :: r) f a, ← ih]
  cases inF (p f) (x :: r) f a <;> simp
theorem trnF_none {l : List Int} : ∀ (ts : List Tn) (k : Int), trnF l ts k = none ↔ ∀ x ∈ ts, runsOK (fun a b => turnP a b x) 0 l
 | [], k => by simp [trnF]
 | x :: r, k => by
  have ih := trnF_none (l := l) r (k + 1)
  rw [trnF]
  simp only [List.mem_cons, forall_eq_or_imp]
  rw [← ih, ← outF_none l 0 0]
  cases outF (fun a b => turnP a b x) l 0 0 <;> simp
theorem psums_last {R : Nat → Nat → Bool} {m : Nat} : ∀ {l : List Int} {a : Nat}, goodB R m a l = true → l ≠ [] → (m : Int) ∈ psums a l
 | [], a, _, hn => absurd rfl hn
 | x :: l, a, h, _ => by
  obtain ⟨⟨b1, b2⟩, b3, b4⟩ := good_cons.1 h
  have e : (a : Int) + x = ((a + x.toNat : Nat) : Int) := by omega
  rw [psums, e, List.mem_cons]
  by_cases c : l = []
  ·subst c; have := good_nil.1 b4; exact .inl (by omega)
  ·exact .inr (psums_last b4 c)
theorem psums_le {R : Nat → Nat → Bool} {m : Nat} : ∀ {l : List Int} {a : Nat}, goodB R m a l = true → ∀ s ∈ psums a l, (a : Int) < s ∧ s ≤ m
 | [], a, _, s, hs => by simp [psums] at hs
 | x :: l, a, h, s, hs => by
  obtain ⟨⟨b1, b2⟩, b3, b4⟩ := good_cons.1 h
  have e : (a : Int) + x = ((a + x.toNat : Nat) : Int) := by omega
  rw [psums, e, List.mem_cons] at hs
  rcases hs with rfl | hs
  ·omega
  ·have := psums_le b4 s hs; omega
theorem runs_end {R : Nat → Nat → Bool} {m : Nat} {p : Int → Int → Bool} : ∀ {l : List Int} {a : Nat}, goodB R m a l = true → runsOK p a l → ∀ s ∈ psums a l, s < m → p s m = false
 | [], a, _, _, s, hs, _ => by simp [psums] at hs
 | x :: l, a, h, hr, s, hs, hm => by
  obtain ⟨⟨b1, b2⟩, b3, b4⟩ := good_cons.1 h
  have e : (a : Int) + x = ((a + x.toNat : Nat) : Int) := by omega
  rw [runsOK, e] at hr
  rw [psums, e, List.mem_cons] at hs
  rcases hs with rfl | hs
  ·cases l with
   | nil => have := good_nil.1 b4; omega
   | cons y l =>
    rw [runsOK] at hr
    exact hr.2.1 _ (psums_last b4 (by simp))
  ·exact runs_end b4 hr.2 s hs hm
section
variable {ws : List Wd} {ts : List Tn} {br_ : Int}
theorem runs_ok {R : Nat → Nat → Bool} {x : Tn} (hx : (0 ≤ x.1 ∧ x.1 < ws.length) ∧ (0 ≤ x.2.1 ∧ x.2.1 < ws.length) ∧ (0 ≤ x.2.2 ∧ x.2.2 < ws.length) ∧ x.2.1 ≤ x.2.2 ∧ ¬ (x.2.1 ≤ x.1 ∧ x.1 ≤ x.2.2)) : ∀ {l : List Int} {a : Nat}, goodB R ws.length a l = true → (a = 0 ∨ partP a x = false) → (∀ s ∈ psums a l, s < ws.length → partP s x = false) → runsOK (fun a b => turnP a b x) a l
 | [], a, _, _, _ => trivial
 | y :: l, a, h, ha, hs => by
  obtain ⟨⟨b1, b2⟩, b3, b4⟩ := good_cons.1 h
  have e : (a : Int) + y = ((a + y.toNat : Nat) : Int) := by omega
  refine ⟨fun s h1 => ?_, ?_⟩
  ·have hb := psums_le h s h1
   have h2 := hs s h1
   show turnP a s x = false
   cases ht : turnP a s x
   ·rfl
   ·exfalso
    simp only [turnP, Bool.and_eq_true, decide_eq_true_eq, Bool.not_eq_true', decide_eq_false_iff_not] at ht
    obtain ⟨⟨t1, t2⟩, t3⟩ := ht
    by_cases c : x.1 < a
    ·rcases ha with rfl | ha
     ·omega
     ·simp [partP] at ha; omega
    ·have h3 := h2 (by omega)
     simp [partP] at h3; omega
  ·rw [e]
   by_cases c : a + y.toNat = ws.length
   ·cases l with
    | nil => trivial
    | cons z l => have := (good_cons.1 b4).1; omega
   ·refine runs_ok hx b4 (.inr ?_) (fun s h1 => hs s ?_)
    ·rw [← e]
     exact hs _ (by rw [psums]; simp) (by omega)
    ·rw [psums, e, List.mem_cons]; exact .inr h1
theorem good_sure : ∀ {l : List Int} {a : Nat}, goodB (suR ws ts br_) ws.length a l = true ↔ goodB (rightR ws ts br_) ws.length a l = true ∧ ∀ s ∈ psums a l, s < ws.length → ts.any (partP s) = false
 | [], a => by simp [goodB, psums]
 | x :: l, a => by
  rw [good_cons, good_cons, good_sure]
  constructor
  ·rintro ⟨h1, h2, h3, h4⟩
   have e : (a : Int) + x = ((a + x.toNat : Nat) : Int) := by omega
   simp only [suR, Bool.and_eq_true, Bool.or_eq_true, decide_eq_true_eq, Bool.not_eq_true'] at h2
   refine ⟨⟨h1, h2.1, h3⟩, fun s hs hl => ?_⟩
   rw [psums, e, List.mem_cons] at hs
   rcases hs with rfl | hs
   ·rcases h2.2 with h5 | h5
    ·omega
    ·exact h5
   ·exact h4 s hs hl
  ·rintro ⟨⟨h1, h2, h3⟩, h4⟩
   have e : (a : Int) + x = ((a + x.toNat : Nat) : Int) := by omega
   rw [psums, e] at h4
   refine ⟨h1, ?_, h3, fun s hs hl => h4 s (List.mem_cons_of_mem _ hs) hl⟩
   simp only [suR, Bool.and_eq_true, Bool.or_eq_true, decide_eq_true_eq, Bool.not_eq_true']
   refine ⟨h2, ?_⟩
   by_cases c : a + x.toNat = ws.length
   ·exact .inl c
   ·exact .inr (h4 _ (by simp) (by have := h1.2; omega))
theorem sure_iff (hF : TFine ws ts br_) {R : Nat → Nat → Bool} {l : List Int} (h : goodB R ws.length 0 l = true) : trnF l ts 0 = none ↔ ∀ s ∈ psums 0 l, s < ws.length → ts.any (partP s) = false := by
 rw [trnF_none]
 constructor
 ·intro hr s hs hl
  rw [List.any_eq_false]
  intro x hx
  have h1 := hF.x x hx
  have h2 := hr x hx
  rw [Bool.not_eq_true]
  have hb := psums_le h s hs
  have e1 := runs_end h h2 s hs hl
  cases l with
  | nil => simp [psums] at hs
  | cons y l =>
   have e2 := h2.1 s hs
   cases hp : partP s x
   ·rfl
   ·exfalso
    simp only [partP, Bool.or_eq_true, Bool.and_eq_true, decide_eq_true_eq] at hp
    simp only [turnP] at e1 e2
    simp at e1 e2
    omega
 ·intro hs x hx
  refine runs_ok (hF.x x hx) h (.inl rfl) (fun s h1 h2 => ?_)
  have := List.any_eq_false.1 (hs s h1 h2) x hx
  simpa using this
theorem sure_good (hF : TFine ws ts br_) {l : List Int} : goodB (suR ws ts br_) ws.length 0 l = true ↔ goodB (rightR ws ts br_) ws.length 0 l = true ∧ trnF l ts 0 = none := by
 rw [good_sure]
 constructor
 ·rintro ⟨h1, h2⟩; exact ⟨h1, (sure_iff hF h1).2 h2⟩
 ·rintro ⟨h1, h2⟩; exact ⟨h1, (sure_iff hF h1).1 h2⟩
end
end Go.Proofs.YtfamlpbdhhikdaaGreat

namespace Go.Proofs.YtfamlpbdhhikdaaGreat
set_option linter.all false
open Go

section
variable {N : Nat} {ws : List Wd} {ts : List Tn} {br_ : Int} (hN : 110 ≤ N) (hF : TFine ws ts br_)
include hN hF
theorem rlongest_l2_p {l : List Int} {i : Nat} {x : Nat} (hx : l[i]? = some (x : Int)) {most : Int} {a : Nat} (ha : a + x ≤ ws.length) : ∀ (n w : Nat) (s : Int), a + x < n + w → a ≤ w → w ≤ a + x → (0 ≤ s ∧ s ≤ 1000 * w) →
  rlongest_l2 N n l most a i s w ws ts br_ = some (l, most, (a : Int), (i : Int), s + sylR ws w (a + x), ws, ts, br_)
 | 0, w, s, h, _, _, _ => by omega
 | n + 1, w, s, h, h1, hw, hs => by
  have := hF.n
  have gi : l[((i : Nat) : Int).toNat]? = some (x : Int) := by simpa using hx
  by_cases c : w < a + x
  ·have g := gets (l := ws) (k := w) (by omega) (0, 0, false)
   have hy := (hF.w _ (getD_mem (d := (0, 0, false)) (show w < ws.length by omega))).1
   rw [sylR_step c ha]
   generalize ws.getD w (0, 0, false) = y at *
   have ih := rlongest_l2_p hx (most := most) ha n (w + 1) (s + y.1) (by omega) (by omega) (by omega) (by omega)
   rw [show ((w + 1 : Nat) : Int) = (w : Int) + 1 by omega] at ih
   rw [rlongest_l2, idx_eq (by omega) gi, chk_eq (by omega), br_dec (by omega), idx_eq (by omega) g, chk_eq (by omega), chk_eq (by omega), ih, Int.add_assoc]
  ·rw [rlongest_l2, idx_eq (by omega) gi, chk_eq (by omega), br_ndec (by omega), sylR_end (by omega)]; simp
theorem rlongest_l1_p {l : List Int} (hl : l.length ≤ 100) (h12 : ∀ x ∈ l, 1 ≤ x ∧ x ≤ 12) : ∀ (n k a : Nat) (most : Int), l.length < n + k → k ≤ l.length → (a : Int) + (l.drop k).sum ≤ ws.length →
  rlongest_l1 N n l most a k ws ts br_ = some (if k < l.length then max most (longF ws (l.drop k) a) else most)
 | 0, k, a, most, h, _, _ => by omega
 | n + 1, k, a, most, h, hk, hs => by
  have hn := hF.n
  by_cases c : k < l.length
  ·have hx := h12 _ (getD_mem (d := 0) c)
   have g := gets c 0
   have hd := drop_cons c 0
   rw [hd, List.sum_cons] at hs
   have hge := sum_ge (l := l.drop (k + 1)) (fun y hy => h12 y (List.mem_of_mem_drop hy))
   have g2 : l[k]? = some (l.getD k 0) := by simp [List.getD, c]
   rw [hd, if_pos c]
   generalize l.getD k 0 = x at *
   obtain ⟨y, rfl⟩ : ∃ y : Nat, x = y := ⟨x.toNat, (Int.toNat_of_nonneg (by omega)).symm⟩
   have e2 := rlongest_l2_p hN hF g2 (most := most) (a := a) (by omega) N a 0 (by omega) (by omega) (by omega) (by omega)
   have ih := rlongest_l1_p hl h12 n (k + 1) (a + y) (max most (0 + sylR ws a (a + y))) (by omega) (by omega) (by omega)
   rw [show ((k + 1 : Nat) : Int) = (k : Int) + 1 by omega, show ((a + y : Nat) : Int) = (a : Int) + y by omega] at ih
   rw [rlongest_l1, br_dec (by omega), e2]
   simp only [Option.bind_some]
   rw [idx_eq (by omega) g, chk_eq (by omega), chk_eq (by omega), ih, longF]
   simp only [Int.toNat_natCast, Int.zero_add]
   by_cases d : k + 1 < l.length
   ·rw [if_pos d]; congr 1; omega
   ·rw [if_neg d, List.drop_of_length_le (by omega)]
    have := sylR_bound hF.okW a (a + y)
    simp only [longF]; congr 1; omega
  ·rw [rlongest_l1, br_ndec (by omega), if_neg c]
theorem longF_pos : ∀ (l : List Int) (a : Nat), 0 ≤ longF ws l a
 | [], a => Int.le_refl 0
 | x :: l, a => by have := longF_pos l (a + x.toNat); rw [longF]; omega
theorem rlongest_v {l : List Int} (hl : l.length ≤ 100) (h12 : ∀ x ∈ l, 1 ≤ x ∧ x ≤ 12) (hs : l.sum = ws.length) : rlongest_S N ws ts br_ l = some (longF ws l 0) := by
 have e := rlongest_l1_p hN hF hl h12 N 0 0 0 (by omega) (by omega) (by simp; omega)
 simp only [Int.natCast_zero, List.drop_zero] at e
 unfold rlongest_S
 rw [e]
 have := longF_pos hN hF l 0
 cases l with
 | nil => rfl
 | cons a l => simp; omega
end
section
variable {N : Nat} {ws : List Wd} {ts : List Tn} {br_ : Int} (hF : TFine ws ts br_) (hN : 1030 ≤ N) (hm : ws.length ≤ 10)
include hF hm hN
theorem goodsT_iff {l : List Int} : l ∈ goodsT ws ts br_ 0 ↔ goodB (rightR ws ts br_) ws.length 0 l = true := mem_goodsL (by omega) hF.n
theorem reven_l1_p {L : List (List Int)} (hL : L.length ≤ 10000) (hg : ∀ x ∈ L, goodB (rightR ws ts br_) ws.length 0 x = true) : ∀ (n k : Nat) (a b : Int), L.length < n + k → k ≤ L.length →
  (k = 0 ∨ 0 < k ∧ (∃ x ∈ L, (x.length : Int) = a ∧ longF ws x 0 = b) ∧ ∀ x ∈ L.take k, b ≤ longF ws x 0 ∧ (longF ws x 0 = b → a ≤ x.length)) → (k = 0 → a = 0 ∧ b = 0) →
  ∃ u v, reven_l1 N n L a b k ws ts br_ = some (u, v) ∧ (L = [] ∧ u = 0 ∧ v = 0 ∨ (∃ x ∈ L, (x.length : Int) = u ∧ longF ws x 0 = v) ∧ ∀ x ∈ L, v ≤ longF ws x 0 ∧ (longF ws x 0 = v → u ≤ x.length))
 | 0, k, a, b, h, _, _, _ => by omega
 | n + 1, k, a, b, h, hk, hb, h0 => by
  by_cases c : k < L.length
  ·have hmm := getD_mem (d := []) c
   have g := gets c ([] : List Int)
   have tk := take_succ' c []
   have ih := reven_l1_p hL hg n (k + 1)
   rw [tk] at ih
   obtain ⟨r1, r2⟩ := good_read (by omega) (hg _ hmm)
   have := sum_ge r1
   rw [reven_l1, br_dec (by omega)]
   generalize L.getD k [] = x at *
   have hj : ∀ a b, reven_j1 N (reven_l1 N n) L a b k ws ts br_ = reven_l1 N n L a b ((k + 1 : Nat) : Int) ws ts br_ := fun a b => by
    unfold reven_j1
    rw [chk_eq (by omega)]; rfl
   rw [idx_eq (by omega) g, rlongest_v (by omega) hF (by omega) r1 (by simpa using r2)]
   simp only [Option.bind_some, hj]
   by_cases d : k = 0
   ·subst d
    rw [br_dec (by omega), idx_eq (by omega) g]
    refine ih _ _ (by omega) (by omega) (.inr ⟨by omega, ⟨x, hmm, rfl, rfl⟩, fun z hz => ?_⟩) (by omega)
    simp at hz; subst hz; omega
   ·rw [br_ndec (by omega)]
    rcases hb with hb | ⟨_, ⟨y, hy, hy1, hy2⟩, hb⟩
    ·omega
    by_cases e1 : longF ws x 0 < b
    ·rw [br_dec e1, idx_eq (by omega) g]
     refine ih _ _ (by omega) (by omega) (.inr ⟨by omega, ⟨x, hmm, rfl, rfl⟩, fun z hz => ?_⟩) (by omega)
     rcases List.mem_append.1 hz with hz | hz
     ·have := hb z hz; omega
     ·simp at hz; subst hz; omega
    ·rw [br_ndec e1]
     by_cases e2 : longF ws x 0 = b
     ·rw [br_dec e2, idx_eq (by omega) g]
      by_cases e3 : (x.length : Int) < a
      ·rw [br_dec e3, idx_eq (by omega) g]
       refine ih _ _ (by omega) (by omega) (.inr ⟨by omega, ⟨x, hmm, rfl, rfl⟩, fun z hz => ?_⟩) (by omega)
       rcases List.mem_append.1 hz with hz | hz
       ·have := hb z hz; omega
       ·simp at hz; subst hz; omega
      ·rw [br_ndec e3]
       refine ih _ _ (by omega) (by omega) (.inr ⟨by omega, ⟨y, hy, hy1, hy2⟩, fun z hz => ?_⟩) (by omega)
       rcases List.mem_append.1 hz with hz | hz
       ·exact hb z hz
       ·simp at hz; subst hz; omega
     ·rw [br_ndec e2]
      refine ih _ _ (by omega) (by omega) (.inr ⟨by omega, ⟨y, hy, hy1, hy2⟩, fun z hz => ?_⟩) (by omega)
      rcases List.mem_append.1 hz with hz | hz
      ·exact hb z hz
      ·simp at hz; subst hz; omega
  ·rw [reven_l1, br_ndec (by omega)]
   refine ⟨a, b, rfl, ?_⟩
   rcases hb with hb | ⟨_, hb1, hb2⟩
   ·exact .inl ⟨List.length_eq_zero_iff.1 (by omega), h0 hb⟩
   ·rw [List.take_of_length_le (by omega)] at hb2
    exact .inr ⟨hb1, hb2⟩
theorem reven_v : ∃ u v, reven_S N ws ts br_ (goodsT ws ts br_ 0) = some (u, v) ∧ (goodsT ws ts br_ 0 = [] ∧ u = 0 ∧ v = 0 ∨ (∃ x ∈ goodsT ws ts br_ 0, (x.length : Int) = u ∧ longF ws x 0 = v) ∧ ∀ x ∈ goodsT ws ts br_ 0, v ≤ longF ws x 0 ∧ (longF ws x 0 = v → u ≤ x.length)) := by
 have hlen := goodsT_len hF hN hm
 obtain ⟨u, v, e, h⟩ := reven_l1_p hF hN hm (L := goodsT ws ts br_ 0) (by omega) (fun x hx => (goodsT_iff hF hN hm).1 hx) N 0 0 0 (by omega) (by omega) (.inl rfl) (fun _ => ⟨rfl, rfl⟩)
 simp only [Int.natCast_zero] at e
 refine ⟨u, v, ?_, h⟩
 unfold reven_S
 rw [e]; rfl
def sureP (ts : List Tn) (l : List Int) : Bool := (trnF l ts 0).isNone
theorem rsure_l1_p {L : List (List Int)} (hL : L.length ≤ 10000) (hg : ∀ x ∈ L, goodB (rightR ws ts br_) ws.length 0 x = true) : ∀ (n k : Nat), L.length < n + k → k ≤ L.length → rsure_l1 N n L k ws ts br_ ((L.take k).filter (sureP ts)) = some (L.filter (sureP ts))
 | 0, k, h, _ => by omega
 | n + 1, k, h, hk => by
  have := hF.n
  by_cases c : k < L.length
  ·have g := gets c ([] : List Int)
   have ih := rsure_l1_p hL hg n (k + 1) (by omega) (by omega)
   rw [take_succ' c [], List.filter_append, List.filter_cons] at ih
   have hlen : ((L.take k).filter (sureP ts)).length ≤ 10000 := Nat.le_trans (List.length_filter_le _ _) (by simp; omega)
   obtain ⟨r1, r2⟩ := good_read (by omega) (hg _ (getD_mem (d := []) c))
   have := sum_ge r1
   rw [rsure_l1, br_dec (by omega)]
   generalize L.getD k [] = x at *
   have hj : ∀ O, rsure_j1 N (rsure_l1 N n) L k ws ts br_ O = rsure_l1 N n L ((k + 1 : Nat) : Int) ws ts br_ O := fun O => by
    unfold rsure_j1
    rw [chk_eq (by omega)]; rfl
   rw [idx_eq (by omega) g, rastray_v (by omega) hF (by omega) r1 (by simpa using r2)]
   simp only [Option.bind_some, hj]
   unfold sureP at ih ⊢
   cases hq : trnF x ts 0 with
   | none =>
    rw [hq] at ih
    dsimp only
    rw [Bool.not_false, br_true, idx_eq (by omega) g, lim_eq (by simp; unfold sureP at hlen; omega)]
    simpa using ih
   | some q =>
    rw [hq] at ih
    dsimp only
    rw [Bool.not_true, br_false]
    simpa using ih
  ·rw [rsure_l1, br_ndec (by omega), List.take_of_length_le (by omega)]
theorem rsure_v : rsure_S N ws ts br_ (goodsT ws ts br_ 0) = some ((goodsT ws ts br_ 0).filter (sureP ts)) := by
 have hlen := goodsT_len hF hN hm
 have e := rsure_l1_p hF hN hm (L := goodsT ws ts br_ 0) (by omega) (fun x hx => (goodsT_iff hF hN hm).1 hx) N 0 (by omega) (by omega)
 simp only [Int.natCast_zero, List.take_zero, List.filter_nil] at e
 unfold rsure_S
 rw [e]; rfl
theorem mem_sure {l : List Int} : l ∈ (goodsT ws ts br_ 0).filter (sureP ts) ↔ goodB (suR ws ts br_) ws.length 0 l = true := by
 rw [List.mem_filter, goodsT_iff hF hN hm, sure_good hF]
 unfold sureP
 rw [Option.isNone_iff_eq_none]
end
theorem ixfte_gen (N : Nat) (s : List Int) : ∀ (n : Nat) (l : List (List Int)) (u u2 : Int), ixfte_l1 N n l s u u2 = ixL (fun x => teven1_S N x s) n l u u2
 | 0, _, _, _ => rfl
 | n + 1, l, u, u2 => by unfold ixfte_l1 ixL; simp only [ixfte_gen N s n]
theorem cofte_v {N : Nat} {l : List (List Int)} {s : List Int} (hl : l.length ≤ 10000) (hN : l.length < N) (hx : ∀ x ∈ l, x.length ≤ 1000 ∧ x.length < N) : cofte_S N l s = some (l.any fun x => decide (x = s)) := by
 have h := ixS_any (f := fun x => teven1_S N x s) (p := fun x => decide (x = s)) (s := l) (N := N) (fun x hm => by
  unfold teven1_S
  obtain ⟨a, b⟩ := hx x hm
  rw [likei_gen a b]; rfl) (by omega) hN
 unfold cofte_S ixfte_S
 unfold ixS at h
 rw [ixfte_gen]
 exact h
theorem teven_true {ws : List Wd} {ts : List Tn} {br_ : Int} (h0 : Ty.inB TextT (ws, ts, br_)) : teven_S 1100 ws ts br_ = some true := by
 unfold teven_S
 have aw : ((awake_S 1100).bind fun x => some x) = some true := by rw [awake_v]; rfl
 rcases great_v (N := 1100) (ws := ws) (ts := ts) (br_ := br_) 9 with e | ⟨e, hw, ht, hg⟩ <;> rw [e] <;> simp only [Option.bind_some]
 ·rw [br_true]; exact aw
 rw [br_false, copyx_v (by omega) (by omega)]
 simp only [Option.bind_some]
 rw [theirs_v (by omega) (by omega) (by omega) (by omega)]
 simp only [Option.bind_some]
 have sm : same_S 1100 ws ts br_ ws ts br_ = some true := same_v (by omega) (by omega) (by omega) (by omega)
 rw [rcheck_v (by omega) (by omega) (by omega)]
 rcases even_v (N := 1100) (by omega) (ws := ws) (ts := ts) (br_ := br_) (by omega) (by omega) with ⟨c, ef⟩ | ⟨c, hf⟩
 ·rcases surest_v (N := 1100) (by omega) (ws := ws) (ts := ts) (br_ := br_) (by omega) (by omega) with ⟨_, es⟩ | ⟨c', _⟩
  rotate_left
  ·exact absurd c' c
  rw [ef, es]
  simp only [Option.bind_some]
  rw [br_nnd c, br_dec (by first | trivial | rfl), br_dec (by first | trivial | rfl)]
  simp only [List.length_nil, Int.natCast_zero, Int.add_zero]
  rw [chk_eq (by omega), br_dec (by first | trivial | rfl)]
  exact aw
 ·rcases surest_v (N := 1100) (by omega) (ws := ws) (ts := ts) (br_ := br_) (by omega) (by omega) with ⟨c', _⟩ | ⟨_, hs⟩
  ·exact absurd c c'
  have hF := tfine_of c
  have hb := hF.b1
  have hm : ws.length ≤ 10 := by have := hF.n; omega
  have hlen := goodsT_len (N := 1100) hF (by omega) hm
  have hmem := @goodsT_mem 1100 ws ts br_ hF (by omega) hm
  have hiff := @goodsT_iff 1100 ws ts br_ hF (by omega) hm
  have hsu := @mem_sure 1100 ws ts br_ hF (by omega) hm
  have hlen2 : ((goodsT ws ts br_ 0).filter (sureP ts)).length ≤ 1024 := Nat.le_trans (List.length_filter_le _ _) hlen
  obtain ⟨u, v, ev, huv⟩ := reven_v (N := 1100) hF (by omega) hm
  have tail : ∀ {e : Int} {s : List Int}, ((e = 0 ∧ s ∈ (goodsT ws ts br_ 0).filter (sureP ts)) ∨ e ≠ 0) → teven_j1 1100 e ((goodsT ws ts br_ 0).filter (sureP ts)) ws ts br_ ws ts br_ s = some true := fun {e s} h => by
   unfold teven_j1
   rcases h with ⟨he, hs⟩ | he
   ·rw [br_dec he, cofte_v (by omega) (by omega) (fun x hx => by have := hmem (List.mem_filter.1 hx).1; omega)]
    simp only [Option.bind_some]
    rw [List.any_eq_true.2 ⟨s, hs, by simp⟩, Bool.not_true, br_false, sm]
    simp only [Option.bind_some]
    rw [br_true]; exact aw
   ·rw [br_ndec he, sm]
    simp only [Option.bind_some]
    rw [br_true]; exact aw
  -- the sure one
  have hsur : ∃ s e z, surest_S 1100 ws ts br_ = some (s, e) ∧ rfewest_S 1100 ((goodsT ws ts br_ 0).filter (sureP ts)) = some (z, e) ∧ (s.length : Int) = z ∧ ((e = 0 ∧ s ∈ (goodsT ws ts br_ 0).filter (sureP ts)) ∨ e ≠ 0) := by
   rcases rfewest_v (N := 1100) (l := (goodsT ws ts br_ 0).filter (sureP ts)) (by omega) (fun x hx => (hmem (List.mem_filter.1 hx).1).2.2.1) (by omega) with ⟨g0, er⟩ | ⟨z, er, ⟨x, hx, rfl⟩, hz⟩
   ·rcases hs with ⟨l, es, hl, _⟩ | ⟨es, hno⟩
    ·have := hsu.2 hl
     rw [g0] at this; cases this
    ·exact ⟨[], 6, 0, es, er, rfl, .inr (by omega)⟩
   ·rcases hs with ⟨l, es, hl, hmin⟩ | ⟨es, hno⟩
    ·have h1 := hmin.le x (hsu.1 hx)
     have h2 := hz l (hsu.2 hl)
     exact ⟨l, 0, _, es, er, by omega, .inl ⟨rfl, hsu.2 hl⟩⟩
    ·have := hsu.1 hx
     rw [hno x] at this; cases this
  obtain ⟨s, es, z, e1, e2, e3, e4⟩ := hsur
  rw [e1]
  rcases rfewest_v (N := 1100) (l := goodsT ws ts br_ 0) (by omega) (fun x hx => (hmem hx).2.2.1) (by omega) with ⟨g0, er⟩ | ⟨y, er, ⟨x, hx, rfl⟩, hy⟩
  ·rcases hf with ⟨l, k, ef, _, hl, _⟩ | ⟨ef, hno⟩
   ·have := hiff.2 hl
    rw [g0] at this; cases this
   ·rw [ef]
    simp only [Option.bind_some]
    rw [br_nd c, rright_v (by omega) c hm]
    simp only [Option.bind_some]
    rw [rsure_v hF (by omega) hm]
    simp only [Option.bind_some]
    rw [er, ev, e2]
    simp only [Option.bind_some]
    rcases huv with ⟨_, rfl, rfl⟩ | ⟨⟨x, hx, _⟩, _⟩
    ·rw [br_nd (by first | trivial | rfl), br_nd (by first | trivial | rfl), br_nd (by first | trivial | rfl), br_nd (by first | trivial | rfl), br_nd e3, br_ndec (by omega)]
     exact tail e4
    ·rw [g0] at hx; cases hx
  ·rcases hf with ⟨l, k, ef, hk, hl, hl1, hl2⟩ | ⟨ef, hno⟩
   rotate_left
   ·have := hiff.1 hx
    rw [hno x] at this; cases this
   ·rcases huv with ⟨g0, _⟩ | ⟨⟨w, hw1, hw2, hw3⟩, hw4⟩
    ·rw [g0] at hx; cases hx
    have a1 := hl2 w (hiff.1 hw1)
    have a2 := hw4 l (hiff.2 hl)
    have hkv : k = v := by omega
    have hlu : (l.length : Int) = u := by
     have := a1.2 (by omega); have := a2.2 (by omega); omega
    obtain ⟨r1, r2⟩ := good_read (by omega) hl
    have := sum_ge r1
    have hwr := (wrongR_iff c r1 (by simpa using r2)).2 hl
    rw [ef]
    simp only [Option.bind_some]
    rw [br_nd c, rright_v (by omega) c hm]
    simp only [Option.bind_some]
    rw [rsure_v hF (by omega) hm]
    simp only [Option.bind_some]
    rw [er, ev, e2]
    simp only [Option.bind_some]
    rw [br_nd (by first | trivial | rfl), br_nd (by first | trivial | rfl), br_nd hkv, br_nd hlu, br_nd e3, br_dec (by first | trivial | rfl), rwrong_v (by omega) (by omega) (by omega) (by omega)]
    simp only [Option.bind_some]
    rw [br_nd hwr, rlongest_v (by omega) hF (by omega) r1 (by simpa using r2)]
    simp only [Option.bind_some]
    rw [br_nd (by omega)]
    exact tail e4
end Go.Proofs.YtfamlpbdhhikdaaGreat

namespace Go.Proofs.YtfamlpbdhhikdaaGreat
set_option linter.all false
open Go

theorem checkT_of {ws : List Wd} {ts : List Tn} {br_ : Int} (h : TFine ws ts br_) : checkT ws ts br_ = 0 := by
 have h1 := h.n0; have h2 := h.n; have h3 := h.t; have h4 := h.b0; have h5 := h.b1
 have e1 : ws.all okw = true := by
  rw [List.all_eq_true]
  intro w hw
  have := h.w w hw
  simp [okw]; omega
 have e2 : ts.all (ok2 ws.length) = true := by
  rw [List.all_eq_true]
  intro x hx
  have := h.x x hx
  simp only [ok2, inT, Bool.and_eq_true, decide_eq_true_eq]; omega
 have e3 : ts.all ok3 = true := by
  rw [List.all_eq_true]
  intro x hx
  have := h.x x hx
  simp only [ok3, decide_eq_true_eq]; omega
 have e4 : ts.all ok4 = true := by
  rw [List.all_eq_true]
  intro x hx
  have := h.x x hx
  simp only [ok4, Bool.not_eq_true', decide_eq_false_iff_not]; omega
 unfold checkT
 rw [if_neg (by omega), if_neg (by omega), if_neg (by omega), if_neg (by simp [e1]), if_neg (by simp [e2]), if_neg (by simp [e3]), if_neg (by simp [e4])]
section
variable {N : Nat} {b : List Int}
end
end Go.Proofs.YtfamlpbdhhikdaaGreat

namespace Go.Proofs.YtfamlpbdhhikdaaGreat
set_option linter.all false
open Go

section
variable {N : Nat} {ws : List Wd} {ts : List Tn} {br_ : Int}
variable (hN : 110 ≤ N) (hF : TFine ws ts br_)
include hN hF
omit hN hF
theorem sum_nonneg {l : List Int} (h : l.all (fun x => decide (1 ≤ x)) = true) : (l.length : Int) ≤ l.sum := by
 induction l with
 | nil => simp
 | cons a l ih =>
  simp only [List.all_cons, Bool.and_eq_true, decide_eq_true_eq] at h
  have := ih h.2
  rw [List.sum_cons, List.length_cons]; omega
include hN hF
end
end Go.Proofs.YtfamlpbdhhikdaaGreat

namespace Go.Proofs.YtfamlpbdhhikdaaGreat
set_option linter.all false
open Go

section
variable {N : Nat} {ws : List Wd} {ts : List Tn} {br_ : Int} (hN : 110 ≤ N) (hF : TFine ws ts br_)
include hN hF
end
end Go.Proofs.YtfamlpbdhhikdaaGreat

namespace Go.Proofs.YtfamlpbdhhikdaaGreat
set_option linter.all false
open Go

section
variable {N : Nat} {ws : List Wd} {ts : List Tn} {br_ : Int} (hN : 110 ≤ N) (ht : ts.length ≤ 100)
include hN ht
end
section
variable {ws : List Wd} {ts : List Tn} {br_ : Int}
end
section
variable {N : Nat} {ws : List Wd} {ts : List Tn} {br_ : Int} (hN : 110 ≤ N) (hF : TFine ws ts br_)
include hN hF
end
end Go.Proofs.YtfamlpbdhhikdaaGreat

namespace Go.Proofs.YtfamlpbdhhikdaaGreat
set_option linter.all false
open Go

section
variable {N : Nat} {ws : List Wd} {ts : List Tn} {br_ : Int} (hN : 110 ≤ N) (hF : TFine ws ts br_)
include hN hF
end
end Go.Proofs.YtfamlpbdhhikdaaGreat

namespace Go.Proofs.YtfamlpbdhhikdaaGreat
set_option linter.all false
open Go
structure Low (R : Nat → Nat → Bool) (m f : Nat) (A M : List Int) : Prop where
 len : M.length = 13
 le : ∀ q, M.getD q 0 ≤ A.getD q 0
 hold : ∀ p q, p < f → p < q → q ≤ m → R p q = true → M.getD q 0 ≤ M.getD p 0 + 1
 why : ∀ q, M.getD q 0 = A.getD q 0 ∨ ∃ p, p < f ∧ p < q ∧ q ≤ m ∧ R p q = true ∧ M.getD q 0 = M.getD p 0 + 1
structure Mk (A : List Int) : Prop where
 len : A.length = 13
 bd : ∀ q, 0 ≤ A.getD q 0 ∧ A.getD q 0 ≤ 99
section
variable {R : Nat → Nat → Bool} {m : Nat} {A M : List Int}
theorem Low.start (h : Mk A) : Low R m 0 A A := ⟨h.len, fun q => Int.le_refl _, fun p q h => by omega, fun q => .inl rfl⟩
theorem Low.bd (hA : Mk A) {f : Nat} (h : Low R m f A M) : ∀ q, 0 ≤ M.getD q 0 ∧ M.getD q 0 ≤ 99 := by
 intro q
 induction q using Nat.strongRecOn with
 | ind q ih =>
  have h1 := h.le q
  have h2 := hA.bd q
  rcases h.why q with e | ⟨p, _, hp, _, _, e⟩
  ·omega
  ·have := ih p hp; omega
theorem Low.next {f : Nat} {M' : List Int} (h : Low R m f A M) (hl : M'.length = 13) (hM : ∀ q, M'.getD q 0 = if (f < q ∧ q ≤ m ∧ R f q = true) then min (M.getD q 0) (M.getD f 0 + 1) else M.getD q 0) : Low R m (f + 1) A M' := by
 have hle : ∀ q, M'.getD q 0 ≤ M.getD q 0 := fun q => by
  rw [hM q]; split <;> omega
 have hsm : ∀ p, p ≤ f → M'.getD p 0 = M.getD p 0 := fun p hp => by rw [hM p, if_neg (by omega)]
 refine ⟨hl, fun q => Int.le_trans (hle q) (h.le q), fun p q h1 h2 h3 h4 => ?_, fun q => ?_⟩
 ·rw [hsm p (by omega)]
  by_cases e : p = f
  ·subst e
   rw [hM q, if_pos ⟨h2, h3, h4⟩]; omega
  ·have := h.hold p q (by omega) h2 h3 h4
   have := hle q; omega
 ·by_cases e : M'.getD q 0 = M.getD q 0
  ·rw [e]
   rcases h.why q with h1 | ⟨p, h1, h2, h3, h4, h5⟩
   ·exact .inl h1
   ·exact .inr ⟨p, by omega, h2, h3, h4, by rw [hsm p (by omega)]; exact h5⟩
  ·by_cases c : f < q ∧ q ≤ m ∧ R f q = true
   ·have h1 := hM q
    rw [if_pos c] at h1
    exact .inr ⟨f, by omega, c.1, c.2.1, c.2.2, by rw [hsm f (Nat.le_refl _)]; omega⟩
   ·exact absurd (by rw [hM q, if_neg c]) e
theorem Low.fix (h : Low R m m A M) (hA : Mk A) (hh : ∀ p q, p < q → q ≤ m → R p q = true → A.getD q 0 ≤ A.getD p 0 + 1) : M = A := by
 have key : ∀ q, M.getD q 0 = A.getD q 0 := by
  intro q
  induction q using Nat.strongRecOn with
  | ind q ih =>
   rcases h.why q with e | ⟨p, h1, h2, h3, h4, h5⟩
   ·exact e
   ·have := hh p q h2 h3 h4
    have := ih p h2
    have := h.le q; omega
 refine List.ext_getElem (by rw [h.len, hA.len]) fun i h1 h2 => ?_
 have := key i
 simpa [List.getD, h1, h2] using this
theorem Low.holds (h : Low R m m A A) : ∀ p q, p < q → q ≤ m → R p q = true → A.getD q 0 ≤ A.getD p 0 + 1 := fun p q h1 h2 h3 => h.hold p q (by omega) h1 h2 h3
theorem good_snoc {k : Nat} : ∀ {l : List Int} {a : Nat}, goodB R k a l = true → l ≠ [] → ∃ p l1, p < k ∧ goodB R p a l1 = true ∧ R p k = true ∧ l.length = l1.length + 1
 | [], a, h, hn => absurd rfl hn
 | x :: l, a, h, _ => by
  obtain ⟨⟨b1, b2⟩, b3, b4⟩ := good_cons.1 h
  by_cases e : l = []
  ·subst e
   have := good_nil.1 b4
   exact ⟨a, [], by omega, by simp [goodB], by rw [← this]; exact b3, rfl⟩
  ·obtain ⟨p, l1, c1, c2, c3, c4⟩ := good_snoc b4 e
   exact ⟨p, x :: l1, c1, good_cons.2 ⟨⟨b1, good_le c2⟩, b3, c2⟩, c3, by simp [c4]⟩
theorem good_len {k : Nat} : ∀ {l : List Int} {a : Nat}, goodB R k a l = true → l.length + a ≤ k
 | [], a, h => by have := good_nil.1 h; simp; omega
 | x :: l, a, h => by
  obtain ⟨⟨b1, b2⟩, _, b4⟩ := good_cons.1 h
  have := good_len b4
  rw [List.length_cons]; omega
theorem Low.dist (h : Low R m m A M) (hm : m ≤ 12) (h0 : A.getD 0 0 = 0) (h1 : ∀ q, 1 ≤ q → q ≤ m → A.getD q 0 = 99) : ∀ q, q ≤ m → (M.getD q 0 = 99 ∧ ∀ l, goodB R q 0 l = false) ∨ IsMin R q 0 (M.getD q 0) := by
 intro q
 induction q using Nat.strongRecOn with
 | ind q ih =>
  intro hq
  by_cases e : q = 0
  ·subst e
   have : M.getD 0 0 = 0 := by
    rcases h.why 0 with h2 | ⟨p, _, h2, _⟩
    ·rw [h2, h0]
    ·omega
   rw [this]
   exact .inr IsMin.end_
  ·have hA := h1 q (by omega) hq
   -- no way is shorter
   have low : ∀ l, goodB R q 0 l = true → M.getD q 0 ≤ l.length := fun l hl => by
    have hne : l ≠ [] := fun e2 => by subst e2; have := good_nil.1 hl; omega
    obtain ⟨p, l1, c1, c2, c3, c4⟩ := good_snoc hl hne
    have h2 := h.hold p q (by omega) c1 hq c3
    rcases ih p c1 (by omega) with ⟨_, d⟩ | d
    ·rw [d l1] at c2; cases c2
    ·have := d.le l1 c2; omega
   rcases h.why q with h2 | ⟨p, c1, c2, c3, c4, c5⟩
   ·refine .inl ⟨by omega, fun l => ?_⟩
    cases hg : goodB R q 0 l
    ·rfl
    ·have := low l hg; have := good_len hg; omega
   ·rcases ih p c2 (by omega) with ⟨d, _⟩ | d
    ·have := h.le q; omega
    ·obtain ⟨l1, d1, d2⟩ := d.ex
     refine .inr ⟨⟨l1 ++ [((q : Int) - p)], good_app d1 (good_step c2 (Nat.le_refl _) c4 (by simp [goodB])), by rw [List.length_append, List.length_singleton]; omega⟩, low⟩
end
section
variable {N : Nat} {ws : List Wd} {ts : List Tn} {br_ : Int} (hN : 110 ≤ N) (hF : TFine ws ts br_)
include hF
theorem lowered_l2_p {u u2 u3 : Int} {d u4 : Tx} {G : List Int} {f : Nat} (hf : f < ws.length) : ∀ (es : List Nat) (M : List Int), M.length = 13 → (0 ≤ M.getD f 0 ∧ M.getD f 0 ≤ 1000) → (∀ q ∈ es, f < q ∧ q ≤ ws.length) →
  ∃ M', lowered_l2 N (es.map fun (j : Nat) => ((j : Int), ())) d u u2 u3 u4 M G f = some (d, u, u2, M', G) ∧ M'.length = 13 ∧ ∀ q, M'.getD q 0 = if q ∈ es then min (M.getD q 0) (M.getD f 0 + 1) else M.getD q 0
 | [], M, hM, _, _ => ⟨M, rfl, hM, fun q => by simp⟩
 | e :: es, M, hM, hb, he => by
  have := hF.n
  obtain ⟨h1, h2⟩ := he e (by simp)
  have hMf : (M.set e (min (M.getD e 0) (M.getD f 0 + 1))).getD f 0 = M.getD f 0 := by rw [getD_set' (by omega), if_neg (by omega)]
  obtain ⟨M', e1, e2, e3⟩ := lowered_l2_p hf es (M.set e (min (M.getD e 0) (M.getD f 0 + 1))) (by simpa using hM) (by rw [hMf]; exact hb) (fun q hq => he q (by simp [hq]))
  refine ⟨M', ?_, e2, fun q => ?_⟩
  ·rw [List.map_cons, lowered_l2]
   unfold lowered_l2_b
   rw [rng_eq (by omega), get_get 0 (by omega), rng_eq (by omega), get_get 0 (by omega), chk_eq (by simp only [Int.toNat_natCast]; omega), rng_eq (by omega), get_get 0 (by omega)]
   exact e1
  ·rw [e3 q, hMf, getD_set' (by omega)]
   by_cases h : e = q
   ·subst h
    simp only [if_true, List.mem_cons, true_or]
    split <;> omega
   ·simp [h, show ¬ q = e from fun h2 => h h2.symm]
theorem lowered_l1_p {A G : List Int} (hA : Mk A) : ∀ (n f : Nat) (M : List Int), ws.length < n + f → f ≤ ws.length → Low (rightR ws ts br_) ws.length f A M →
  ∃ M', lowered_l1 N n (ws, ts, br_) ws.length f M G = some (M', G) ∧ Low (rightR ws ts br_) ws.length ws.length A M'
 | 0, f, M, h, _, _ => by omega
 | n + 1, f, M, h, hf, hL => by
  have hn := hF.n
  by_cases c : f < ws.length
  ·have hb := hL.bd hA f
   obtain ⟨M', e1, e2, e3⟩ := lowered_l2_p (N := N) hF (u := (ws.length : Int)) (u2 := (f : Int)) (u3 := (f : Int)) (d := (ws, ts, br_)) (u4 := (ws, ts, br_)) (G := G) c (endsL ws ts br_ f) M hL.len (by omega) (fun q hq => by
    obtain ⟨a1, a2, _⟩ := mem_toL.1 hq; omega)
   obtain ⟨M2, e4, hL2⟩ := lowered_l1_p hA n (f + 1) M' (by omega) (by omega) (hL.next e2 (fun q => by
    rw [e3 q]
    have : q ∈ endsL ws ts br_ f ↔ (f < q ∧ q ≤ ws.length ∧ rightR ws ts br_ f q = true) := mem_toL
    simp only [this]))
   refine ⟨M2, ?_, hL2⟩
   rw [lowered_l1, br_dec (by omega)]
   simp only [breaths_S, Option.bind_some]
   rw [breathsR_v hF (by omega)]
   simp only [Option.bind_some]
   rw [e1]
   simp only [Option.bind_some]
   rw [chk_eq (by omega)]
   exact e4
  ·obtain rfl : f = ws.length := by omega
   exact ⟨M, by rw [lowered_l1, br_ndec (by omega)], hL⟩
include hN
theorem lowered_v {A : List Int} (hA : Mk A) : ∃ M, lowered_S N (ws, ts, br_) A = some M ∧ Low (rightR ws ts br_) ws.length ws.length A M := by
 have := hF.n
 obtain ⟨M, e, h⟩ := lowered_l1_p (N := N) hF hA (G := List.replicate 13 0) N 0 A (by omega) (by omega) (Low.start hA)
 simp only [Int.natCast_zero] at e
 refine ⟨M, ?_, h⟩
 unfold lowered_S
 simp only [end__S, Option.bind_some]
 rw [e]; rfl
theorem marks_l1_p : ∀ (n k : Nat) (A : List Int), ws.length + 1 < n + k → 1 ≤ k → k ≤ ws.length + 1 → Mk A → A.getD 0 0 = 0 → (∀ q, 1 ≤ q → q < k → A.getD q 0 = 99) →
  ∃ A', marks_l1 N n (ws, ts, br_) k A = some ((ws, ts, br_), A') ∧ Mk A' ∧ A'.getD 0 0 = 0 ∧ ∀ q, 1 ≤ q → q ≤ ws.length → A'.getD q 0 = 99
 | 0, k, A, h, _, _, _, _, _ => by omega
 | n + 1, k, A, h, h1, hk, hA, h0, h9 => by
  have hn := hF.n; have hl := hA.len
  by_cases c : k ≤ ws.length
  ·obtain ⟨A', e, r⟩ := marks_l1_p n (k + 1) (A.set k 99) (by omega) (by omega) (by omega) ⟨by simpa using hl, fun q => by
    rw [getD_set' (by omega)]
    split
    ·omega
    ·exact hA.bd q⟩ (by rw [getD_set' (by omega), if_neg (by omega)]; exact h0) (fun q h2 h3 => by
    rw [getD_set' (by omega)]
    split
    ·rfl
    ·exact h9 q h2 (by omega))
   refine ⟨A', ?_, r⟩
   rw [marks_l1]
   simp only [end__S, Option.bind_some]
   rw [br_dec (by omega), rng_eq (by omega), get_get 0 (by omega), chk_eq (by omega)]
   exact e
  ·refine ⟨A, ?_, hA, h0, fun q h2 h3 => h9 q h2 (by omega)⟩
   rw [marks_l1]
   simp only [end__S, Option.bind_some]
   rw [br_ndec (by omega)]
theorem marks_in : ∃ M, marks_S N ws ts br_ = (if M.getD ws.length 0 = 99 then some ([], 6) else some (M.take (ws.length + 1), 0)) ∧ Mk M ∧ M.getD 0 0 = 0 ∧ lowered_S N (ws, ts, br_) M = some M ∧ Low (rightR ws ts br_) ws.length ws.length M M ∧
  ∀ q, q ≤ ws.length → (M.getD q 0 = 99 ∧ ∀ l, goodB (rightR ws ts br_) q 0 l = false) ∨ IsMin (rightR ws ts br_) q 0 (M.getD q 0) := by
 have hn := hF.n; have ht := hF.t; have hn0 := hF.n0
 have c0 := checkT_of hF
 obtain ⟨A, e1, hA, h0, h9⟩ := marks_l1_p hN hF N 1 (List.replicate 13 0) (by omega) (by omega) (by omega) ⟨by simp, fun q => by
  simp only [List.getD, List.getElem?_replicate]
  split <;> simp⟩ (by simp) (fun q h1 h2 => by omega)
 simp only [Int.natCast_one] at e1
 obtain ⟨M, e2, hL⟩ := lowered_v hN hF hA
 have hM : Mk M := ⟨hL.len, hL.bd hA⟩
 have hd := hL.dist hn h0 h9
 have hM0 : M.getD 0 0 = 0 := by
  rcases hL.why 0 with h2 | ⟨p, _, h2, _⟩
  ·rw [h2, h0]
  ·omega
 obtain ⟨M2, e3, hL2⟩ := lowered_v hN hF hM
 have hfix : M2 = M := hL2.fix hM (fun p q h1 h2 h3 => hL.hold p q (by omega) h1 h2 h3)
 subst hfix
 refine ⟨M2, ?_, hM, hM0, e3, hL2, hd⟩
 obtain ⟨K, rfl⟩ : ∃ K, N = K + 2 := ⟨N - 2, by omega⟩
 have e4 : marks_l2 (K + 2) (K + 2) (ws, ts, br_) A M2 = some ((ws, ts, br_), M2) := by
  rw [marks_l2]
  by_cases c : M2 = A
  ·rw [br_nd c, c]
  ·rw [br_nnd c, e3]
   simp only [Option.bind_some]
   rw [marks_l2, br_nd rfl]
 have hlen := hM.len
 unfold marks_S
 rw [opened_v (by omega) (by omega) (by omega), if_pos c0]
 simp only [Option.bind_some]
 rw [br_nd (by first | trivial | rfl), e1]
 simp only [Option.bind_some]
 rw [e2]
 simp only [Option.bind_some]
 rw [e4]
 simp only [end__S, Option.bind_some]
 rw [rng_eq (by omega), get_get 0 (by omega)]
 simp only [Int.toNat_natCast]
 by_cases c : M2.getD ws.length 0 = 99
 ·rw [br_dec c, if_pos c]
 ·rw [br_ndec c, if_neg c]
  rw [chk_eq (by omega), grd_eq (decide_eq_true (by omega)), show ((ws.length : Int) + 1).toNat = ws.length + 1 by omega]
  unfold clone_S
  have : (M2.take (ws.length + 1)).isEmpty = false := by
   cases hq : M2.take (ws.length + 1) with
   | nil => have := congrArg List.length hq; rw [List.length_take, List.length_nil] at this; omega
   | cons a l => rfl
  rw [this, grd_eq (c := !false) rfl, lim_eq (by simp; omega)]; rfl
theorem shows_l1_p {l : List Int} (hl : l.length ≤ 13) : ∀ (n k : Nat) (M : List Int), l.length < n + k → k ≤ l.length → M.length = 13 →
  ∃ M', shows_l1 N n (ws, ts, br_) l l.length k M = some ((ws, ts, br_), M') ∧ M'.length = 13 ∧ ∀ q, M'.getD q 0 = if k ≤ q ∧ q < l.length then l.getD q 0 else M.getD q 0
 | 0, k, M, h, _, _ => by omega
 | n + 1, k, M, h, hk, hM => by
  by_cases c : k < l.length
  ·obtain ⟨M', e, e2, e3⟩ := shows_l1_p hl n (k + 1) (M.set k (l.getD k 0)) (by omega) (by omega) (by simpa using hM)
   refine ⟨M', ?_, e2, fun q => ?_⟩
   ·rw [shows_l1, br_dec (by omega), idx_eq (by omega) (gets c 0), rng_eq (by omega), get_get 0 (by omega), chk_eq (by omega)]
    exact e
   ·rw [e3 q, getD_set' (by omega)]
    by_cases d : q = k
    ·subst d
     rw [if_neg (by omega), if_pos rfl, if_pos (by omega)]
    ·rw [if_neg (fun h2 : k = q => d h2.symm)]
     by_cases e4 : k + 1 ≤ q ∧ q < l.length
     ·rw [if_pos e4, if_pos (by omega)]
     ·rw [if_neg e4, if_neg (by omega)]
  ·refine ⟨M, ?_, hM, fun q => by rw [if_neg (by omega)]⟩
   rw [shows_l1, br_ndec (by omega)]
end
theorem ixfi3_gen (N : Nat) : ∀ (n : Nat) (s : List Int) (u u2 : Int), ixfi3_l1 N n s u u2 = ixL (every1i3_S N) n s u u2
 | 0, _, _, _ => rfl
 | n + 1, s, u, u2 => by unfold ixfi3_l1 ixL; simp only [ixfi3_gen N n]
def in99 (x : Int) : Bool := decide (0 ≤ x ∧ x ≤ 99)
theorem everyi3_v {N : Nat} {l : List Int} (h : l.length ≤ 1000000) (hN : l.length < N) : everyi3_S N l = some (l.all in99) := by
 unfold everyi3_S cofi3_S ixfi3_S
 rw [← every_gen (f := shows1_S N) (p := in99) (s := l) (N := N) (fun x _ => ?_) h hN]
 ·unfold ixS
  rw [ixfi3_gen]
  rfl
 ·unfold shows1_S in99
  rw [in_v]; rfl
end Go.Proofs.YtfamlpbdhhikdaaGreat

namespace Go.Proofs.YtfamlpbdhhikdaaGreat
set_option linter.all false
open Go
def holdB (R : Nat → Nat → Bool) (m : Nat) (l : List Int) : Bool := decide (l.getD 0 0 = 0) && (List.range m).all fun p => (toL (R p) m (p + 1)).all fun q => decide (l.getD q 0 ≤ l.getD p 0 + 1)
theorem holdB_iff {R : Nat → Nat → Bool} {m : Nat} {l : List Int} : holdB R m l = true ↔ l.getD 0 0 = 0 ∧ ∀ p q, p < q → q ≤ m → R p q = true → l.getD q 0 ≤ l.getD p 0 + 1 := by
 unfold holdB
 simp only [Bool.and_eq_true, decide_eq_true_eq, List.all_eq_true, List.mem_range, mem_toL]
 constructor
 ·rintro ⟨h1, h2⟩
  exact ⟨h1, fun p q a b c => h2 p (by omega) q ⟨by omega, b, c⟩⟩
 ·rintro ⟨h1, h2⟩
  exact ⟨h1, fun p hp q ⟨a, b, c⟩ => h2 p q (by omega) b c⟩
def showsR (ws : List Wd) (ts : List Tn) (br_ : Int) (l : List Int) : Int × Int :=
 if checkT ws ts br_ ≠ 0 then (0, checkT ws ts br_) else if (l.length : Int) ≠ (ws.length : Int) + 1 then (0, 2) else if l.all in99 = false then (0, 3) else if holdB (rightR ws ts br_) ws.length l = true then (l.getD ws.length 0, 0) else (0, 8)
theorem shows_v {N : Nat} (hN : 110 ≤ N) {ws : List Wd} {ts : List Tn} {br_ : Int} (hw : ws.length ≤ 1000000) (ht : ts.length ≤ 1000000) (l : List Int) : shows_S N ws ts br_ l = some (showsR ws ts br_ l) := by
 unfold shows_S showsR
 rw [opened_v (by omega) hw ht]
 by_cases c : checkT ws ts br_ = 0
 rotate_left
 ·rw [if_neg c, if_pos c]
  simp only [Option.bind_some]
  rw [br_nnd c]
 have hF := tfine_of c
 have hn := hF.n; have hn0 := hF.n0
 rw [if_pos c, if_neg (by simpa using c)]
 simp only [Option.bind_some]
 rw [br_nd (by first | trivial | rfl)]
 simp only [end__S, Option.bind_some]
 rw [chk_eq (by omega)]
 by_cases c2 : (l.length : Int) = (ws.length : Int) + 1
 rotate_left
 ·rw [br_nnd c2, if_pos c2]
 rw [br_nd c2, if_neg (by simpa using c2), everyi3_v (by omega) (by omega)]
 simp only [Option.bind_some]
 cases h99 : l.all in99
 ·rfl
 rw [Bool.not_true, br_false, if_neg (by simp)]
 obtain ⟨A, e1, hAl, hA⟩ := shows_l1_p (N := N) (br_ := br_) (ts := ts) hN hF (l := l) (by omega) N 0 (List.replicate 13 0) (by omega) (by omega) (by simp)
 simp only [Int.natCast_zero] at e1
 have rep : ∀ i, (List.replicate 13 (0 : Int)).getD i 0 = 0 := fun i => by
  simp only [List.getD, List.getElem?_replicate]
  split <;> rfl
 have hAq : ∀ q, q ≤ ws.length → A.getD q 0 = l.getD q 0 := fun q hq => by rw [hA q, if_pos (by omega)]
 have hMk : Mk A := ⟨hAl, fun q => by
  rw [hA q]
  split
  ·rename_i h
   have := List.all_eq_true.1 h99 _ (getD_mem (d := 0) h.2)
   simpa [in99] using this
  ·rw [rep]; omega⟩
 rw [e1]
 simp only [Option.bind_some]
 rw [get_get 0 (by omega), hAq 0 (by omega)]
 by_cases c3 : l.getD 0 0 = 0
 rotate_left
 ·rw [br_nnd c3, if_neg]
  intro h
  exact c3 (holdB_iff.1 h).1
 obtain ⟨M, e2, hL⟩ := lowered_v hN hF hMk
 rw [br_nd c3, e2]
 simp only [Option.bind_some]
 by_cases c4 : M = A
 ·subst c4
  have hh := hL.holds
  rw [br_nd rfl, if_pos, rng_eq (by omega), get_get 0 (by omega)]
  ·simp only [Int.toNat_natCast]
   rw [hAq _ (Nat.le_refl _)]
  ·refine holdB_iff.2 ⟨c3, fun p q a b r => ?_⟩
   have := hh p q a b r
   rwa [hAq q b, hAq p (by omega)] at this
 ·rw [br_nnd c4, if_neg]
  intro h
  refine c4 (hL.fix hMk fun p q a b r => ?_)
  rw [hAq q b, hAq p (by omega)]
  exact (holdB_iff.1 h).2 p q a b r
section
variable {N : Nat} {ws : List Wd} {ts : List Tn} {br_ : Int} (hN : 110 ≤ N) (hF : TFine ws ts br_)
include hN hF
end
end Go.Proofs.YtfamlpbdhhikdaaGreat

namespace Go.Proofs.YtfamlpbdhhikdaaGreat
set_option linter.all false
open Go
def keepP (l : List Int) (x : Tn) : Bool := !sayP l x
section
variable {N : Nat} {ws : List Wd} {ts : List Tn} {br_ : Int}
theorem keeps1_l1_p {l : List Int} (hl : l.length ≤ 1000) (hN : l.length < N) {x : Tn} (hx : -1000 ≤ x.2.1 ∧ x.2.2 ≤ 1000) : ∀ (n : Nat) (w : Int), (x.2.2 + 1 - w).toNat < n → x.2.1 ≤ w →
  keeps1_l1 N n l w x.1 x.2.1 x.2.2 = some (if (wordsL w (x.2.2 + 1)).all (fun w => l.contains w) then .inr (l, x.1, x.2.1, x.2.2) else .inl ())
 | 0, w, h, _ => by omega
 | n + 1, w, h, h1 => by
  unfold keeps1_l1
  by_cases c : w ≤ x.2.2
  ·have ih := keeps1_l1_p hl hN hx n (w + 1) (by omega) (by omega)
   have e : wordsL w (x.2.2 + 1) = w :: wordsL (w + 1) (x.2.2 + 1) := by
    unfold wordsL
    rw [show (x.2.2 + 1 - w).toNat = (x.2.2 + 1 - (w + 1)).toNat + 1 by omega, List.range_succ_eq_map, List.map_cons, List.map_map]
    congr 1
    ·simp
    ·refine List.map_congr_left fun i _ => ?_
     simp only [Function.comp]; omega
   rw [e, List.all_cons, br_dec c, containsi_v hl hN]
   simp only [Option.bind_some]
   cases l.contains w
   ·rfl
   ·rw [Bool.not_true, br_false, chk_eq (by omega), ih, Bool.true_and]
  ·rw [br_ndec c]
   have : wordsL w (x.2.2 + 1) = [] := by unfold wordsL; rw [show (x.2.2 + 1 - w).toNat = 0 by omega]; rfl
   rw [this]; rfl
theorem keeps1_v {l : List Int} (hl : l.length ≤ 1000) (hN : l.length < N) {x : Tn} (hx : -1000 ≤ x.2.1 ∧ x.2.2 ≤ 1000) (hN2 : (x.2.2 + 1 - x.2.1).toNat < N) : keeps1_S N x.1 x.2.1 x.2.2 l = some (keepP l x) := by
 unfold keeps1_S keepP sayP coreB
 rw [keeps1_l1_p hl hN hx N x.2.1 hN2 (by omega)]
 cases (wordsL x.2.1 (x.2.2 + 1)).all (fun w => l.contains w)
 ·rfl
 ·simp only [if_true, Option.bind_some]
  rw [containsi_v hl hN]
  simp
theorem ixft5_gen {l : List Int} {p : Tn → Bool} : ∀ (n : Nat) (s : List Tn) (u u2 : Int), (∀ x ∈ s, keeps1_S N x.1 x.2.1 x.2.2 l = some (p x)) → ixft5_l1 N n s u u2 l = (ixL (fun x => some (!p x)) n s u u2).map fun r => match r with | .inl i => .inl (i, l) | .inr _ => .inr l
 | 0, _, _, _, _ => rfl
 | n + 1, s, u, u2, h => by
  unfold ixft5_l1 ixL every1t5_S
  unfold br
  split
  ·unfold idx
   split
   ·cases hg : s[u2.toNat]? with
    | none => rfl
    | some a =>
     dsimp only
     rw [h a (List.mem_of_getElem? hg)]
     simp only [Option.bind_some, ixft5_gen n s u (u2 + 1) h]
     cases p a
     ·rfl
     ·simp only [Bool.not_true, Bool.false_eq_true, if_false]
      unfold chk
      split <;> rfl
   ·rfl
  ·rfl
theorem everyt5_v {l : List Int} {p : Tn → Bool} (h : ∀ x ∈ ts, keeps1_S N x.1 x.2.1 x.2.2 l = some (p x)) (ht : ts.length ≤ 1000000) (hN : ts.length < N) : everyt5_S N ts l = some (ts.all p) := by
 unfold everyt5_S coft5_S ixft5_S
 rw [← every_gen (f := fun x : Tn => some (p x)) (p := p) (s := ts) (N := N) (fun x _ => rfl) ht hN]
 unfold ixS
 rw [ixft5_gen _ _ _ _ h]
 simp only [Option.bind_some]
 cases ixL (fun x => some (!p x)) N ts ts.length 0 with
 | none => rfl
 | some r => cases r <;> rfl
variable (hN : 110 ≤ N) (hF : TFine ws ts br_)
include hN hF
theorem keeps_v {l : List Int} (hl : l.length ≤ 100) : keeps_S N (ws, ts, br_) l = some (ts.all (keepP l)) := by
 have hn := hF.n; have ht := hF.t
 unfold keeps_S
 dsimp only
 rw [everyt5_v (p := keepP l) (fun x hx => by
  have := hF.x x hx
  exact keeps1_v (by omega) (by omega) (by omega) (by omega)) (by omega) (by omega)]
 rfl
theorem said_keep {l : List Int} (hl : l.length ≤ 100) : ∃ s, said_S N ws ts br_ l = some s ∧ s.length ≤ 100 ∧ decide ((s.length : Int) = 0) = ts.all (keepP l) := by
 have ht := hF.t
 refine ⟨_, hF.said (by omega) (by omega) (by omega), ?_, ?_⟩
 ·have := selK_len (sayP l) ts ts.length; omega
 ·rw [Bool.eq_iff_iff, decide_eq_true_eq, List.all_eq_true]
  constructor
  ·intro h x hx
   obtain ⟨i, hi, rfl⟩ := List.getElem_of_mem hx
   unfold keepP
   cases hs : sayP l ts[i]
   ·rfl
   ·exfalso
    have : (i : Int) ∈ selK (sayP l) ts ts.length := by
     simp only [selK, List.mem_map, List.mem_filter, List.mem_range]
     exact ⟨i, ⟨hi, by simpa [List.getD, hi] using hs⟩, rfl⟩
    have := List.length_pos_of_mem this
    omega
  ·intro h
   have : selK (sayP l) ts ts.length = [] := by
    cases hq : selK (sayP l) ts ts.length with
    | nil => rfl
    | cons a r =>
     exfalso
     have hm : a ∈ selK (sayP l) ts ts.length := by rw [hq]; simp
     simp only [selK, List.mem_map, List.mem_filter, List.mem_range] at hm
     obtain ⟨i, ⟨hi, hp⟩, _⟩ := hm
     have := h _ (getD_mem (d := (0, 0, 0)) hi)
     unfold keepP at this
     rw [hp] at this; cases this
   rw [this]; rfl
omit hN hF
def wtR (ws : List Wd) (l : List Int) : Int := (l.map fun w => (ws.getD w.toNat (0, 0, false)).2.1).sum
def inW (ws : List Wd) (l : List Int) : Prop := ∀ w ∈ l, 0 ≤ w ∧ w < ws.length
include hF
theorem weight_l1_p {l : List Int} (hl : l.length ≤ 1000) (hw : inW ws l) : ∀ (n k : Nat) (O : List Int), l.length < n + k → k ≤ l.length → O.length = k →
  weight_l1 N n (ws, ts, br_) l l.length k O = some (O ++ (l.drop k).map fun w => (ws.getD w.toNat (0, 0, false)).2.1)
 | 0, k, O, h, _, _ => by omega
 | n + 1, k, O, h, hk, hO => by
  by_cases c : k < l.length
  ·have g := gets c 0
   have hx := hw _ (getD_mem (d := 0) c)
   rw [drop_cons c 0]
   generalize l.getD k 0 = x at *
   have g2 : ws[x.toNat]? = some (ws.getD x.toNat (0, 0, false)) := by
    simp [List.getD, show x.toNat < ws.length by omega]
   have ih := weight_l1_p hl hw n (k + 1) (O ++ [(ws.getD x.toNat (0, 0, false)).2.1]) (by omega) (by omega) (by simp [hO])
   rw [show ((k + 1 : Nat) : Int) = (k : Int) + 1 by omega] at ih
   rw [weight_l1, br_dec (by omega), idx_eq (by omega) g, idx_eq (l := ws) hx.1 g2, lim_eq (by simp; omega), chk_eq (by omega), ih]
   simp
  ·rw [weight_l1, br_ndec (by omega), List.drop_of_length_le (by omega)]; simp
theorem wt_mem {l : List Int} (hw : inW ws l) : ∀ x ∈ l.map fun w => (ws.getD w.toNat (0, 0, false)).2.1, 0 ≤ x ∧ x ≤ 20 := by
 intro x hx
 obtain ⟨w, hm, rfl⟩ := List.mem_map.1 hx
 have := hw w hm
 exact (hF.w _ (getD_mem (show w.toNat < ws.length by omega))).2
theorem weight_v {l : List Int} (hl : l.length ≤ 100) (hNl : 110 ≤ N) (hw : inW ws l) : weight_S N (ws, ts, br_) l = some (wtR ws l) := by
 have e := weight_l1_p (N := N) hF (l := l) (by omega) hw N 0 [] (by omega) (by omega) rfl
 simp only [Int.natCast_zero, List.drop_zero, List.nil_append] at e
 unfold weight_S
 rw [e]
 simp only [Option.bind_some]
 have hm := wt_mem hF hw
 rw [sum_v (m := 20) (by simp; omega) (by simp; omega) (by omega) (fun x hx => by have := hm x hx; omega)]
 rfl
theorem rweight_l1_p {l : List Int} (hl : l.length ≤ 1000) (hw : inW ws l) : ∀ (n k : Nat) (s : Int), l.length < n + k → k ≤ l.length → 0 ≤ s ∧ s ≤ 20 * k →
  rweight_l1 N n l s k ws ts br_ = some (s + ((l.drop k).map fun w => (ws.getD w.toNat (0, 0, false)).2.1).sum)
 | 0, k, s, h, _, _ => by omega
 | n + 1, k, s, h, hk, hs => by
  by_cases c : k < l.length
  ·have g := gets c 0
   have hx := hw _ (getD_mem (d := 0) c)
   rw [drop_cons c 0]
   generalize l.getD k 0 = x at *
   have hm := (hF.w _ (getD_mem (d := (0, 0, false)) (show x.toNat < ws.length by omega))).2
   have g2 : ws[x.toNat]? = some (ws.getD x.toNat (0, 0, false)) := by
    simp [List.getD, show x.toNat < ws.length by omega]
   have ih := rweight_l1_p hl hw n (k + 1) (s + (ws.getD x.toNat (0, 0, false)).2.1) (by omega) (by omega) (by omega)
   rw [show ((k + 1 : Nat) : Int) = (k : Int) + 1 by omega] at ih
   rw [rweight_l1, br_dec (by omega), idx_eq (by omega) g, idx_eq hx.1 g2, chk_eq (by omega), chk_eq (by omega), ih, List.map_cons, List.sum_cons, Int.add_assoc]
  ·rw [rweight_l1, br_ndec (by omega), List.drop_of_length_le (by omega)]; simp
theorem rweight_v {l : List Int} (hl : l.length ≤ 100) (hNl : 110 ≤ N) (hw : inW ws l) : rweight_S N ws ts br_ l = some (wtR ws l) := by
 have e := rweight_l1_p (N := N) hF (l := l) (by omega) hw N 0 0 (by omega) (by omega) (by omega)
 simp only [Int.natCast_zero, List.drop_zero, Int.zero_add] at e
 unfold rweight_S
 rw [e]; rfl
end
def ascB : List Int → Bool
 | a :: b :: r => decide (a < b) && ascB (b :: r)
 | _ => true
def keptE (ws : List Wd) (ts : List Tn) (br_ : Int) (l : List Int) : Int :=
 if checkT ws ts br_ ≠ 0 then checkT ws ts br_ else if (l.length : Int) = 0 then 2 else if l.all (inT ws.length) = false then 1 else if ascB l = false then 4 else 0
section
variable {N : Nat} {ws : List Wd} {ts : List Tn} {br_ : Int}
theorem ixfi2_gen (h : ws.length ≤ 1000000) : ∀ (n : Nat) (s : List Int) (u u2 : Int), ixfi2_l1 N n s u u2 ws ts br_ = (ixL (fun x => some (!inT ws.length x)) n s u u2).map fun r => match r with | .inl i => .inl (i, ws, ts, br_) | .inr _ => .inr (ws, ts, br_)
 | 0, _, _, _ => rfl
 | n + 1, s, u, u2 => by
  unfold ixfi2_l1 ixL every1i2_S
  simp only [word_v h, Option.bind_some, ixfi2_gen h n]
  unfold br
  split
  ·unfold idx
   split
   ·cases s[u2.toNat]? with
    | none => rfl
    | some a =>
     dsimp only
     cases inT ws.length a
     ·rfl
     ·simp only [Bool.not_true, Bool.false_eq_true, if_false]
      unfold chk
      split <;> rfl
   ·rfl
  ·rfl
theorem everyi2_v (hw : ws.length ≤ 1000000) {l : List Int} (h : l.length ≤ 1000000) (hN : l.length < N) : everyi2_S N l ws ts br_ = some (l.all (inT ws.length)) := by
 unfold everyi2_S cofi2_S ixfi2_S
 rw [← every_gen (f := fun x : Int => some (inT ws.length x)) (p := inT ws.length) (s := l) (N := N) (fun x _ => rfl) h hN]
 unfold ixS
 rw [ixfi2_gen hw]
 simp only [Option.bind_some]
 cases ixL (fun x => some (!inT ws.length x)) N l l.length 0 with
 | none => rfl
 | some r => cases r <;> rfl
theorem kept_l1_p {l : List Int} (hl : l.length ≤ 1000) {d : Tx} {u : Int} (hu : u = (l.length : Int) - 1) : ∀ (n k : Nat), l.length < n + k → k < l.length → kept_l1 N n l d u k = some (if ascB (l.drop k) = true then .inr (l, d) else .inl ())
 | 0, k, h, _ => by omega
 | n + 1, k, h, hk => by
  rw [drop_cons hk 0]
  by_cases c : k + 1 < l.length
  ·have ih := kept_l1_p hl (d := d) hu n (k + 1) (by omega) c
   rw [show ((k + 1 : Nat) : Int) = (k : Int) + 1 by omega] at ih
   rw [drop_cons c 0] at ih ⊢
   have g := gets hk 0
   have g1 : l[((k : Int) + 1).toNat]? = some (l.getD (k + 1) 0) := by
    have := gets c 0
    rwa [show ((k + 1 : Nat) : Int) = (k : Int) + 1 by omega] at this
   rw [kept_l1, br_dec (by omega), idx_eq (by omega) g, chk_eq (by omega), idx_eq (by omega) g1, ascB]
   by_cases e : l.getD (k + 1) 0 ≤ l.getD k 0
   ·rw [br_dec e, decide_eq_false (by omega)]; rfl
   ·rw [br_ndec e, chk_eq (by omega), ih, decide_eq_true (by omega), Bool.true_and]
  ·rw [kept_l1, br_ndec (by omega), List.drop_of_length_le (by omega)]; rfl
theorem kept_v (hN : 110 ≤ N) (hw : ws.length ≤ 1000000) (ht : ts.length ≤ 1000000) {l : List Int} (hl : l.length ≤ 100) : kept_S N ws ts br_ l = some (if keptE ws ts br_ l = 0 then .inl ((ws, ts, br_), l, 0) else .inr (keptE ws ts br_ l)) := by
 unfold kept_S keptE
 rw [opened_v (by omega) hw ht]
 by_cases c : checkT ws ts br_ = 0
 rotate_left
 ·simp only [if_neg c, if_pos c, Option.bind_some]
  rw [br_nnd c]
 simp only [c, if_true, Option.bind_some, ne_eq, not_true_eq_false, if_false]
 rw [br_nd trivial]
 by_cases c2 : (l.length : Int) = 0
 ·rw [br_dec c2]; simp [c2]
 rw [br_ndec c2, if_neg c2, everyi2_v hw (by omega) (by omega)]
 simp only [Option.bind_some]
 cases c3 : l.all (inT ws.length)
 ·rfl
 rw [Bool.not_true, br_false, grd_eq (by simp; omega)]
 have e := kept_l1_p (N := N) (l := l) (by omega) (d := (ws, ts, br_)) (u := ((l.drop 1).length : Int)) (by simp; omega) N 0 (by omega) (by omega)
 simp only [Int.natCast_zero, List.drop_zero] at e
 rw [e]
 cases c4 : ascB l
 ·rfl
 ·simp only [if_true, Option.bind_some]
  rw [grd_eq (lmI_iff.2 (by omega))]
  simp
theorem rkept_l1_p (hw : ws.length ≤ 1000000) {l : List Int} (hl : l.length ≤ 1000) : ∀ (n k : Nat), l.length < n + k → k ≤ l.length → rkept_l1 N n l k ws ts br_ = alls (inT ws.length) l k l
 | 0, k, h, _ => by omega
 | n + 1, k, h, hk => by
  unfold rkept_l1
  by_cases c : k < l.length
  ·have ih := rkept_l1_p hw hl n (k + 1) (by omega) (by omega)
   rw [show ((k + 1 : Nat) : Int) = (k : Int) + 1 by omega] at ih
   have g := gets c 0
   have y := alls_yes (p := inT ws.length) (b := l) 0 c
   have no := alls_no (p := inT ws.length) (b := l) 0 c
   generalize l.getD k 0 = x at *
   rw [br_dec (by omega), idx_eq (by omega) g, chk_eq (by omega), off_v]
   simp only [Option.bind_some]
   by_cases c1 : 0 ≤ x ∧ x ≤ (ws.length : Int) - 1
   ·rw [br_nd c1, chk_eq (by omega), ih, y (by simp only [inT, c1, and_self, decide_true])]
   ·rw [br_nnd c1, no (by simp only [inT, c1, decide_false])]
  ·rw [br_ndec (by omega), alls_end (by omega)]
theorem rkept_l2_p {l : List Int} (hl : l.length ≤ 1000) : ∀ (n k : Nat), l.length < n + k → 1 ≤ k → k ≤ l.length → rkept_l2 N n l k = some (if ascB (l.drop (k - 1)) = true then .inr () else .inl ())
 | 0, k, h, _, _ => by omega
 | n + 1, k, h, h1, hk => by
  rw [drop_cons (show k - 1 < l.length by omega) 0, show k - 1 + 1 = k by omega]
  by_cases c : k < l.length
  ·have ih := rkept_l2_p hl n (k + 1) (by omega) (by omega) (by omega)
   rw [show ((k + 1 : Nat) : Int) = (k : Int) + 1 by omega, show k + 1 - 1 = k by omega] at ih
   rw [drop_cons c 0] at ih ⊢
   have g := gets c 0
   have g1 : l[((k : Int) - 1).toNat]? = some (l.getD (k - 1) 0) := by
    have := gets (l := l) (k := k - 1) (by omega) 0
    rwa [show ((k - 1 : Nat) : Int) = (k : Int) - 1 by omega] at this
   rw [rkept_l2, br_dec (by omega), chk_eq (by omega), idx_eq (by omega) g1, idx_eq (by omega) g, ascB]
   by_cases e : l.getD k 0 ≤ l.getD (k - 1) 0
   ·rw [br_dec e, decide_eq_false (by omega)]; rfl
   ·rw [br_ndec e, chk_eq (by omega), ih, decide_eq_true (by omega), Bool.true_and]
  ·rw [rkept_l2, br_ndec (by omega), List.drop_of_length_le (by omega)]; rfl
theorem rkept_v (hN : 110 ≤ N) (hw : ws.length ≤ 1000000) (ht : ts.length ≤ 1000000) {l : List Int} (hl : l.length ≤ 100) : rkept_S N ws ts br_ l = some (keptE ws ts br_ l) := by
 unfold rkept_S keptE
 rw [rcheck_v (by omega) hw ht]
 simp only [Option.bind_some]
 by_cases c : checkT ws ts br_ = 0
 rotate_left
 ·rw [br_nnd c, if_pos c]
 rw [br_nd c, if_neg (by simpa using c)]
 by_cases c2 : (l.length : Int) = 0
 ·rw [br_dec c2, if_pos c2]
 have e1 := rkept_l1_p (N := N) (ts := ts) (br_ := br_) hw (l := l) (by omega) N 0 (by omega) (by omega)
 have e2 := rkept_l2_p (N := N) (l := l) (by omega) N 1 (by omega) (by omega) (by omega)
 simp only [Int.natCast_zero, Int.natCast_one, show 1 - 1 = 0 from rfl, List.drop_zero] at e1 e2
 rw [br_ndec c2, if_neg c2, e1]
 unfold alls
 rw [List.drop_zero]
 cases c3 : l.all (inT ws.length)
 ·rfl
 simp only [if_true, Option.bind_some]
 rw [e2]
 cases c4 : ascB l <;> rfl
theorem kept_ok {l : List Int} (h : keptE ws ts br_ l = 0) : TFine ws ts br_ ∧ l ≠ [] ∧ inW ws l ∧ ascB l = true := by
 unfold keptE at h
 split at h
 ·omega
 rename_i c
 split at h
 ·omega
 rename_i c2
 split at h
 ·omega
 rename_i c3
 split at h
 ·omega
 rename_i c4
 refine ⟨tfine_of (by simpa using c), fun e => by subst e; simp at c2, fun w hw => ?_, by simpa using c4⟩
 rw [Bool.not_eq_false, List.all_eq_true] at c3
 have := c3 w hw
 simp only [inT, decide_eq_true_eq] at this
 omega
def keepsR (ws : List Wd) (ts : List Tn) (br_ : Int) (l : List Int) : Bool × Int × Int :=
 if keptE ws ts br_ l ≠ 0 then (false, 0, keptE ws ts br_ l) else (ts.all (keepP l), wtR ws l, 0)
theorem lkeeps_v (hN : 110 ≤ N) (hw : ws.length ≤ 1000000) (ht : ts.length ≤ 1000000) {l : List Int} (hl : l.length ≤ 100) : lkeeps_S N ws ts br_ l = some (keepsR ws ts br_ l) := by
 unfold lkeeps_S keepsR
 rw [kept_v hN hw ht hl]
 by_cases c : keptE ws ts br_ l = 0
 ·obtain ⟨hF, _, h2, _⟩ := kept_ok c
  simp only [c, if_true, Option.bind_some, ne_eq, not_true_eq_false, if_false]
  rw [br_nd trivial, keeps_v hN hF hl]
  simp only [Option.bind_some]
  rw [weight_v hF hl hN h2]; rfl
 ·rw [if_neg c, if_pos c]
  simp only [Option.bind_some]
  rw [br_nnd c]
theorem rkeeps_v (hN : 110 ≤ N) (hw : ws.length ≤ 1000000) (ht : ts.length ≤ 1000000) {l : List Int} (hl : l.length ≤ 100) : rkeeps_S N ws ts br_ l = some (keepsR ws ts br_ l) := by
 unfold rkeeps_S keepsR
 rw [rkept_v hN hw ht hl]
 simp only [Option.bind_some]
 by_cases c : keptE ws ts br_ l = 0
 ·obtain ⟨hF, _, h2, _⟩ := kept_ok c
  obtain ⟨s, e1, _, e2⟩ := said_keep hN hF hl
  rw [br_nd c, if_neg (by simpa using c), e1]
  simp only [Option.bind_some]
  rw [rweight_v hF hl hN h2]
  simp only [Option.bind_some]
  rw [e2]
 ·rw [br_nnd c, if_pos c]
end
def priceN (ws : List Wd) : Int := (ws.map fun w => if 3 < w.1 then (2 : Int) else 1).sum
theorem priceN_bound (ws : List Wd) : (ws.length : Int) ≤ priceN ws ∧ priceN ws ≤ 2 * ws.length := by
 induction ws with
 | nil => simp [priceN]
 | cons a l ih =>
  unfold priceN at ih ⊢
  rw [List.map_cons, List.sum_cons, List.length_cons]
  split <;> omega
def priceR (ws : List Wd) (ts : List Tn) (br_ : Int) (p : Int) : Int × Int :=
 if checkT ws ts br_ ≠ 0 then (0, checkT ws ts br_) else if ¬ (1 ≤ p ∧ p ≤ 100) then (0, 3) else (priceN ws * p, 0)
section
variable {N : Nat} {ws : List Wd} {ts : List Tn} {br_ : Int}
theorem price_l1_p {p : Int} (hp : 1 ≤ p ∧ p ≤ 100) (hw : ws.length ≤ 1000) : ∀ (n k : Nat) (s : Int), ws.length < n + k → k ≤ ws.length → 0 ≤ s ∧ s ≤ 200 * k → price_l1 N n p s ws ws.length k = some (s + priceN (ws.drop k) * p)
 | 0, k, s, h, _, _ => by omega
 | n + 1, k, s, h, hk, hs => by
  by_cases c : k < ws.length
  ·have g := gets c (0, 0, false)
   rw [drop_cons c (0, 0, false)]
   generalize ws.getD k (0, 0, false) = x at *
   have hj : ∀ s, price_j1 N (price_l1 N n) p s ws ws.length k = price_l1 N n p s ws ws.length ((k + 1 : Nat) : Int) := fun s => by
    unfold price_j1
    rw [chk_eq (by omega)]; rfl
   rw [price_l1, br_dec (by omega), idx_eq (by omega) g, chk_eq (by omega)]
   simp only [hj]
   unfold priceN
   rw [List.map_cons, List.sum_cons, Int.add_mul]
   by_cases d : 3 < x.1
   ·have ih := price_l1_p hp hw n (k + 1) (s + p + p) (by omega) (by omega) (by omega)
    rw [br_dec d, chk_eq (by omega), ih, if_pos d]
    unfold priceN
    congr 1; omega
   ·have ih := price_l1_p hp hw n (k + 1) (s + p) (by omega) (by omega) (by omega)
    rw [br_ndec d, ih, if_neg d]
    unfold priceN
    congr 1; omega
  ·rw [price_l1, br_ndec (by omega), List.drop_of_length_le (by omega)]; simp [priceN]
theorem price_v (hN : 110 ≤ N) (hw : ws.length ≤ 1000000) (ht : ts.length ≤ 1000000) (p : Int) : price_S N ws ts br_ p = some (priceR ws ts br_ p) := by
 unfold price_S priceR
 rw [opened_v (by omega) hw ht]
 by_cases c : checkT ws ts br_ = 0
 ·have hF := tfine_of c
  have hn := hF.n
  rw [if_pos c, if_neg (by simpa using c)]
  simp only [Option.bind_some]
  rw [br_nd trivial, in_v]
  simp only [Option.bind_some]
  by_cases d : 1 ≤ p ∧ p ≤ 100
  ·have e := price_l1_p (N := N) (ws := ws) d (by omega) N 0 0 (by omega) (by omega) (by omega)
   simp only [Int.natCast_zero, List.drop_zero, Int.zero_add] at e
   rw [br_nd d, if_neg (by simpa using d), e]; rfl
  ·rw [br_nnd d, if_pos d]
 ·rw [if_neg c, if_pos c]
  simp only [Option.bind_some]
  rw [br_nnd c]
theorem rprice_l1_p {p : Int} (hw : ws.length ≤ 1000) : ∀ (n k : Nat) (s : Int), ws.length < n + k → k ≤ ws.length → 0 ≤ s ∧ s ≤ 2 * k → rprice_l1 N n p s k ws ts br_ = some (p, s + priceN (ws.drop k))
 | 0, k, s, h, _, _ => by omega
 | n + 1, k, s, h, hk, hs => by
  by_cases c : k < ws.length
  ·have g := gets c (0, 0, false)
   rw [drop_cons c (0, 0, false)]
   generalize ws.getD k (0, 0, false) = x at *
   have hj : ∀ s, 0 ≤ s ∧ s ≤ 10000 → rprice_j1 N (rprice_l1 N n) p s k ws ts br_ = rprice_l1 N n p (s + 1) ((k + 1 : Nat) : Int) ws ts br_ := fun s hs => by
    unfold rprice_j1
    rw [chk_eq (by omega), chk_eq (by omega)]; rfl
   rw [rprice_l1, br_dec (by omega), idx_eq (by omega) g]
   unfold priceN
   rw [List.map_cons, List.sum_cons]
   by_cases d : 3 < x.1
   ·have ih := rprice_l1_p (p := p) hw n (k + 1) (s + 1 + 1) (by omega) (by omega) (by omega)
    rw [br_dec d, chk_eq (by omega), hj _ (by omega), ih, if_pos d]
    unfold priceN
    congr 2; omega
   ·have ih := rprice_l1_p (p := p) hw n (k + 1) (s + 1) (by omega) (by omega) (by omega)
    rw [br_ndec d, hj _ (by omega), ih, if_neg d]
    unfold priceN
    congr 2; omega
  ·rw [rprice_l1, br_ndec (by omega), List.drop_of_length_le (by omega)]; simp [priceN]
theorem rprice_v (hN : 110 ≤ N) (hw : ws.length ≤ 1000000) (ht : ts.length ≤ 1000000) (p : Int) : rprice_S N ws ts br_ p = some (priceR ws ts br_ p) := by
 unfold rprice_S priceR
 rw [rcheck_v (by omega) hw ht]
 simp only [Option.bind_some]
 by_cases c : checkT ws ts br_ = 0
 ·have hF := tfine_of c
  have hn := hF.n
  rw [br_nd c, if_neg (by simpa using c), off_v]
  simp only [Option.bind_some]
  by_cases d : 1 ≤ p ∧ p ≤ 100
  ·have e := rprice_l1_p (N := N) (ws := ws) (ts := ts) (br_ := br_) (p := p) (by omega) N 0 0 (by omega) (by omega) (by omega)
   simp only [Int.natCast_zero, List.drop_zero, Int.zero_add] at e
   have hb := priceN_bound ws
   have hm : priceN ws * p ≤ 24 * 100 := Int.mul_le_mul (by omega) d.2 (by omega) (by omega)
   have h0 : 0 ≤ priceN ws * p := Int.mul_nonneg (by omega) (by omega)
   rw [br_nd d, if_neg (by simpa using d), e]
   simp only [Option.bind_some]
   rw [chk_eq (by omega)]
  ·rw [br_nnd d, if_pos d]
 ·rw [br_nnd c, if_pos c]
end
end Go.Proofs.YtfamlpbdhhikdaaGreat

namespace Go.Proofs.YtfamlpbdhhikdaaGreat
set_option linter.all false
open Go

theorem getN {α : Type} {l : List α} {k : Nat} (h : k < l.length) (d : α) : l[k]? = some (l.getD k d) := by simp [List.getD, h]
theorem asc_step : ∀ {l : List Int} (_ : ascB l = true) (i : Nat), i + 1 < l.length → l.getD i 0 < l.getD (i + 1) 0
 | [], _, i, h => by simp at h
 | [a], _, i, h => by simp at h
 | a :: b :: r, hl, i, h => by
  simp only [ascB, Bool.and_eq_true, decide_eq_true_eq] at hl
  cases i with
  | zero => simpa using hl.1
  | succ i => simpa using asc_step hl.2 i (by simpa using h)
theorem asc_get {l : List Int} (h : ascB l = true) (i : Nat) : ∀ (d : Nat), i + d < l.length → l.getD i 0 + d ≤ l.getD (i + d) 0
 | 0, _ => by simp
 | d + 1, hd => by
  have h1 := asc_get h i d (by omega)
  have h2 := asc_step h (i + d) (by omega)
  rw [show i + (d + 1) = i + d + 1 by omega]
  omega
theorem asc_lt {l : List Int} (h : ascB l = true) {i j : Nat} (hij : i < j) (hj : j < l.length) : l.getD i 0 + ((j : Int) - i) ≤ l.getD j 0 := by
 have := asc_get h i (j - i) (by omega)
 rw [show i + (j - i) = j by omega] at this
 omega
def posI : List Int → Int → Nat
 | [], _ => 0
 | a :: l, v => if a < v then posI l v + 1 else 0
theorem posI_lt {v : Int} : ∀ {l : List Int} {i : Nat}, i < posI l v → i < l.length ∧ l.getD i 0 < v
 | [], i, h => by simp [posI] at h
 | a :: l, i, h => by
  unfold posI at h
  split at h
  ·rename_i c
   cases i with
   | zero => exact ⟨by simp, by simpa using c⟩
   | succ i =>
    have := posI_lt (v := v) (l := l) (i := i) (by omega)
    exact ⟨by simpa using this.1, by simpa using this.2⟩
  ·omega
theorem posI_le {v : Int} : ∀ (l : List Int), posI l v ≤ l.length
 | [] => by simp [posI]
 | a :: l => by
  have := posI_le (v := v) l
  unfold posI
  split <;> simp <;> omega
theorem posI_at {v : Int} : ∀ {l : List Int}, posI l v < l.length → v ≤ l.getD (posI l v) 0
 | [], h => by simp at h
 | a :: l, h => by
  unfold posI at h ⊢
  split at h
  ·rename_i c
   have := posI_at (v := v) (l := l) (by simpa using h)
   rw [if_pos c]
   simpa using this
  ·rename_i c
   rw [if_neg c]
   simp; omega
theorem posI_uniq {v : Int} {l : List Int} {k : Nat} (hk : k ≤ l.length) (h1 : ∀ i, i < k → l.getD i 0 < v) (h2 : k < l.length → v ≤ l.getD k 0) : posI l v = k := by
 rcases Nat.lt_trichotomy (posI l v) k with h | h | h
 ·have := posI_at (v := v) (l := l) (by omega)
  have := h1 _ h
  omega
 ·exact h
 ·have := posI_lt h
  have := h2 this.1
  omega
theorem posI_of {l : List Int} (h : ascB l = true) {i : Nat} (hi : i < l.length) : posI l (l.getD i 0) = i :=
 posI_uniq (by omega) (fun j hj => by have := asc_lt h hj hi; omega) (fun _ => by omega)
theorem contains_iff {l : List Int} (h : ascB l = true) {v : Int} : l.contains v = true ↔ posI l v < l.length ∧ l.getD (posI l v) 0 = v := by
 rw [List.contains_iff_mem]
 constructor
 ·intro hm
  obtain ⟨i, hi, rfl⟩ := List.getElem_of_mem hm
  have : l[i] = l.getD i 0 := by simp [List.getD, hi]
  rw [this, posI_of h hi]
  exact ⟨hi, rfl⟩
 ·rintro ⟨h1, h2⟩
  rw [← h2]; exact getD_mem h1
theorem posI_succ {l : List Int} (h : ascB l = true) (v : Int) : posI l (v + 1) = if l.contains v = true then posI l v + 1 else posI l v := by
 split
 ·rename_i c
  obtain ⟨c1, c2⟩ := (contains_iff h).1 c
  refine posI_uniq (by omega) (fun i hi => ?_) (fun hl => ?_)
  ·rcases Nat.lt_or_ge i (posI l v) with c3 | c3
   ·have := (posI_lt c3).2; omega
   ·obtain rfl : i = posI l v := by omega
    omega
  ·have := asc_step h (posI l v) hl
   omega
 ·rename_i c
  refine posI_uniq (posI_le l) (fun i hi => by have := (posI_lt hi).2; omega) (fun hl => ?_)
  have := posI_at hl
  rcases Int.lt_or_le v (l.getD (posI l v) 0) with c3 | c3
  ·omega
  ·exact absurd ((contains_iff h).2 ⟨hl, by omega⟩) c
theorem stretch {l : List Int} (h : ascB l = true) {lo hi : Int} (hle : lo ≤ hi) : (wordsL lo (hi + 1)).all (fun w => l.contains w) = (l.contains lo && (l.contains hi && decide ((posI l hi : Int) - posI l lo = hi - lo))) := by
 rw [Bool.eq_iff_iff]
 simp only [Bool.and_eq_true, decide_eq_true_eq, List.all_eq_true, mem_wordsL]
 constructor
 ·intro ha
  have key : ∀ (d : Nat), lo + d ≤ hi → posI l (lo + d) = posI l lo + d := by
   intro d
   induction d with
   | zero => intro _; simp
   | succ d ih =>
    intro hd
    have e := posI_succ h (lo + d)
    rw [if_pos (ha _ (by omega)), ih (by omega), show lo + (d : Int) + 1 = lo + ((d + 1 : Nat) : Int) by omega] at e
    rw [e]; omega
  refine ⟨ha _ (by omega), ha _ (by omega), ?_⟩
  have := key (hi - lo).toNat (by omega)
  rw [show lo + ((hi - lo).toNat : Int) = hi by omega] at this
  omega
 ·rintro ⟨h1, h2, h3⟩ w ⟨hw1, hw2⟩
  obtain ⟨a1, a2⟩ := (contains_iff h).1 h1
  obtain ⟨b1, b2⟩ := (contains_iff h).1 h2
  rw [List.contains_iff_mem]
  have hi' : posI l lo + (w - lo).toNat < l.length := by omega
  have := asc_get h (posI l lo) (w - lo).toNat hi'
  have hj := asc_get h (posI l lo + (w - lo).toNat) (hi - w).toNat (by omega)
  rw [show posI l lo + (w - lo).toNat + (hi - w).toNat = posI l hi by omega, b2] at hj
  rw [a2] at this
  rw [show w = l.getD (posI l lo + (w - lo).toNat) 0 by omega]
  exact getD_mem hi'
theorem mid_v {i j : Nat} (h : i + j ≤ 100000) : IntKind.i64.wrap (Int.fdiv (IntKind.u64.wrap ((i : Int) + j)) (2 ^ 1)) = (((i + j) / 2 : Nat) : Int) := by
 rw [IntWalk.u64_in _ (by omega)]
 have : Int.fdiv ((i : Int) + j) (2 ^ 1) = (((i + j) / 2 : Nat) : Int) := by
  rw [Int.fdiv_eq_ediv_of_nonneg _ (by decide)]
  omega
 rw [this, IntWalk.i64_in _ (by omega)]
theorem less_v (N : Nat) (x y : Int) : less_S N x y = some (decide (x < y)) := by
 unfold less_S isnan1_S
 simp only [Option.bind_some]
 rw [br_nd trivial]
theorem bins_l1_p {N : Nat} {l : List Int} (h : ascB l = true) (hl : l.length ≤ 1000) {v c : Int} : ∀ (n i j : Nat), j - i < n → i ≤ posI l v → posI l v ≤ j → j ≤ l.length → bins_l1 N n l v c i j = some (l, v, c, (posI l v : Int))
 | 0, i, j, hn, _, _, _ => by omega
 | n + 1, i, j, hn, h1, h2, h3 => by
  unfold bins_l1
  by_cases d : i < j
  ·have hm := mid_v (i := i) (j := j) (by omega)
   have hk : (i + j) / 2 < l.length := by omega
   have hk2 : (i + j) / 2 < j := by omega
   have hk3 : i ≤ (i + j) / 2 := by omega
   rw [br_dec (by omega), chk_eq (by omega), hm]
   generalize (i + j) / 2 = m at *
   rw [idx_eq (by omega) (gets hk 0), less_v]
   simp only [Option.bind_some]
   by_cases e : l.getD m 0 < v
   ·have : m < posI l v := by
     rcases Nat.lt_or_ge m (posI l v) with c | c
     ·exact c
     ·have p := posI_at (v := v) (l := l) (by omega)
      rcases Nat.lt_or_ge (posI l v) m with c2 | c2
      ·have := asc_lt h c2 hk; omega
      ·obtain rfl : m = posI l v := by omega
       omega
    have ih := bins_l1_p (N := N) h hl (v := v) (c := c) n (m + 1) j (by omega) (by omega) h2 h3
    rw [show ((m + 1 : Nat) : Int) = (m : Int) + 1 by omega] at ih
    rw [br_dec e, chk_eq (by omega), ih]
   ·have : posI l v ≤ m := by
     rcases Nat.lt_or_ge m (posI l v) with c | c
     ·have := (posI_lt c).2; omega
     ·exact c
    rw [br_ndec e, bins_l1_p h hl n i m (by omega) h1 this (by omega)]
  ·rw [br_ndec (by omega), show i = posI l v by omega]
theorem bins_v {N : Nat} {l : List Int} (h : ascB l = true) (hl : l.length ≤ 1000) (hN : l.length < N) (v : Int) : bins_S N l v = some ((posI l v : Int), l.contains v) := by
 have e := bins_l1_p (N := N) h hl (v := v) (c := l.length) N 0 l.length (by omega) (by omega) (posI_le l) (Nat.le_refl _)
 unfold bins_S
 simp only [Int.natCast_zero] at e
 rw [e]
 simp only [Option.bind_some]
 by_cases c : posI l v < l.length
 ·rw [br_dec (by omega), idx_eq (by omega) (gets c 0)]
  by_cases d : l.getD (posI l v) 0 = v
  ·rw [br_dec d, (contains_iff h).2 ⟨c, d⟩]
  ·rw [br_ndec d, idx_eq (by omega) (gets c 0)]
   unfold isnan2_S
   simp only [Option.bind_some]
   rw [br_nd trivial]
   have : l.contains v = false := by
    rw [← Bool.not_eq_true]
    exact fun hc => d ((contains_iff h).1 hc).2
   rw [this]
 ·rw [br_ndec (by omega)]
  have : l.contains v = false := by
   rw [← Bool.not_eq_true]
   exact fun hc => c ((contains_iff h).1 hc).1
  rw [this]
def shS (ws : List Wd) (a e : Nat) : Bool := ((ws.take e).drop a).any (·.2.2)
def shW (ws : List Wd) : List Int → Int → List Wd
 | [], _ => []
 | a :: r, e => ((ws.getD a.toNat (0, 0, false)).1, (ws.getD a.toNat (0, 0, false)).2.1, shS ws a.toNat (r.headD e).toNat) :: shW ws r e
theorem shW_len (ws : List Wd) (e : Int) : ∀ l : List Int, (shW ws l e).length = l.length
 | [] => rfl
 | a :: r => by simp [shW, shW_len ws e r]
theorem shW_append (ws : List Wd) (a e : Int) : ∀ l : List Int, shW ws (l ++ [a]) e = shW ws l a ++ [((ws.getD a.toNat (0, 0, false)).1, (ws.getD a.toNat (0, 0, false)).2.1, shS ws a.toNat e.toNat)]
 | [] => by simp [shW]
 | b :: r => by
  rw [List.cons_append, shW, shW_append ws a e r, shW, List.cons_append]
  cases r <;> rfl
theorem shS_succ {ws : List Wd} {a w : Nat} (h : a ≤ w) (hw : w < ws.length) : shS ws a (w + 1) = (shS ws a w || (ws.getD w (0, 0, false)).2.2) := by
 unfold shS
 rw [take_succ' hw (0, 0, false), List.drop_append_of_le_length (by rw [List.length_take]; omega), List.any_append]
 simp
theorem shS_self (ws : List Wd) (a : Nat) : shS ws a a = false := by
 unfold shS
 rw [List.drop_of_length_le (by rw [List.length_take]; omega)]; rfl
theorem ixfsw_gen (N : Nat) : ∀ (n : Nat) (l : List Wd) (u u2 : Int), ixfsw_l1 N n l u u2 = ixL (fun x => shorter1_S N x.1 x.2.1 x.2.2) n l u u2
 | 0, _, _, _ => rfl
 | n + 1, l, u, u2 => by unfold ixfsw_l1 ixL; simp only [ixfsw_gen N n]
theorem cofsw_v {N : Nat} {u : List Wd} (hu : u.length ≤ 1000) (hN : u.length < N) : cofsw_S N u = some (u.any (·.2.2)) := by
 have h := ixS_any (f := fun x : Wd => shorter1_S N x.1 x.2.1 x.2.2) (p := fun x => x.2.2) (s := u) (N := N) (fun x _ => rfl) (by omega) hN
 unfold cofsw_S ixfsw_S
 unfold ixS at h
 rw [ixfsw_gen]
 exact h
section
variable {N : Nat} {ws : List Wd} {ts : List Tn} {br_ : Int}
variable (hN : 110 ≤ N) (hF : TFine ws ts br_)
include hN hF
theorem shorter_l1_p {l : List Int} (h : ascB l = true) (hl : l.length ≤ 100) (hw : inW ws l) {g o : Int} : ∀ (n k : Nat) (acc : List Wd), l.length < n + k → k ≤ l.length → acc.length = k →
  shorter_l1 N n (ws, ts, br_) l l l.length k ws ts br_ g o acc = some (l, ws, ts, br_, g, o, acc ++ shW ws (l.drop k) ws.length)
 | 0, k, acc, hn, hk, ha => by omega
 | n + 1, k, acc, hn, hk, ha => by
  have hn' := hF.n
  unfold shorter_l1
  by_cases c : k < l.length
  ·have g1 := gets c 0
   have hx := hw _ (getD_mem (d := 0) c)
   have hj : ∀ (e : Nat), (l.getD k 0).toNat ≤ e → e ≤ ws.length → e = ((l.drop (k + 1)).headD (ws.length : Int)).toNat → shorter_j1 N (shorter_l1 N n) (ws, ts, br_) l (l.getD k 0) (e : Int) l l.length k ws ts br_ g o (ws.getD (l.getD k 0).toNat (0, 0, false)).1 (ws.getD (l.getD k 0).toNat (0, 0, false)).2.1 (ws.getD (l.getD k 0).toNat (0, 0, false)).2.2 acc = some (l, ws, ts, br_, g, o, acc ++ shW ws (l.drop k) ws.length) := by
    intro e he1 he2 he3
    have ih := shorter_l1_p h hl hw (g := g) (o := o) n (k + 1) (acc ++ [((ws.getD (l.getD k 0).toNat (0, 0, false)).1, (ws.getD (l.getD k 0).toNat (0, 0, false)).2.1, shS ws (l.getD k 0).toNat e)]) (by omega) (by omega) (by simp [ha])
    rw [show ((k + 1 : Nat) : Int) = (k : Int) + 1 by omega] at ih
    unfold shorter_j1
    rw [grd_eq (by simp only [decide_eq_true_eq]; omega), cofsw_v (by simp; omega) (by simp; omega)]
    simp only [Option.bind_some]
    rw [lim_eq (by simp; omega), chk_eq (by omega)]
    unfold shS at ih
    simp only [Int.toNat_natCast]
    rw [ih, drop_cons c 0, shW, ← he3]
    simp [shS]
   have g2 : ws[(l.getD k 0).toNat]? = some (ws.getD (l.getD k 0).toNat (0, 0, false)) := getN (by omega) _
   rw [br_dec (by omega), idx_eq (by omega) g1, idx_eq (l := ws) hx.1 g2]
   unfold end__S
   simp only [Option.bind_some]
   rw [chk_eq (by omega)]
   by_cases d : k + 1 < l.length
   ·have g3 : l[((k : Int) + 1).toNat]? = some (l.getD (k + 1) 0) := by
     have := gets d 0
     rwa [show ((k + 1 : Nat) : Int) = (k : Int) + 1 by omega] at this
    have hy := hw _ (getD_mem (d := 0) d)
    have hs := asc_step h k d
    have := hj (l.getD (k + 1) 0).toNat (by omega) (by omega) (by rw [drop_cons d 0]; rfl)
    rw [show (((l.getD (k + 1) 0).toNat : Nat) : Int) = l.getD (k + 1) 0 by omega] at this
    rw [br_dec (by omega), chk_eq (by omega), idx_eq (by omega) g3, this]
   ·have := hj ws.length (by omega) (by omega) (by rw [List.drop_of_length_le (by omega)]; simp)
    rw [br_ndec (by omega), this]
  ·rw [br_ndec (by omega), List.drop_of_length_le (by omega)]; simp [shW]
omit hN hF
def trV (l : List Int) (x : Tn) : Option Tn := if (l.contains x.1 && (wordsL x.2.1 (x.2.2 + 1)).all fun w => l.contains w) = true then some ((posI l x.1 : Int), (posI l x.2.1 : Int), (posI l x.2.2 : Int)) else none
theorem filterMap_len {f : Tn → Option Tn} : ∀ l : List Tn, (l.filterMap f).length ≤ l.length
 | [] => by simp
 | a :: l => by
  have := filterMap_len (f := f) l
  rw [List.filterMap_cons]
  split <;> simp <;> omega
include hN hF
theorem shorter_l2_p {l : List Int} (h : ascB l = true) (hl : l.length ≤ 100) {g o : Int} {O : List Wd} : ∀ (n k : Nat) (acc : List Tn), ts.length < n + k → k ≤ ts.length → acc.length ≤ k →
  shorter_l2 N n l ts ts.length k g o O acc = some (g, o, O, acc ++ (ts.drop k).filterMap (trV l))
 | 0, k, acc, hn, hk, ha => by omega
 | n + 1, k, acc, hn, hk, ha => by
  have ht := hF.t; have hnn := hF.n
  unfold shorter_l2
  by_cases c : k < ts.length
  ·have g1 := gets c (0, 0, 0)
   have hx := hF.x _ (getD_mem (d := (0, 0, 0)) c)
   rw [drop_cons c (0, 0, 0)]
   generalize ts.getD k (0, 0, 0) = x at *
   have p1 := posI_le (v := x.1) l
   have p2 := posI_le (v := x.2.1) l
   have p3 := posI_le (v := x.2.2) l
   have hj : ∀ acc : List Tn, acc.length ≤ k + 1 → shorter_j2 N (shorter_l2 N n) l ts ts.length k g o O acc = some (g, o, O, acc ++ (ts.drop (k + 1)).filterMap (trV l)) := by
    intro acc ha
    have ih := shorter_l2_p h hl (g := g) (o := o) (O := O) n (k + 1) acc (by omega) (by omega) ha
    rw [show ((k + 1 : Nat) : Int) = (k : Int) + 1 by omega] at ih
    unfold shorter_j2
    rw [chk_eq (by omega), ih]
   rw [br_dec (by omega), idx_eq (by omega) g1, bins_v h (by omega) (by omega), bins_v h (by omega) (by omega), bins_v h (by omega) (by omega)]
   simp only [Option.bind_some]
   have et : trV l x = if (l.contains x.1 && (l.contains x.2.1 && (l.contains x.2.2 && decide ((posI l x.2.2 : Int) - posI l x.2.1 = x.2.2 - x.2.1)))) = true then some ((posI l x.1 : Int), (posI l x.2.1 : Int), (posI l x.2.2 : Int)) else none := by
    unfold trV
    rw [stretch h (by omega)]
   rw [List.filterMap_cons, et]
   cases l.contains x.1
   ·rw [br_false, hj acc (by omega)]; rfl
   cases l.contains x.2.1
   ·rw [br_true, br_false, hj acc (by omega)]; rfl
   cases l.contains x.2.2
   ·rw [br_true, br_true, br_false, hj acc (by omega)]; rfl
   rw [br_true, br_true, br_true, chk_eq (by omega), chk_eq (by omega)]
   by_cases d : (posI l x.2.2 : Int) - posI l x.2.1 = x.2.2 - x.2.1
   ·rw [br_dec d, lim_eq (by simp; omega), hj _ (by simp; omega), decide_eq_true d]
    simp
   ·rw [br_ndec d, hj acc (by omega), decide_eq_false d]; rfl
  ·rw [br_ndec (by omega), List.drop_of_length_le (by omega)]; simp
omit hN hF
def shR (ws : List Wd) (ts : List Tn) (br_ : Int) (l : List Int) : Int × Int × List Wd × List Tn :=
 if keptE ws ts br_ l ≠ 0 then (0, keptE ws ts br_ l, [], []) else if ts.all (keepP l) = true then (br_, 0, shW ws l ws.length, ts.filterMap (trV l)) else (0, 8, [], [])
theorem shorter_v (hN : 110 ≤ N) (hw : ws.length ≤ 1000000) (ht : ts.length ≤ 1000000) {l : List Int} (hl : l.length ≤ 100) : shorter_S N ws ts br_ l = some (shR ws ts br_ l) := by
 unfold shorter_S shR
 rw [kept_v hN hw ht hl]
 by_cases c : keptE ws ts br_ l = 0
 ·obtain ⟨hF, _, h2, h3⟩ := kept_ok c
  have ht := hF.t
  simp only [c, if_true, Option.bind_some, ne_eq, not_true_eq_false, if_false]
  rw [br_nd (by first | trivial | rfl), keeps_v hN hF hl]
  simp only [Option.bind_some]
  cases ts.all (keepP l)
  ·rfl
  have e1 := shorter_l1_p hN hF h3 hl h2 (g := 0) (o := br_) N 0 [] (by omega) (by omega) rfl
  have e2 := shorter_l2_p hN hF h3 hl (g := 0) (o := br_) (O := shW ws l ws.length) N 0 [] (by omega) (by omega) (by simp)
  simp only [Int.natCast_zero, List.drop_zero, List.nil_append] at e1 e2
  rw [Bool.not_true, br_false, e1]
  simp only [Option.bind_some]
  rw [e2]; rfl
 ·rw [if_neg c, if_pos c]
  simp only [Option.bind_some]
  rw [br_nnd c]
def nowV (l : List Int) (v : Int) : Int := if l.contains v = true then (posI l v : Int) else -1
def nowL (l : List Int) (m w : Nat) : List Int := (List.range m).map fun v => if v < w then nowV l v else 0
theorem nowL_len (l : List Int) (m w : Nat) : (nowL l m w).length = m := by simp [nowL]
theorem nowL_set (l : List Int) {m w : Nat} (h : w < m) : (nowL l m w).set w (nowV l w) = nowL l m (w + 1) := by
 refine List.ext_getElem (by simp [nowL]) fun i h1 h2 => ?_
 rw [List.getElem_set]
 simp only [nowL, List.getElem_map, List.getElem_range]
 by_cases c : w = i
 ·subst c; simp
 ·rw [if_neg c]
  by_cases d : i < w
  ·rw [if_pos d, if_pos (by omega)]
  ·rw [if_neg d, if_neg (by omega)]
theorem nowL_get (l : List Int) {m i : Nat} (h : i < m) : (nowL l m m).getD i 0 = nowV l i := by
 simp [List.getD, nowL, h]
theorem nowV_pos (l : List Int) (v : Int) : decide (0 ≤ nowV l v) = l.contains v := by
 unfold nowV
 cases l.contains v
 ·rfl
 ·simp
theorem set_last {α : Type} (l : List α) (a b : α) : ∀ k, l.length = k → (l ++ [a]).set k b = l ++ [b] := by
 rintro k rfl
 simp
include hN hF
theorem rshorter_l1_p {l : List Int} (h : ascB l = true) (hl : l.length ≤ 100) (hw : inW ws l) {g o : Int} : ∀ (n w : Nat), ws.length < n + w → w ≤ ws.length →
  rshorter_l1 N n l ((posI l w : Int) - 1) w ws ts br_ g o (nowL l ws.length w) (shW ws (l.take (posI l w)) w) = some (ws, ts, br_, g, o, nowL l ws.length ws.length, shW ws (l.take (posI l ws.length)) ws.length)
 | 0, w, hn, hk => by omega
 | n + 1, w, hn, hk => by
  have hn' := hF.n
  have hp := posI_le (v := w) l
  unfold rshorter_l1
  by_cases c : w < ws.length
  ·have ih := rshorter_l1_p h hl hw (g := g) (o := o) n (w + 1) (by omega) (by omega)
   have hs := posI_succ h w
   have hset := nowL_set l c
   have g1 := gets c (0, 0, false)
   rw [show ((w + 1 : Nat) : Int) = (w : Int) + 1 by omega] at ih
   rw [br_dec (by omega), rng_eq (by rw [nowL_len]; omega), get_get 0 (by rw [nowL_len]; omega), has_v (by omega) (by omega)]
   simp only [Option.bind_some, Int.toNat_natCast]
   unfold nowV at hset
   cases hc : l.contains (w : Int)
   ·rw [hc, if_neg (by simp)] at hs hset
    rw [br_false, hset]
    rw [hs] at ih
    have hj : ∀ O, O = shW ws (l.take (posI l w)) ((w : Int) + 1) → rshorter_j1 N (rshorter_l1 N n) l ((posI l w : Int) - 1) w ws ts br_ g o (nowL l ws.length (w + 1)) O = some (ws, ts, br_, g, o, nowL l ws.length ws.length, shW ws (l.take (posI l ws.length)) ws.length) := by
     rintro O rfl
     unfold rshorter_j1
     rw [chk_eq (by omega), ih]
    by_cases d : posI l w = 0
    ·rw [br_ndec (by omega), hj]
     rw [d]; rfl
    ·have hk : posI l w - 1 < l.length := by omega
     have ha := (posI_lt (l := l) (v := w) (i := posI l w - 1) (by omega)).2
     have ha0 := hw _ (getD_mem (d := 0) hk)
     have et : l.take (posI l w) = l.take (posI l w - 1) ++ [l.getD (posI l w - 1) 0] := by
      rw [← take_succ' hk 0, show posI l w - 1 + 1 = posI l w by omega]
     have es := shS_succ (ws := ws) (a := (l.getD (posI l w - 1) 0).toNat) (w := w) (by omega) c
     rw [br_dec (by omega), idx_eq (by omega) g1]
     rw [et, shW_append, show ((w : Int) + 1).toNat = w + 1 by omega] at hj
     rw [et, shW_append]
     simp only [Int.toNat_natCast]
     cases hst : (ws.getD w (0, 0, false)).2.2
     ·rw [hst, Bool.or_false] at es
      rw [es] at hj
      rw [br_false, hj _ rfl]
     ·rw [hst, Bool.or_true] at es
      rw [es] at hj
      have e2 : ((posI l w : Int) - 1).toNat = (shW ws (l.take (posI l w - 1)) (l.getD (posI l w - 1) 0)).length := by
       rw [shW_len, List.length_take]; omega
      rw [br_true, rng_eq (by rw [List.length_append, shW_len, List.length_take, List.length_singleton]; omega), get_get (0, 0, false) (by rw [e2]; simp), e2, set_last _ _ _ _ rfl, hj]
      simp [List.getD]
   ·rw [hc, if_pos rfl] at hs hset
    rw [hs] at ih
    obtain ⟨b1, b2⟩ := (contains_iff h).1 hc
    have eo : shW ws (l.take (posI l w + 1)) ((w : Int) + 1) = shW ws (l.take (posI l w)) w ++ [((ws.getD w (0, 0, false)).1, (ws.getD w (0, 0, false)).2.1, (ws.getD w (0, 0, false)).2.2)] := by
     rw [take_succ' b1 0, b2, shW_append, show ((w : Int) + 1).toNat = w + 1 by omega, Int.toNat_natCast, shS_succ (Nat.le_refl _) c, shS_self, Bool.false_or]
    rw [br_true, chk_eq (by omega), rng_eq (by rw [List.length_set, nowL_len]; omega), get_get 0 (by rw [List.length_set, nowL_len]; omega), idx_eq (by omega) g1,
     lim_eq (by rw [shW_len, List.length_take]; simp; omega), List.set_set, show (posI l w : Int) - 1 + 1 = posI l w by omega, hset]
    unfold rshorter_j1
    rw [chk_eq (by omega), ← eo]
    rw [show ((posI l w + 1 : Nat) : Int) - 1 = posI l w by omega] at ih
    exact ih
  ·obtain rfl : w = ws.length := by omega
   rw [br_ndec (by omega)]
theorem rshorter_l3_p {l : List Int} {i g o : Int} {x : Tn} (hx : 0 ≤ x.2.1 ∧ x.2.2 < ws.length) {O : List Wd} {O2 : List Tn} : ∀ (n : Nat) (w : Int) (all : Bool), (x.2.2 + 1 - w).toNat < n → x.2.1 ≤ w →
  rshorter_l3 N n i all w ws ts br_ g o (nowL l ws.length ws.length) x.1 x.2.1 x.2.2 O O2 = some (i, (all && (wordsL w (x.2.2 + 1)).all fun w => l.contains w), ws, ts, br_, g, o, nowL l ws.length ws.length, x.1, x.2.1, x.2.2, O, O2)
 | 0, w, _, h, _ => by omega
 | n + 1, w, all, h, h1 => by
  have hn' := hF.n
  unfold rshorter_l3
  by_cases c : w ≤ x.2.2
  ·have e : wordsL w (x.2.2 + 1) = w :: wordsL (w + 1) (x.2.2 + 1) := by
    unfold wordsL
    rw [show (x.2.2 + 1 - w).toNat = (x.2.2 + 1 - (w + 1)).toNat + 1 by omega, List.range_succ_eq_map, List.map_cons, List.map_map]
    congr 1
    ·simp
    ·refine List.map_congr_left fun i _ => ?_
     simp only [Function.comp]; omega
   have ih := fun all => rshorter_l3_p (l := l) (i := i) (g := g) (o := o) hx (O := O) (O2 := O2) n (w + 1) all (by omega) (by omega)
   rw [e, List.all_cons, br_dec c]
   cases all
   ·rw [br_false, chk_eq (by omega), ih]; rfl
   ·rw [br_true, rng_eq (by rw [nowL_len]; omega), get_get 0 (by rw [nowL_len]; omega), chk_eq (by omega), ih, nowL_get l (by omega), nowV_pos, show ((w.toNat : Nat) : Int) = w by omega]; rfl
  ·rw [br_ndec c]
   have : wordsL w (x.2.2 + 1) = [] := by unfold wordsL; rw [show (x.2.2 + 1 - w).toNat = 0 by omega]; rfl
   rw [this]; simp
theorem rshorter_l2_p {l : List Int} (hl : l.length ≤ 100) {g o : Int} {O : List Wd} : ∀ (n k : Nat) (acc : List Tn), ts.length < n + k → k ≤ ts.length → acc.length ≤ k →
  rshorter_l2 N n k ws ts br_ g o (nowL l ws.length ws.length) O acc = some (g, o, O, acc ++ (ts.drop k).filterMap (trV l))
 | 0, k, acc, hn, hk, ha => by omega
 | n + 1, k, acc, hn, hk, ha => by
  have ht := hF.t; have hn' := hF.n
  unfold rshorter_l2
  by_cases c : k < ts.length
  ·have g1 := gets c (0, 0, 0)
   have hx := hF.x _ (getD_mem (d := (0, 0, 0)) c)
   rw [drop_cons c (0, 0, 0)]
   generalize ts.getD k (0, 0, 0) = x at *
   have hj : ∀ acc : List Tn, acc.length ≤ k + 1 → rshorter_j2 N (rshorter_l2 N n) k ws ts br_ g o (nowL l ws.length ws.length) O acc = some (g, o, O, acc ++ (ts.drop (k + 1)).filterMap (trV l)) := by
    intro acc ha
    have ih := rshorter_l2_p hl (g := g) (o := o) (O := O) n (k + 1) acc (by omega) (by omega) ha
    rw [show ((k + 1 : Nat) : Int) = (k : Int) + 1 by omega] at ih
    unfold rshorter_j2
    rw [chk_eq (by omega), ih]
   rw [br_dec (by omega), idx_eq (by omega) g1, rng_eq (by rw [nowL_len]; omega), get_get 0 (by rw [nowL_len]; omega), rshorter_l3_p hN hF (by omega) N _ _ (by omega) (by omega)]
   simp only [Option.bind_some]
   have hv : ∀ v : Int, 0 ≤ v → v < ws.length → (nowL l ws.length ws.length).getD v.toNat 0 = nowV l v := fun v h1 h2 => by
    rw [nowL_get l (by omega), show ((v.toNat : Nat) : Int) = v by omega]
   rw [hv x.1 (by omega) (by omega), nowV_pos, List.filterMap_cons]
   cases hc : (l.contains x.1 && (wordsL x.2.1 (x.2.2 + 1)).all fun w => l.contains w)
   ·rw [br_false, hj acc (by omega)]
    unfold trV
    rw [hc]; rfl
   ·have hc' := hc
    rw [Bool.and_eq_true, List.all_eq_true] at hc'
    have c1 := hc'.1
    have c2 := hc'.2 x.2.1 (mem_wordsL.2 (by omega))
    have c3 := hc'.2 x.2.2 (mem_wordsL.2 (by omega))
    rw [br_true, rng_eq (by rw [nowL_len]; omega), get_get 0 (by rw [nowL_len]; omega), rng_eq (by rw [nowL_len]; omega), get_get 0 (by rw [nowL_len]; omega), rng_eq (by rw [nowL_len]; omega), get_get 0 (by rw [nowL_len]; omega),
     lim_eq (by simp; omega), hv x.1 (by omega) (by omega), hv x.2.1 (by omega) (by omega), hv x.2.2 (by omega) (by omega), hj _ (by simp; omega)]
    unfold nowV
    rw [if_pos c1, if_pos c2, if_pos c3]
    have : trV l x = some ((posI l x.1 : Int), (posI l x.2.1 : Int), (posI l x.2.2 : Int)) := by unfold trV; rw [hc]; rfl
    rw [this]; simp
  ·rw [br_ndec (by omega), List.drop_of_length_le (by omega)]; simp
omit hN hF
theorem rshorter_v (hN : 110 ≤ N) (hw : ws.length ≤ 1000000) (ht : ts.length ≤ 1000000) {l : List Int} (hl : l.length ≤ 100) : rshorter_S N ws ts br_ l = some ((shR ws ts br_ l).2.2.1, (shR ws ts br_ l).2.2.2, (shR ws ts br_ l).1, (shR ws ts br_ l).2.1) := by
 unfold rshorter_S shR
 rw [rkeeps_v hN hw ht hl]
 unfold keepsR
 by_cases c : keptE ws ts br_ l = 0
 ·obtain ⟨hF, _, h2, h3⟩ := kept_ok c
  have ht := hF.t; have hn := hF.n
  simp only [c, Option.bind_some, ne_eq, not_true_eq_false, if_false]
  rw [br_nd (by first | trivial | rfl)]
  cases ts.all (keepP l)
  ·rfl
  have p0 : posI l 0 = 0 := posI_uniq (by omega) (fun i hi => by omega) (fun hl => (h2 _ (getD_mem hl)).1)
  have p1 : posI l (ws.length : Int) = l.length := posI_uniq (by omega) (fun i hi => (h2 _ (getD_mem hi)).2) (fun h => by omega)
  have e1 := rshorter_l1_p hN hF h3 hl h2 (g := 0) (o := br_) N 0 (by omega) (by omega)
  have e2 := rshorter_l2_p hN hF (l := l) hl (g := 0) (o := br_) (O := shW ws l ws.length) N 0 [] (by omega) (by omega) (by simp)
  have r0 : nowL l ws.length 0 = List.replicate ws.length 0 := by
   refine List.ext_getElem (by simp [nowL]) fun i h1 h2 => ?_
   simp [nowL]
  simp only [Int.natCast_zero, List.drop_zero, List.nil_append, p0, p1, List.take_zero, List.take_length, r0, shW] at e1 e2
  rw [Bool.not_true, br_false, grd_eq (lmI_iff.2 (by omega)), Int.toNat_natCast]
  rw [show (0 : Int) - 1 = -1 from rfl] at e1
  rw [e1]
  simp only [Option.bind_some]
  rw [e2]; rfl
 ·rw [if_pos c, if_pos c]
  simp only [Option.bind_some]
  rw [br_nnd c]
theorem shR_len (l : List Int) (ht : ts.length ≤ 1000) : (shR ws ts br_ l).2.2.1.length ≤ l.length ∧ (shR ws ts br_ l).2.2.2.length ≤ 1000 := by
 unfold shR
 have := filterMap_len (f := trV l) ts
 split
 ·simp
 split
 ·exact ⟨by simp only [shW_len]; omega, by simp only; omega⟩
 ·simp
end
section
variable {N : Nat}
theorem tshorter_l1_p {kept l : List Int} {pence : Int} {t : List Wd} {t2 : List Tn} {t3 : Int} {own : List Wd} {own2 : List Tn} {own3 : Int} {x : List Wd} {x2 : List Tn} {x3 o : Int} {want2 : List Tn} {want3 : Int} {out2 : List Tn} {G : List Wd} (hG : G.length ≤ 1000) : ∀ (n k : Nat), G.length < n + k → k ≤ G.length →
  tshorter_l1 N n kept pence l G.length k t t2 t3 own own2 own3 x x2 x3 o G want2 want3 G out2 = some (.inr (kept, pence, l, t, t2, t3, own, own2, own3, x, x2, x3, o, G, want2, want3, G, out2))
 | 0, k, h, hk => by omega
 | n + 1, k, h, hk => by
  unfold tshorter_l1
  by_cases c : k < G.length
  ·have ih := tshorter_l1_p (kept := kept) (l := l) (pence := pence) (t := t) (t2 := t2) (t3 := t3) (own := own) (own2 := own2) (own3 := own3) (x := x) (x2 := x2) (x3 := x3) (o := o) (want2 := want2) (want3 := want3) (out2 := out2) hG n (k + 1) (by omega) (by omega)
   rw [show ((k + 1 : Nat) : Int) = (k : Int) + 1 by omega] at ih
   rw [br_dec (by omega), rng_eq (by omega), get_get (0, 0, false) (by omega), idx_eq (by omega) (gets c (0, 0, false)), Int.toNat_natCast]
   simp only [decide_true, beq_self_eq_true, Bool.and_true, Bool.not_true]
   rw [br_false, chk_eq (by omega), ih]
  ·rw [br_ndec (by omega)]
theorem tshorter_l2_p {kept l : List Int} {pence : Int} {t : List Wd} {t2 : List Tn} {t3 : Int} {own : List Wd} {own2 : List Tn} {own3 : Int} {x : List Wd} {x2 : List Tn} {x3 o : Int} {want : List Wd} {want3 : Int} {out2 : List Wd} {G : List Tn} (hG : G.length ≤ 1000) : ∀ (n k : Nat), G.length < n + k → k ≤ G.length →
  tshorter_l2 N n kept pence l G.length k t t2 t3 own own2 own3 x x2 x3 o want G want3 G out2 = some (.inr (kept, pence, l, t, t2, t3, own, own2, own3, x, x2, x3, o, out2, G))
 | 0, k, h, hk => by omega
 | n + 1, k, h, hk => by
  unfold tshorter_l2
  by_cases c : k < G.length
  ·have ih := tshorter_l2_p (kept := kept) (l := l) (pence := pence) (t := t) (t2 := t2) (t3 := t3) (own := own) (own2 := own2) (own3 := own3) (x := x) (x2 := x2) (x3 := x3) (o := o) (want := want) (want3 := want3) (out2 := out2) hG n (k + 1) (by omega) (by omega)
   rw [show ((k + 1 : Nat) : Int) = (k : Int) + 1 by omega] at ih
   rw [br_dec (by omega), rng_eq (by omega), get_get (0, 0, 0) (by omega), idx_eq (by omega) (gets c (0, 0, 0)), Int.toNat_natCast]
   simp only [decide_true, Bool.and_true, Bool.not_true]
   rw [br_false, chk_eq (by omega), ih]
  ·rw [br_ndec (by omega)]
end
theorem tshorter_true {ws : List Wd} {ts : List Tn} {br_ p : Int} {l : List Int} (h0 : Ty.inB TextT (ws, ts, br_)) (h1 : Ty.inB (.sl (.int .i64)) l) (h2 : Ty.inB (.int .i64) p) : tshorter_S 1100 ws ts br_ l p = some true := by
 unfold tshorter_S
 have aw : ((awake_S 1100).bind fun x => some x) = some true := by rw [awake_v]; rfl
 rcases great_v (N := 1100) (ws := ws) (ts := ts) (br_ := br_) 20 with e | ⟨e, hw, ht, _⟩ <;> rw [e] <;> simp only [Option.bind_some]
 ·rw [br_true]; exact aw
 rw [br_false]
 by_cases c : 20 < (l.length : Int)
 ·rw [br_dec c]; exact aw
 rw [br_ndec c, copyx_v (by omega) (by omega)]
 simp only [Option.bind_some]
 rw [theirs_v (by omega) (by omega) (by omega) (by omega), copyi_v (by omega)]
 simp only [Option.bind_some]
 rw [lkeeps_v (by omega) (by omega) (by omega) (by omega), rkeeps_v (by omega) (by omega) (by omega) (by omega)]
 simp only [Option.bind_some]
 rw [beq_self_eq_true, Bool.not_true, br_false, br_nd (by first | trivial | rfl), br_nd (by first | trivial | rfl), shorter_v (by omega) (by omega) (by omega) (by omega), rshorter_v (by omega) (by omega) (by omega) (by omega)]
 simp only [Option.bind_some]
 have hlen := shR_len (ws := ws) (br_ := br_) (ts := ts) l (by omega)
 generalize shR ws ts br_ l = r at *
 have e1 := fun t t2 t3 own own2 own3 x x2 x3 => tshorter_l1_p (N := 1100) (kept := l) (l := l) (pence := p) (t := t) (t2 := t2) (t3 := t3) (own := own) (own2 := own2) (own3 := own3) (x := x) (x2 := x2) (x3 := x3) (o := r.1) (want2 := r.2.2.2) (want3 := r.1) (out2 := r.2.2.2) (G := r.2.2.1) (by omega) 1100 0 (by omega) (by omega)
 have e2 := fun t t2 t3 own own2 own3 x x2 x3 => tshorter_l2_p (N := 1100) (kept := l) (l := l) (pence := p) (t := t) (t2 := t2) (t3 := t3) (own := own) (own2 := own2) (own3 := own3) (x := x) (x2 := x2) (x3 := x3) (o := r.1) (want := r.2.2.1) (want3 := r.1) (out2 := r.2.2.1) (G := r.2.2.2) (by omega) 1100 0 (by omega) (by omega)
 simp only [Int.natCast_zero] at e1 e2
 rw [br_nd (by first | trivial | rfl), br_nd (by first | trivial | rfl), br_nd (by first | trivial | rfl), br_nd (by first | trivial | rfl), e1]
 simp only [Option.bind_some]
 rw [e2]
 simp only [Option.bind_some]
 rw [price_v (by omega) (by omega) (by omega), rprice_v (by omega) (by omega) (by omega)]
 simp only [Option.bind_some]
 rw [br_dec (by first | trivial | rfl), br_dec (by first | trivial | rfl), same_v (by omega) (by omega) (by omega) (by omega)]
 simp only [Option.bind_some]
 rw [br_true, likei_v (by omega) (by omega)]
 simp only [Option.bind_some]
 rw [br_true]; exact aw
end Go.Proofs.YtfamlpbdhhikdaaGreat

namespace Go.Proofs.YtfamlpbdhhikdaaGreat
set_option linter.all false
open Go
def okC (m : Int) : Int → List Int → Prop
 | _, [] => True
 | lo, a :: r => (lo ≤ a ∧ a < m) ∧ okC m (a + 1) r
theorem okC_mono {m lo lo' : Int} (h : lo' ≤ lo) : ∀ {c : List Int}, okC m lo c → okC m lo' c
 | [], _ => trivial
 | a :: r, ⟨⟨h1, h2⟩, h3⟩ => ⟨⟨by omega, h2⟩, h3⟩
theorem okC_len {m : Int} : ∀ {c : List Int} {lo : Int}, okC m lo c → c ≠ [] → lo + c.length ≤ m
 | [], _, _, h => absurd rfl h
 | [a], lo, ⟨⟨h1, h2⟩, _⟩, _ => by simp; omega
 | a :: b :: r, lo, ⟨⟨h1, h2⟩, h3⟩, _ => by
  have := okC_len h3 (by simp)
  simp at this ⊢; omega
theorem okC_mem {m : Int} : ∀ {c : List Int} {lo : Int}, okC m lo c → ∀ x ∈ c, lo ≤ x ∧ x < m
 | a :: r, lo, ⟨⟨h1, h2⟩, h3⟩, x, hx => by
  rcases List.mem_cons.1 hx with rfl | hx
  ·exact ⟨h1, h2⟩
  ·have := okC_mem h3 x hx; omega
def bef : List Int → List Int → Bool
 | a :: l, b :: r => if a = b then bef l r else decide (a < b)
 | _, _ => false
def ChF (m : Int) (P : List Int → Bool) (l : List Int) (lo : Int) (k : Nat) : Option (List Int) → Prop
 | none => ∀ c, okC m lo c → c.length = k → P (l ++ c) = false
 | some x => ∃ c, okC m lo c ∧ c.length = k ∧ x = l ++ c ∧ P x = true ∧ ∀ c', okC m lo c' → c'.length = k → P (l ++ c') = true → bef c' c = false
theorem ChF.step {m : Int} {P : List Int → Bool} {l : List Int} {w : Int} {k : Nat} {r : Option (List Int)} (h1 : ∀ c, okC m (w + 1) c → c.length = k → P ((l ++ [w]) ++ c) = false) (h2 : ChF m P l (w + 1) (k + 1) r) : ChF m P l w (k + 1) r := by
 have key : ∀ c, okC m w c → c.length = k + 1 → P (l ++ c) = true → okC m (w + 1) c := by
  intro c hc hl hp
  cases c with
  | nil => simp at hl
  | cons a c =>
   obtain ⟨⟨a1, a2⟩, a3⟩ := hc
   by_cases e : a = w
   ·subst e
    have := h1 c a3 (by simpa using hl)
    rw [List.append_assoc, List.singleton_append, hp] at this
    cases this
   ·exact ⟨⟨by omega, a2⟩, a3⟩
 cases r with
 | none =>
  intro c hc hl
  cases hp : P (l ++ c)
  ·rfl
  ·rw [← hp]; exact h2 c (key c hc hl hp) hl
 | some x =>
  obtain ⟨c, c1, c2, c3, c4, c5⟩ := h2
  exact ⟨c, okC_mono (by omega) c1, c2, c3, c4, fun c' d1 d2 d3 => c5 c' (key c' d1 d2 d3) d2 d3⟩
theorem ChF.found {m : Int} {P : List Int → Bool} {l : List Int} {w : Int} {k : Nat} {x : List Int} (hw : w < m) (h : ChF m P (l ++ [w]) (w + 1) k (some x)) : ChF m P l w (k + 1) (some x) := by
 obtain ⟨c, c1, c2, c3, c4, c5⟩ := h
 refine ⟨w :: c, ⟨⟨by omega, hw⟩, c1⟩, by simp [c2], by simp [c3], c4, fun c' d1 d2 d3 => ?_⟩
 cases c' with
 | nil => rfl
 | cons a c' =>
  obtain ⟨⟨a1, a2⟩, a3⟩ := d1
  unfold bef
  by_cases e : a = w
  ·subst e
   rw [if_pos rfl]
   exact c5 c' a3 (by simpa using d2) (by simpa using d3)
  ·rw [if_neg e, decide_eq_false (by omega)]
theorem ChF.past {m : Int} {P : List Int → Bool} {l : List Int} {w : Int} {k : Nat} (h : m < w + (k + 1 : Nat)) : ChF m P l w (k + 1) none := by
 intro c hc hl
 have := okC_len hc (by intro e; subst e; simp at hl)
 omega
def chO (d : Tx) (wt : Int) : Option (List Int) → (Tx × Int) ⊕ (List Int × Tx × Int)
 | none => .inl (d, wt)
 | some x => .inr (x, d, wt)
def chL (d : Tx) (wt : Int) : Option (List Int) → (List Int × Tx × Int) ⊕ (Tx × Int)
 | none => .inr (d, wt)
 | some x => .inl (x, d, wt)
def goodP (ws : List Wd) (ts : List Tn) (wt : Int) (l : List Int) : Bool := decide (wt ≤ wtR ws l) && ts.all (keepP l)
theorem inW_append {ws : List Wd} {l : List Int} {w : Int} (h : inW ws l) (hw : 0 ≤ w ∧ w < ws.length) : inW ws (l ++ [w]) := fun x hx => by
 rcases List.mem_append.1 hx with hx | hx
 ·exact h x hx
 ·rw [List.mem_singleton] at hx; subst hx; exact hw
section
variable {N : Nat} {ws : List Wd} {ts : List Tn} {br_ : Int}
theorem cloneo_v {l : List Int} (h : l ≠ []) (hl : l.length ≤ 1000) : cloneo_S N l = some l := by
 unfold cloneo_S
 rw [grd_eq (by cases l <;> simp_all), lim_eq (by simp; omega)]; rfl
variable (hN : 110 ≤ N) (hF : TFine ws ts br_)
include hN hF
theorem choose_l1_p {wt : Int} {self : List Int → Int → Int → Tx → Int → Tx → Int → Option ((Tx × Int) ⊕ (List Int × Tx × Int))} {k : Nat}
  (hrec : ∀ (l' : List Int) (lo : Int), l' ≠ [] → l'.length + k ≤ 20 → inW ws l' → 0 ≤ lo → lo ≤ ws.length → ∃ r, self l' lo k (ws, ts, br_) wt (ws, ts, br_) wt = some (chO (ws, ts, br_) wt r) ∧ ChF ws.length (goodP ws ts wt) l' lo k r)
  {l : List Int} (hl : l ≠ []) (hk : l.length + (k + 1) ≤ 20) (hw : inW ws l) : ∀ (n : Nat) (w : Int), (ws.length + 1 - w).toNat < n → 0 ≤ w →
  w ≤ ws.length → ∃ r, choose_l1 N self n l ((k + 1 : Nat) : Int) (ws, ts, br_) w (ws, ts, br_) wt = some (chL (ws, ts, br_) wt r) ∧ ChF ws.length (goodP ws ts wt) l w (k + 1) r
 | 0, w, h, _, _ => by omega
 | n + 1, w, h, h0, h1 => by
  have hn := hF.n
  unfold choose_l1 end__S
  rw [chk_eq (by omega)]
  simp only [Option.bind_some]
  by_cases c : w + ((k + 1 : Nat) : Int) ≤ ws.length
  ·rw [br_dec c, cloneo_v hl (by omega)]
   simp only [Option.bind_some]
   rw [lim_eq (by simp; omega), chk_eq (by omega), chk_eq (by omega), show ((k + 1 : Nat) : Int) - 1 = k by omega]
   obtain ⟨r, e1, hr⟩ := hrec (l ++ [w]) (w + 1) (by simp) (by simp; omega) (inW_append hw (by omega)) (by omega) (by omega)
   rw [e1]
   cases r with
   | none =>
    obtain ⟨r2, e2, hr2⟩ := choose_l1_p hrec hl hk hw n (w + 1) (by omega) (by omega) (by omega)
    refine ⟨r2, ?_, ChF.step hr hr2⟩
    simp only [chO, Option.bind_some]
    rw [chk_eq (by omega), e2]
   | some x =>
    refine ⟨some x, ?_, hr.found (by omega)⟩
    simp only [chO, Option.bind_some]
    obtain ⟨c, _, _, e, _⟩ := hr
    rw [grd_eq (by rw [e]; simp)]; rfl
  ·rw [br_ndec c]
   exact ⟨none, rfl, ChF.past (by omega)⟩
theorem choose_v {wt : Int} : ∀ (k n : Nat) (l : List Int) (lo : Int), k < n → l ≠ [] → l.length + k ≤ 20 → inW ws l → 0 ≤ lo → lo ≤ ws.length →
  ∃ r, choose_R N n l lo k (ws, ts, br_) wt (ws, ts, br_) wt = some (chO (ws, ts, br_) wt r) ∧ ChF ws.length (goodP ws ts wt) l lo k r
 | k, 0, l, lo, h, _, _, _, _, _ => by omega
 | 0, n + 1, l, lo, h, hl, hk, hw, h0, h1 => by
  have hn := hF.n
  unfold choose_R choose_S
  rw [br_dec (by omega), weight_v hF (by omega) hN hw]
  simp only [Option.bind_some]
  have nil : ∀ c : List Int, c.length = 0 → c = [] := fun c h => List.eq_nil_of_length_eq_zero h
  by_cases c : wt ≤ wtR ws l
  ·rw [br_dec c, keeps_v hN hF (by omega)]
   simp only [Option.bind_some]
   cases hp : ts.all (keepP l)
   ·refine ⟨none, by rw [br_false]; rfl, fun c' h1 h2 => ?_⟩
    rw [nil c' h2, List.append_nil]
    unfold goodP; rw [hp, Bool.and_false]
   ·refine ⟨some l, by rw [br_true]; rfl, [], trivial, rfl, by simp, ?_, fun c' h1 h2 _ => ?_⟩
    ·unfold goodP; rw [hp, decide_eq_true c]; rfl
    ·rw [nil c' h2]; rfl
  ·refine ⟨none, by rw [br_ndec c]; rfl, fun c' h1 h2 => ?_⟩
   rw [nil c' h2, List.append_nil]
   unfold goodP; rw [decide_eq_false c]; rfl
 | k + 1, n + 1, l, lo, h, hl, hk, hw, h0, h1 => by
  have hn := hF.n
  unfold choose_R choose_S
  rw [br_ndec (by omega)]
  obtain ⟨r, e, hr⟩ := choose_l1_p hN hF (self := choose_R N n) (fun l' lo a b c d e => choose_v k n l' lo (by omega) a b c d e) hl hk hw N lo (by omega) h0 h1
  rw [e]
  refine ⟨r, ?_, hr⟩
  cases r <;> rfl
theorem choose0_l1_p {wt : Int} {k : Nat} (hk : k + 1 ≤ 20) : ∀ (n : Nat) (w : Int), (ws.length + 1 - w).toNat < n → 0 ≤ w →
  w ≤ ws.length → ∃ r, choose0_l1 N n ((k + 1 : Nat) : Int) (ws, ts, br_) w (ws, ts, br_) wt = some (chL (ws, ts, br_) wt r) ∧ ChF ws.length (goodP ws ts wt) [] w (k + 1) r
 | 0, w, h, _, _ => by omega
 | n + 1, w, h, h0, h1 => by
  have hn := hF.n
  unfold choose0_l1 end__S
  rw [chk_eq (by omega)]
  simp only [Option.bind_some]
  by_cases c : w + ((k + 1 : Nat) : Int) ≤ ws.length
  ·rw [br_dec c]
   unfold clonen_S
   simp only [Option.bind_some]
   rw [chk_eq (by omega), chk_eq (by omega), show ((k + 1 : Nat) : Int) - 1 = k by omega]
   obtain ⟨r, e1, hr⟩ := choose_v hN hF (wt := wt) k N [w] (w + 1) (by omega) (by simp) (by simp; omega) (fun x hx => by rw [List.mem_singleton] at hx; subst hx; omega) (by omega) (by omega)
   rw [e1]
   cases r with
   | none =>
    obtain ⟨r2, e2, hr2⟩ := choose0_l1_p hk n (w + 1) (by omega) (by omega) (by omega)
    refine ⟨r2, ?_, ChF.step (l := []) hr hr2⟩
    simp only [chO, Option.bind_some]
    rw [chk_eq (by omega), e2]
   | some x =>
    refine ⟨some x, ?_, ChF.found (l := []) (by omega) hr⟩
    simp only [chO, Option.bind_some]
    obtain ⟨c, _, _, e, _⟩ := hr
    rw [grd_eq (by rw [e]; simp)]; rfl
  ·rw [br_ndec c]
   exact ⟨none, rfl, ChF.past (by omega)⟩
theorem choose0_v {wt : Int} {k : Nat} (hk : k + 1 ≤ 20) : ∃ r, choose0_S N 0 ((k + 1 : Nat) : Int) (ws, ts, br_) wt (ws, ts, br_) wt = some (chO (ws, ts, br_) wt r) ∧ ChF ws.length (goodP ws ts wt) [] 0 (k + 1) r := by
 have hn := hF.n
 unfold choose0_S
 rw [br_ndec (by omega)]
 obtain ⟨r, e, hr⟩ := choose0_l1_p hN hF (wt := wt) hk N 0 (by omega) (by omega) (by omega)
 rw [e]
 refine ⟨r, ?_, hr⟩
 cases r <;> rfl
def LeastW (m : Int) (P : List Int → Bool) (l : List Int) : Prop := okC m 0 l ∧ l ≠ [] ∧ P l = true ∧ ∀ c, okC m 0 c → c ≠ [] → P c = true → l.length < c.length ∨ l.length = c.length ∧ bef c l = false
omit hN hF in
theorem least_up {m : Int} {P : List Int → Bool} {k : Nat} {x : List Int} (h : ∀ c, okC m 0 c → c ≠ [] → c.length ≤ k → P c = false) (hx : ChF m P [] 0 (k + 1) (some x)) : LeastW m P x := by
 obtain ⟨c, c1, c2, c3, c4, c5⟩ := hx
 rw [List.nil_append] at c3
 subst c3
 refine ⟨c1, by intro e; subst e; simp at c2, c4, fun c' d1 d2 d3 => ?_⟩
 rcases Nat.lt_trichotomy x.length c'.length with e | e | e
 ·exact .inl e
 ·exact .inr ⟨e, c5 c' d1 (by omega) d3⟩
 ·have := h c' d1 d2 (by omega)
  rw [d3] at this; cases this
theorem least_l1_p {wt : Int} : ∀ (n k : Nat), ws.length < n + k → k ≤ ws.length → (∀ c, okC ws.length 0 c → c ≠ [] → c.length ≤ k → goodP ws ts wt c = false) →
  ∃ r, least_l1 N n ws.length k (ws, ts, br_) wt = some r ∧ match r with
   | .inl l => LeastW ws.length (goodP ws ts wt) l
   | .inr _ => ∀ c, okC ws.length 0 c → c ≠ [] → goodP ws ts wt c = false
 | 0, k, h, hk, _ => by omega
 | n + 1, k, h, hk, hc => by
  have hn := hF.n
  unfold least_l1
  by_cases c : k < ws.length
  ·rw [br_dec (by omega), chk_eq (by omega), show (k : Int) + 1 = ((k + 1 : Nat) : Int) by omega]
   obtain ⟨r, e, hr⟩ := choose0_v hN hF (wt := wt) (k := k) (by omega)
   rw [e]
   cases r with
   | none =>
    obtain ⟨r2, e2, hr2⟩ := least_l1_p (wt := wt) n (k + 1) (by omega) (by omega) (fun c d1 d2 d3 => by
     by_cases d : c.length ≤ k
     ·exact hc c d1 d2 d
     ·have := hr c d1 (by omega)
      rwa [List.nil_append] at this)
    refine ⟨r2, ?_, hr2⟩
    simp only [chO, Option.bind_some]
    rw [chk_eq (by omega), e2]
   | some x =>
    have hx := least_up hc hr
    refine ⟨.inl x, ?_, hx⟩
    simp only [chO, Option.bind_some]
    rw [grd_eq (by have := hx.2.1; cases x <;> simp_all)]
  ·rw [br_ndec (by omega)]
   refine ⟨.inr (), rfl, fun c' d1 d2 => hc c' d1 d2 ?_⟩
   have := okC_len d1 d2
   omega
omit hN hF
def LeastQ (ws : List Wd) (ts : List Tn) (br_ wt : Int) (l : List Int) (e : Int) : Prop :=
 if checkT ws ts br_ ≠ 0 then l = [] ∧ e = checkT ws ts br_ else if wt < 0 then l = [] ∧ e = 3 else e = 0 ∧ LeastW ws.length (goodP ws ts wt) l ∨ (e = 6 ∧ l = []) ∧ ∀ c, okC ws.length 0 c → c ≠ [] → goodP ws ts wt c = false
theorem least_v (hN : 110 ≤ N) (hw : ws.length ≤ 1000000) (ht : ts.length ≤ 1000000) {wt : Int} : ∃ l e, least_S N ws ts br_ wt = some (l, e) ∧ LeastQ ws ts br_ wt l e := by
 unfold least_S
 rw [opened_v (by omega) hw ht]
 by_cases c : checkT ws ts br_ = 0
 ·have hF := tfine_of c
  have hn := hF.n
  have hq : ∀ l e, LeastQ ws ts br_ wt l e ↔ (if wt < 0 then l = [] ∧ e = 3 else e = 0 ∧ LeastW ws.length (goodP ws ts wt) l ∨ (e = 6 ∧ l = []) ∧ ∀ c, okC ws.length 0 c → c ≠ [] → goodP ws ts wt c = false) := fun l e => by
   unfold LeastQ
   rw [if_neg (by simpa using c)]
  simp only [hq]
  rw [if_pos c]
  simp only [Option.bind_some]
  rw [br_nd (by first | trivial | rfl)]
  by_cases d : wt < 0
  ·rw [br_dec d]
   simp only [if_pos d]
   exact ⟨_, _, rfl, rfl, rfl⟩
  ·rw [br_ndec d]
   simp only [if_neg d]
   unfold end__S
   simp only [Option.bind_some]
   obtain ⟨r, e, hr⟩ := least_l1_p hN hF (wt := wt) N 0 (by omega) (by omega) (fun c d1 d2 d3 => by
    cases c with
    | nil => exact absurd rfl d2
    | cons a r => simp at d3)
   simp only [Int.natCast_zero] at e
   rw [e]
   cases r with
   | inl l => exact ⟨_, _, rfl, .inl ⟨rfl, hr⟩⟩
   | inr u => exact ⟨_, _, rfl, .inr ⟨⟨rfl, rfl⟩, hr⟩⟩
 ·rw [if_neg c]
  simp only [Option.bind_some]
  rw [br_nnd c]
  refine ⟨_, _, rfl, ?_⟩
  unfold LeastQ
  rw [if_pos c]
  exact ⟨rfl, rfl⟩
end
def butL (m w : Int) : List Int := wordsL 0 w ++ wordsL (w + 1) m
theorem butL_len {m w : Int} (h : 0 ≤ w ∧ w < m) : ((butL m w).length : Int) = m - 1 := by
 unfold butL
 rw [List.length_append, wordsL_len, wordsL_len]
 omega
theorem wordsL_snoc {a b : Int} (h : a ≤ b) : wordsL a (b + 1) = wordsL a b ++ [b] := by
 unfold wordsL
 rw [show (b + 1 - a).toNat = (b - a).toNat + 1 by omega, List.range_succ, List.map_append, List.map_singleton]
 congr 2; omega
theorem wordsL_nil {a b : Int} (h : b ≤ a) : wordsL a b = [] := by
 unfold wordsL
 rw [show (b - a).toNat = 0 by omega]; rfl
def spareK (ws : List Wd) (ts : List Tn) (k : Nat) : List Int := ((List.range k).filter fun (w : Nat) => decide (1 < ws.length) && ts.all (keepP (butL ws.length (w : Int)))).map fun (w : Nat) => (w : Int)
theorem spareK_succ (ws : List Wd) (ts : List Tn) (k : Nat) : spareK ws ts (k + 1) = spareK ws ts k ++ (if (decide (1 < ws.length) && ts.all (keepP (butL ws.length (k : Int)))) = true then [(k : Int)] else []) := by
 unfold spareK
 rw [List.range_succ, List.filter_append, List.map_append]
 congr 1
 rw [List.filter_cons]
 split <;> simp
theorem spareK_len (ws : List Wd) (ts : List Tn) (k : Nat) : (spareK ws ts k).length ≤ k := by
 unfold spareK
 rw [List.length_map]
 exact Nat.le_trans (List.length_filter_le _ _) (by simp)
section
variable {N : Nat} {ws : List Wd} {ts : List Tn} {br_ : Int} (hN : 110 ≤ N) (hF : TFine ws ts br_)
include hN hF
theorem spare_l2_p {w : Nat} {u u2 : Int} {out : List Int} (hw : w < ws.length) : ∀ (n k : Nat), ws.length < n + k → k ≤ ws.length →
  spare_l2 N n (ws, ts, br_) w u u2 ws.length k out (wordsL 0 (min k w : Nat) ++ wordsL (w + 1) k) = some ((ws, ts, br_), (w : Int), u, u2, out, butL ws.length w)
 | 0, k, h, _ => by omega
 | n + 1, k, h, hk => by
  have hn := hF.n
  unfold spare_l2
  by_cases c : k < ws.length
  ·have ih := spare_l2_p (u := u) (u2 := u2) (out := out) hw n (k + 1) (by omega) (by omega)
   have hj : ∀ O, O = wordsL 0 (min (k + 1) w : Nat) ++ wordsL (w + 1) ((k : Int) + 1) → spare_j1 N (spare_l2 N n) (ws, ts, br_) w u u2 ws.length k out O = some ((ws, ts, br_), (w : Int), u, u2, out, butL ws.length w) := by
    rintro O rfl
    rw [show ((k + 1 : Nat) : Int) = (k : Int) + 1 by omega] at ih
    unfold spare_j1
    rw [chk_eq (by omega), ih]
   rw [br_dec (by omega)]
   by_cases d : (k : Int) = w
   ·rw [br_nd d, hj]
    rw [show min (k + 1) w = min k w by omega, wordsL_nil (a := (w : Int) + 1) (b := (k : Int)) (by omega), wordsL_nil (a := (w : Int) + 1) (b := (k : Int) + 1) (by omega)]
   ·rw [br_nnd d, lim_eq (by simp [wordsL_len]; omega), hj]
    by_cases e : k < w
    ·rw [show min (k + 1) w = k + 1 by omega, show min k w = k by omega, wordsL_nil (a := (w : Int) + 1) (b := (k : Int)) (by omega), wordsL_nil (a := (w : Int) + 1) (b := (k : Int) + 1) (by omega), show ((k + 1 : Nat) : Int) = (k : Int) + 1 by omega, wordsL_snoc (by omega)]; simp
    ·rw [show min (k + 1) w = w by omega, show min k w = w by omega, wordsL_snoc (a := (w : Int) + 1) (b := (k : Int)) (by omega)]; simp
  ·rw [br_ndec (by omega)]
   obtain rfl : k = ws.length := by omega
   rw [show min ws.length w = w by omega]; rfl
theorem spare_l1_p : ∀ (n k : Nat), ws.length < n + k → k ≤ ws.length → spare_l1 N n (ws, ts, br_) ws.length k (spareK ws ts k) = some (spareK ws ts ws.length)
 | 0, k, h, _ => by omega
 | n + 1, k, h, hk => by
  have hn := hF.n
  unfold spare_l1
  by_cases c : k < ws.length
  ·have ih := spare_l1_p n (k + 1) (by omega) (by omega)
   have hlen := spareK_len ws ts k
   have hb := butL_len (m := ws.length) (w := k) (by omega)
   have e := spare_l2_p hN hF (w := k) (u := ws.length) (u2 := k) (out := spareK ws ts k) c N 0 (by omega) (by omega)
   have hj : ∀ O, O = spareK ws ts (k + 1) → spare_j2 N (spare_l1 N n) (ws, ts, br_) ws.length k O = some (spareK ws ts ws.length) := by
    rintro O rfl
    rw [show ((k + 1 : Nat) : Int) = (k : Int) + 1 by omega] at ih
    unfold spare_j2
    rw [chk_eq (by omega), ih]
   rw [show min 0 k = 0 by omega, Int.natCast_zero, wordsL_nil (by omega), wordsL_nil (by omega), List.append_nil] at e
   rw [br_dec (by omega)]
   simp only
   rw [e]
   simp only [Option.bind_some]
   have es := spareK_succ ws ts k
   by_cases d : 1 < ws.length
   ·rw [br_dec (by omega), keeps_v hN hF (by omega)]
    simp only [Option.bind_some]
    rw [decide_eq_true d, Bool.true_and] at es
    cases hp : ts.all (keepP (butL ws.length k))
    ·rw [hp] at es
     rw [br_false, hj _ (by rw [es]; simp)]
    ·rw [hp] at es
     rw [br_true, lim_eq (by simp; omega), hj _ (by rw [es]; simp)]
   ·rw [decide_eq_false d, Bool.false_and] at es
    rw [br_ndec (by omega), hj _ (by rw [es]; simp)]
  ·obtain rfl : k = ws.length := by omega
   rw [br_ndec (by omega)]
omit hN hF
def spareR (ws : List Wd) (ts : List Tn) (br_ : Int) : List Int × Int := if checkT ws ts br_ ≠ 0 then ([], checkT ws ts br_) else (spareK ws ts ws.length, 0)
theorem spare_v (hN : 110 ≤ N) (hw : ws.length ≤ 1000000) (ht : ts.length ≤ 1000000) : spare_S N ws ts br_ = some (spareR ws ts br_) := by
 unfold spare_S spareR
 rw [opened_v (by omega) hw ht]
 by_cases c : checkT ws ts br_ = 0
 ·have hF := tfine_of c
  have hn := hF.n
  have e := spare_l1_p hN hF N 0 (by omega) (by omega)
  rw [if_pos c, if_neg (by simpa using c)]
  simp only [Option.bind_some]
  rw [br_nd (by first | trivial | rfl)]
  rw [show spareK ws ts 0 = [] from rfl] at e
  simp only [Int.natCast_zero] at e
  rw [e]; rfl
 ·rw [if_neg c, if_pos c]
  simp only [Option.bind_some]
  rw [br_nnd c]
theorem wordso_l1_p {a b : Int} (ha : -1000 ≤ a ∧ b ≤ 1000) : ∀ (n : Nat) (w : Int), (b - w).toNat < n → a ≤ w → w ≤ b → wordso_l1 N n b w (wordsL a w) = some (wordsL a b)
 | 0, w, h, _, _ => by omega
 | n + 1, w, h, h1, h2 => by
  unfold wordso_l1
  by_cases c : w < b
  ·have ih := wordso_l1_p ha n (w + 1) (by omega) (by omega) (by omega)
   rw [wordsL_snoc h1] at ih
   rw [br_dec c, lim_eq (by simp [wordsL_len]; omega), chk_eq (by omega), ih]
  ·rw [br_ndec c, show w = b by omega]
theorem wordso_v {a b : Int} (ha : -1000 ≤ a ∧ b ≤ 1000) (hab : a ≤ b) (hN : (b - a).toNat < N) : wordso_S N a b = some (wordsL a b) := by
 have e := wordso_l1_p (N := N) ha N a hN (by omega) hab
 rw [wordsL_nil (a := a) (b := a) (by omega)] at e
 unfold wordso_S
 rw [e]; rfl
include hN hF
theorem rspare_l1_p : ∀ (n k : Nat), ws.length < n + k → k ≤ ws.length → rspare_l1 N n k ws ts br_ (spareK ws ts k) = some (spareK ws ts ws.length)
 | 0, k, h, _ => by omega
 | n + 1, k, h, hk => by
  have hn := hF.n
  unfold rspare_l1
  by_cases c : k < ws.length
  ·have ih := rspare_l1_p n (k + 1) (by omega) (by omega)
   have hlen := spareK_len ws ts k
   have hb := butL_len (m := ws.length) (w := k) (by omega)
   have hj : ∀ O, O = spareK ws ts (k + 1) → rspare_j1 N (rspare_l1 N n) k ws ts br_ O = some (spareK ws ts ws.length) := by
    rintro O rfl
    rw [show ((k + 1 : Nat) : Int) = (k : Int) + 1 by omega] at ih
    unfold rspare_j1
    rw [chk_eq (by omega), ih]
   have es := spareK_succ ws ts k
   rw [br_dec (by omega)]
   by_cases d : 1 < ws.length
   ·obtain ⟨s, e1, _, e2⟩ := said_keep hN hF (l := butL ws.length k) (by omega)
    rw [br_dec (by omega), wordso_v (by omega) (by omega) (by omega)]
    simp only [Option.bind_some]
    rw [chk_eq (by omega), wordso_v (by omega) (by omega) (by omega)]
    simp only [Option.bind_some]
    unfold butL at e1
    rw [lim_eq (by rw [wordsL_len, wordsL_len]; omega), e1]
    simp only [Option.bind_some]
    rw [e2]
    rw [decide_eq_true d, Bool.true_and] at es
    cases hp : ts.all (keepP (butL ws.length k))
    ·rw [hp] at es
     rw [br_false, hj _ (by rw [es]; simp)]
    ·rw [hp] at es
     rw [br_true, lim_eq (by simp; omega), hj _ (by rw [es]; simp)]
   ·rw [br_ndec (by omega)]
    have : ∀ j, spareK ws ts j = [] := fun j => by
     unfold spareK
     rw [decide_eq_false d]
     simp
    rw [this, this]
  ·obtain rfl : k = ws.length := by omega
   rw [br_ndec (by omega)]
omit hN hF
theorem rspare_v (hN : 110 ≤ N) (hw : ws.length ≤ 1000000) (ht : ts.length ≤ 1000000) : rspare_S N ws ts br_ = some (spareR ws ts br_) := by
 unfold rspare_S spareR
 rw [rcheck_v (by omega) hw ht]
 simp only [Option.bind_some]
 by_cases c : checkT ws ts br_ = 0
 ·have hF := tfine_of c
  have hn := hF.n
  have e := rspare_l1_p hN hF N 0 (by omega) (by omega)
  rw [show spareK ws ts 0 = [] from rfl] at e
  simp only [Int.natCast_zero] at e
  rw [br_nd c, if_neg (by simpa using c), e]; rfl
 ·rw [br_nnd c, if_pos c]
end
end Go.Proofs.YtfamlpbdhhikdaaGreat

namespace Go.Proofs.YtfamlpbdhhikdaaGreat
set_option linter.all false
open Go

theorem bef_self : ∀ l : List Int, bef l l = false
 | [] => rfl
 | a :: l => by unfold bef; rw [if_pos rfl, bef_self l]
theorem bef_total : ∀ {a b : List Int}, a.length = b.length → bef a b = false → bef b a = false → a = b
 | [], [], _, _, _ => rfl
 | [], _ :: _, h, _, _ => by simp at h
 | _ :: _, [], h, _, _ => by simp at h
 | x :: a, y :: b, h, h1, h2 => by
  unfold bef at h1 h2
  by_cases e : x = y
  ·subst e
   rw [if_pos rfl] at h1 h2
   rw [bef_total (by simpa using h) h1 h2]
  ·rw [if_neg e, decide_eq_false_iff_not] at h1
   rw [if_neg (Ne.symm e), decide_eq_false_iff_not] at h2
   omega
theorem bef_trans : ∀ {a b c : List Int}, bef a b = true → bef b c = true → bef a c = true
 | [], _, _, h, _ => by simp [bef] at h
 | _ :: _, [], _, h, _ => by simp [bef] at h
 | _ :: _, _ :: _, [], _, h => by simp [bef] at h
 | x :: a, y :: b, z :: c, h1, h2 => by
  unfold bef at h1 h2 ⊢
  by_cases e : x = y
  ·subst e
   rw [if_pos rfl] at h1
   by_cases e2 : x = z
   ·subst e2
    rw [if_pos rfl] at h2 ⊢
    exact bef_trans h1 h2
   ·rw [if_neg e2] at h2 ⊢; exact h2
  ·rw [if_neg e, decide_eq_true_eq] at h1
   by_cases e2 : y = z
   ·subst e2
    rw [if_neg e, decide_eq_true_eq]; exact h1
   ·rw [if_neg e2, decide_eq_true_eq] at h2
    rw [if_neg (by omega), decide_eq_true_eq]; omega
def prec (a b : List Int) : Prop := a.length < b.length ∨ a.length = b.length ∧ bef a b = true
theorem prec_trans {a b c : List Int} : prec a b → prec b c → prec a c := by
 rintro (h | ⟨h, h2⟩) (g | ⟨g, g2⟩)
 ·exact .inl (by omega)
 ·exact .inl (by omega)
 ·exact .inl (by omega)
 ·exact .inr ⟨by omega, bef_trans h2 g2⟩
theorem prec_self (l : List Int) : ¬ prec l l := by
 rintro (h | ⟨_, h⟩)
 ·omega
 ·rw [bef_self] at h; cases h
theorem leastW_uniq {m : Int} {P : List Int → Bool} {a b : List Int} (ha : LeastW m P a) (hb : LeastW m P b) : a = b := by
 obtain ⟨a1, a2, a3, a4⟩ := ha
 obtain ⟨b1, b2, b3, b4⟩ := hb
 rcases a4 b b1 b2 b3 with h | ⟨h, h2⟩ <;> rcases b4 a a1 a2 a3 with g | ⟨g, g2⟩
 ·omega
 ·omega
 ·omega
 ·exact bef_total h g2 h2
def lst : Nat → Int → Nat → List Int
 | 0, _, _ => []
 | k + 1, w, n => (if n % 2 = 1 then [w] else []) ++ lst k (w + 1) (n / 2)
theorem lst_zero : ∀ (k : Nat) (w : Int), lst k w 0 = []
 | 0, _ => rfl
 | k + 1, w => by unfold lst; rw [if_neg (by decide), List.nil_append, Nat.zero_div, lst_zero k]
theorem lst_len : ∀ (k : Nat) (w : Int) (n : Nat), (lst k w n).length ≤ k
 | 0, _, _ => by simp [lst]
 | k + 1, w, n => by
  have := lst_len k (w + 1) (n / 2)
  unfold lst
  rw [List.length_append]
  split <;> simp <;> omega
theorem lst_ok : ∀ (k : Nat) (w : Int) (n : Nat), okC (w + k) w (lst k w n)
 | 0, _, _ => trivial
 | k + 1, w, n => by
  have := lst_ok k (w + 1) (n / 2)
  rw [show w + 1 + (k : Int) = w + ((k + 1 : Nat) : Int) by omega] at this
  unfold lst
  split
  ·exact ⟨by omega, this⟩
  ·exact okC_mono (by omega) this
theorem lst_all : ∀ (k : Nat) (w : Int) (c : List Int), okC (w + k) w c → ∃ n, n < 2 ^ k ∧ lst k w n = c
 | 0, w, c, h => by
  cases c with
  | nil => exact ⟨0, by decide, rfl⟩
  | cons a r => have := h.1; omega
 | k + 1, w, c, h => by
  have hp : 2 ^ (k + 1) = 2 * 2 ^ k := by rw [Nat.pow_succ]; omega
  have e : w + ((k + 1 : Nat) : Int) = w + 1 + (k : Int) := by omega
  rw [e] at h
  by_cases d : ∃ r, c = w :: r
  ·obtain ⟨r, rfl⟩ := d
   obtain ⟨n, h1, h2⟩ := lst_all k (w + 1) r h.2
   refine ⟨2 * n + 1, by omega, ?_⟩
   unfold lst
   rw [if_pos (by omega), show (2 * n + 1) / 2 = n by omega, h2]; rfl
  ·have h' : okC (w + 1 + (k : Int)) (w + 1) c := by
    cases c with
    | nil => trivial
    | cons a r =>
     have : a ≠ w := fun ha => d ⟨r, by rw [ha]⟩
     obtain ⟨⟨h1, h2⟩, h3⟩ := h
     exact ⟨⟨by omega, h2⟩, h3⟩
   obtain ⟨n, h1, h2⟩ := lst_all k (w + 1) c h'
   refine ⟨2 * n, by omega, ?_⟩
   unfold lst
   rw [if_neg (by omega), show (2 * n) / 2 = n by omega, h2]; rfl
theorem lst_ne {k : Nat} {w : Int} {n : Nat} (h : n < 2 ^ k) (h0 : n ≠ 0) : lst k w n ≠ [] := by
 induction k generalizing w n with
 | zero => simp at h; omega
 | succ k ih =>
  have hp : 2 ^ (k + 1) = 2 * 2 ^ k := by rw [Nat.pow_succ]; omega
  unfold lst
  split
  ·simp
  ·rw [List.nil_append]
   exact ih (by omega) (by omega)
section
variable {N : Nat} {ws : List Wd} {ts : List Tn} {br_ : Int}
theorem list_l1_p : ∀ (k f n : Nat) (w : Int) (out : List Int), n < 2 ^ k → k < f → k ≤ 20 → 0 ≤ w ∧ w + k ≤ 1000 → out.length + k ≤ 1000 → list__l1 N f n w out = some (out ++ lst k w n)
 | _, 0, _, _, _, _, h, _, _, _ => by omega
 | 0, f + 1, n, w, out, h, _, _, _, _ => by
  have : n = 0 := by simpa using h
  subst this
  unfold list__l1
  rw [br_ndec (by simp)]; simp [lst]
 | k + 1, f + 1, n, w, out, h, h1, h2, h3, h4 => by
  have hp : 2 ^ (k + 1) = 2 * 2 ^ k := by rw [Nat.pow_succ]; omega
  have hp2 : 2 ^ k ≤ 2 ^ 20 := Nat.pow_le_pow_right (by decide) (by omega)
  unfold list__l1
  by_cases c : 0 < n
  ·have hj : ∀ O : List Int, O.length + k ≤ 1000 → list__j1 N (list__l1 N f) n w O = some (O ++ lst k (w + 1) (n / 2)) := by
    intro O hO
    have ih := list_l1_p k f (n / 2) (w + 1) O (by omega) (by omega) (by omega) (by omega) hO
    unfold list__j1
    rw [chk_eq (by omega), Int.tdiv_eq_ediv_of_nonneg (by omega), IntWalk.i64_in _ (by omega)]
    rw [show (n : Int) / 2 = ((n / 2 : Nat) : Int) by omega, ih]
   rw [br_dec (by omega), Int.tmod_eq_emod_of_nonneg (by omega)]
   unfold lst
   by_cases d : n % 2 = 1
   ·rw [br_dec (by omega), lim_eq (by simp; omega), hj _ (by simp; omega), if_pos d]; simp
   ·rw [br_ndec (by omega), hj _ (by omega), if_neg d]; simp
  ·obtain rfl : n = 0 := by omega
   rw [br_ndec (by simp), lst_zero]; simp
theorem list_v {k n : Nat} (h : n < 2 ^ k) (hk : k ≤ 20) (hN : k < N) : list__S N n = some (lst k 0 n) := by
 unfold list__S
 rw [list_l1_p k N n 0 [] h hN hk (by omega) (by simp; omega)]; rfl
theorem lists_l1_p (hw : ws.length ≤ 12) : ∀ (f i : Nat), ws.length < f + i → i ≤ ws.length → lists_l1 N f ((2 ^ i : Nat) : Int) i ws ts br_ = some ((2 ^ ws.length : Nat) : Int)
 | 0, i, h, _ => by omega
 | f + 1, i, h, hi => by
  unfold lists_l1
  by_cases c : i < ws.length
  ·have ih := lists_l1_p hw f (i + 1) (by omega) (by omega)
   have hp : 2 ^ (i + 1) = 2 * 2 ^ i := by rw [Nat.pow_succ]; omega
   have hp2 : 2 ^ i ≤ 2 ^ 12 := Nat.pow_le_pow_right (by decide) (by omega)
   rw [show (2 : Int) * ((2 ^ i : Nat) : Int) = ((2 ^ (i + 1) : Nat) : Int) by rw [hp]; omega, br_dec (by omega), chk_eq (by omega), chk_eq (by omega)]
   rw [show ((i + 1 : Nat) : Int) = (i : Int) + 1 by omega] at ih
   exact ih
  ·obtain rfl : i = ws.length := by omega
   rw [br_ndec (by omega)]
theorem lists_v (hw : ws.length ≤ 12) (hN : 110 ≤ N) : lists_S N ws ts br_ = some ((2 ^ ws.length : Nat) : Int) := by
 have e := lists_l1_p (N := N) (ts := ts) (br_ := br_) hw N 0 (by omega) (by omega)
 simp only [Int.natCast_zero, Nat.pow_zero, Int.natCast_one] at e
 unfold lists_S
 rw [e]; rfl
theorem before_l1_p {a b : List Int} (hab : a.length = b.length) (ha : a.length ≤ 1000) : ∀ (n k : Nat), a.length < n + k → k ≤ a.length → ∃ r, before_l1 N n a b k = some r ∧ match r with
  | .inl x => x.1 = a ∧ x.2.1 = b ∧ ∃ j : Nat, x.2.2 = j ∧ j < a.length ∧ bef (a.drop k) (b.drop k) = decide (a.getD j 0 < b.getD j 0)
  | .inr _ => bef (a.drop k) (b.drop k) = false
 | 0, k, h, _ => by omega
 | n + 1, k, h, hk => by
  unfold before_l1
  by_cases c : k < a.length
  ·have g1 := gets c 0
   have g2 := gets (l := b) (k := k) (by omega) 0
   rw [br_dec (by omega), idx_eq (by omega) g1, idx_eq (by omega) g2, drop_cons c 0, drop_cons (l := b) (k := k) (by omega) 0]
   unfold bef
   by_cases d : a.getD k 0 = b.getD k 0
   ·obtain ⟨r, e, hr⟩ := before_l1_p hab ha n (k + 1) (by omega) (by omega)
    rw [show ((k + 1 : Nat) : Int) = (k : Int) + 1 by omega] at e
    rw [br_nd d, chk_eq (by omega), e, if_pos d]
    exact ⟨r, rfl, hr⟩
   ·rw [br_nnd d, if_neg d]
    exact ⟨_, rfl, rfl, rfl, k, rfl, c, rfl⟩
  ·rw [br_ndec (by omega), List.drop_of_length_le (by omega)]
   exact ⟨_, rfl, rfl⟩
theorem before_v {a b : List Int} (hab : a.length = b.length) (ha : a.length ≤ 1000) (hN : a.length < N) : before_S N a b = some (bef a b) := by
 obtain ⟨r, e, hr⟩ := before_l1_p (N := N) hab ha N 0 (by omega) (by omega)
 simp only [Int.natCast_zero] at e
 unfold before_S
 rw [e]
 simp only [Option.bind_some]
 cases r with
 | inl x =>
  obtain ⟨x1, x2, x3⟩ := x
  obtain ⟨rfl, rfl, j, rfl, hj, e2⟩ := hr
  simp only [List.drop_zero] at e2
  simp only
  have hab' : x1.length = x2.length := hab
  have hj' : j < x1.length := hj
  have e2' : bef x1 x2 = decide (x1.getD j 0 < x2.getD j 0) := e2
  rw [idx_eq (by omega) (gets hj' 0), idx_eq (by omega) (gets (l := x2) (k := j) (by omega) 0), e2']
 | inr u =>
  simp only [List.drop_zero] at hr
  rw [hr]
def BestI (m : Nat) (P : List Int → Bool) (k : Nat) (best : List Int) : Prop :=
 best = [] ∧ (∀ i, 1 ≤ i → i < k → P (lst m 0 i) = false) ∨ (okC m 0 best ∧ best ≠ [] ∧ P best = true) ∧ ∀ i, 1 ≤ i → i < k → P (lst m 0 i) = true → ¬ prec (lst m 0 i) best
theorem BestI.skip {m : Nat} {P : List Int → Bool} {k : Nat} {best : List Int} (h : BestI m P k best) (hp : P (lst m 0 k) = false) : BestI m P (k + 1) best := by
 rcases h with ⟨h1, h2⟩ | ⟨h1, h2⟩
 ·refine .inl ⟨h1, fun i a b => ?_⟩
  by_cases e : i = k
  ·rw [e]; exact hp
  ·exact h2 i a (by omega)
 ·refine .inr ⟨h1, fun i a b c => ?_⟩
  by_cases e : i = k
  ·rw [e, hp] at c; cases c
  ·exact h2 i a (by omega) c
theorem BestI.keep {m : Nat} {P : List Int → Bool} {k : Nat} {best : List Int} (h : BestI m P k best) (hb : best ≠ []) (hp : ¬ prec (lst m 0 k) best) : BestI m P (k + 1) best := by
 rcases h with ⟨h1, h2⟩ | ⟨h1, h2⟩
 ·exact absurd h1 hb
 ·refine .inr ⟨h1, fun i a b c => ?_⟩
  by_cases e : i = k
  ·rw [e]; exact hp
  ·exact h2 i a (by omega) c
theorem BestI.take {m : Nat} {P : List Int → Bool} {k : Nat} {best : List Int} (h : BestI m P k best) (hk : 1 ≤ k ∧ k < 2 ^ m) (hp : P (lst m 0 k) = true) (hb : best = [] ∨ prec (lst m 0 k) best) : BestI m P (k + 1) (lst m 0 k) := by
 have ho := lst_ok m 0 k
 rw [Int.zero_add] at ho
 refine .inr ⟨⟨ho, lst_ne hk.2 (by omega), hp⟩, fun i a b c => ?_⟩
 by_cases e : i = k
 ·rw [e]; exact prec_self _
 ·rcases h with ⟨h1, h2⟩ | ⟨h1, h2⟩
  ·rw [h2 i a (by omega)] at c; cases c
  ·rcases hb with hb | hb
   ·exact absurd hb h1.2.1
   ·exact fun hpr => h2 i a (by omega) c (prec_trans hpr hb)
theorem BestI.done {m : Nat} {P : List Int → Bool} {best : List Int} (h : BestI m P (2 ^ m) best) : best ≠ [] ∧ LeastW m P best ∨ best = [] ∧ ∀ c, okC m 0 c → c ≠ [] → P c = false := by
 have key : ∀ c, okC (m : Int) 0 c → c ≠ [] → ∃ i, 1 ≤ i ∧ i < 2 ^ m ∧ lst m 0 i = c := by
  intro c hc hn
  obtain ⟨n, h1, h2⟩ := lst_all m 0 c (by rw [Int.zero_add]; exact hc)
  refine ⟨n, ?_, h1, h2⟩
  rcases Nat.eq_zero_or_pos n with e | e
  ·subst e; rw [lst_zero] at h2; exact absurd h2.symm hn
  ·exact e
 rcases h with ⟨h1, h2⟩ | ⟨⟨h1, h3, h4⟩, h2⟩
 ·refine .inr ⟨h1, fun c hc hn => ?_⟩
  obtain ⟨i, a, b, rfl⟩ := key c hc hn
  exact h2 i a b
 ·refine .inl ⟨h3, h1, h3, h4, fun c hc hn hp => ?_⟩
  obtain ⟨i, a, b, rfl⟩ := key c hc hn
  have := h2 i a b hp
  unfold prec at this
  rcases Nat.lt_trichotomy best.length (lst m 0 i).length with e | e | e
  ·exact .inl e
  ·refine .inr ⟨e, ?_⟩
   cases hb : bef (lst m 0 i) best
   ·rfl
   ·exact absurd (.inr ⟨e.symm, hb⟩) this
  ·exact absurd (.inl e) this
variable (hN : 110 ≤ N) (hF : TFine ws ts br_)
include hN hF
theorem rleast_l1_p {wt : Int} : ∀ (n k : Nat) (best : List Int), 2 ^ ws.length < n + k → 1 ≤ k → k ≤ 2 ^ ws.length → BestI ws.length (goodP ws ts wt) k best → best.length ≤ 20 →
  ∃ b, rleast_l1 N n wt best k ws ts br_ = some b ∧ b.length ≤ 20 ∧ BestI ws.length (goodP ws ts wt) (2 ^ ws.length) b
 | 0, k, best, h, _, _, _, _ => by omega
 | n + 1, k, best, h, hk, hk2, hb, hbl => by
  have hn := hF.n
  have hp2 : 2 ^ ws.length ≤ 2 ^ 12 := Nat.pow_le_pow_right (by decide) (by omega)
  unfold rleast_l1
  rw [lists_v (by omega) hN]
  simp only [Option.bind_some]
  by_cases c : k < 2 ^ ws.length
  ·have hll := lst_len ws.length 0 k
   have hlo := lst_ok ws.length 0 k
   rw [Int.zero_add] at hlo
   have hlm := okC_mem hlo
   have hj : ∀ best' : List Int, BestI ws.length (goodP ws ts wt) (k + 1) best' → best'.length ≤ 20 → ∃ b, rleast_j1 N (rleast_l1 N n) wt best' k ws ts br_ = some b ∧ b.length ≤ 20 ∧ BestI ws.length (goodP ws ts wt) (2 ^ ws.length) b := by
    intro best' h1 h2
    obtain ⟨b, e, hb⟩ := rleast_l1_p (wt := wt) n (k + 1) best' (by omega) (by omega) (by omega) h1 h2
    rw [show ((k + 1 : Nat) : Int) = (k : Int) + 1 by omega] at e
    unfold rleast_j1
    rw [chk_eq (by omega), e]
    exact ⟨b, rfl, hb⟩
   obtain ⟨s, e1, _, e2⟩ := said_keep hN hF (l := lst ws.length 0 k) (by omega)
   rw [br_dec (by omega), list_v c (by omega) (by omega)]
   simp only [Option.bind_some]
   rw [e1]
   simp only [Option.bind_some]
   cases hp : ts.all (keepP (lst ws.length 0 k))
   ·rw [hp, decide_eq_false_iff_not] at e2
    rw [br_dec (by omega)]
    exact hj best (hb.skip (by unfold goodP; rw [hp, Bool.and_false])) hbl
   rw [hp, decide_eq_true_eq] at e2
   rw [br_ndec (by omega), rweight_v hF (by omega) hN hlm]
   simp only [Option.bind_some]
   by_cases d : wtR ws (lst ws.length 0 k) < wt
   ·rw [br_dec d]
    exact hj best (hb.skip (by unfold goodP; rw [decide_eq_false (by omega), Bool.false_and])) hbl
   have hg : goodP ws ts wt (lst ws.length 0 k) = true := by unfold goodP; rw [hp, decide_eq_true (by omega)]; rfl
   rw [br_ndec d]
   by_cases d1 : (best.length : Int) = 0
   ·rw [br_dec d1]
    exact hj _ (hb.take ⟨hk, c⟩ hg (.inl (List.eq_nil_of_length_eq_zero (by omega)))) (by omega)
   have hbn : best ≠ [] := by intro e; subst e; simp at d1
   rw [br_ndec d1]
   by_cases d2 : ((lst ws.length 0 k).length : Int) < (best.length : Int)
   ·rw [br_dec d2]
    exact hj _ (hb.take ⟨hk, c⟩ hg (.inr (.inl (by omega)))) (by omega)
   rw [br_ndec d2]
   by_cases d3 : ((lst ws.length 0 k).length : Int) = (best.length : Int)
   ·rw [br_dec d3, before_v (by omega) (by omega) (by omega)]
    simp only [Option.bind_some]
    cases hbf : bef (lst ws.length 0 k) best
    ·rw [br_false]
     refine hj _ (hb.keep hbn ?_) hbl
     rintro (h | ⟨_, h⟩)
     ·omega
     ·rw [hbf] at h; cases h
    ·rw [br_true]
     exact hj _ (hb.take ⟨hk, c⟩ hg (.inr (.inr ⟨by omega, hbf⟩))) (by omega)
   ·rw [br_ndec d3]
    refine hj _ (hb.keep hbn ?_) hbl
    rintro (h | ⟨h, _⟩) <;> omega
  ·obtain rfl : k = 2 ^ ws.length := by omega
   rw [br_ndec (by omega)]
   exact ⟨best, rfl, hbl, hb⟩
omit hN hF
theorem rleast_v (hN : 110 ≤ N) (hw : ws.length ≤ 1000000) (ht : ts.length ≤ 1000000) {wt : Int} (hp : checkT ws ts br_ = 0 → 2 ^ ws.length < N) : ∃ l e, rleast_S N ws ts br_ wt = some (l, e) ∧ LeastQ ws ts br_ wt l e := by
 unfold rleast_S
 rw [rcheck_v (by omega) hw ht]
 simp only [Option.bind_some]
 by_cases c : checkT ws ts br_ = 0
 ·have hF := tfine_of c
  have hn := hF.n
  have hpos : 1 ≤ 2 ^ ws.length := Nat.one_le_two_pow
  have hq : ∀ l e, LeastQ ws ts br_ wt l e ↔ (if wt < 0 then l = [] ∧ e = 3 else e = 0 ∧ LeastW ws.length (goodP ws ts wt) l ∨ (e = 6 ∧ l = []) ∧ ∀ c, okC ws.length 0 c → c ≠ [] → goodP ws ts wt c = false) := fun l e => by
   unfold LeastQ
   rw [if_neg (by simpa using c)]
  simp only [hq]
  rw [br_nd c]
  by_cases d : wt < 0
  ·rw [br_dec d]
   simp only [if_pos d]
   exact ⟨_, _, rfl, rfl, rfl⟩
  ·rw [br_ndec d]
   simp only [if_neg d]
   have := hp c
   obtain ⟨b, e, hb1, hb⟩ := rleast_l1_p hN hF (wt := wt) N 1 [] (by omega) (by omega) hpos (.inl ⟨rfl, fun i a b => by omega⟩) (by simp)
   simp only [Int.natCast_one] at e
   rw [e]
   simp only [Option.bind_some]
   rcases hb.done with ⟨h1, h2⟩ | ⟨h1, h2⟩
   ·rw [br_ndec (by intro h0; exact h1 (List.eq_nil_of_length_eq_zero (by omega)))]
    exact ⟨_, _, rfl, .inl ⟨rfl, h2⟩⟩
   ·subst h1
    rw [br_dec (by simp)]
    exact ⟨_, _, rfl, .inr ⟨⟨rfl, rfl⟩, h2⟩⟩
 ·rw [br_nnd c]
  refine ⟨_, _, rfl, ?_⟩
  unfold LeastQ
  rw [if_pos c]
  exact ⟨rfl, rfl⟩
end
theorem spareR_len (ws : List Wd) (ts : List Tn) (br_ : Int) : (spareR ws ts br_).1.length ≤ ws.length := by
 unfold spareR
 split
 ·simp
 ·exact spareK_len ws ts _
theorem tleast_true {ws : List Wd} {ts : List Tn} {br_ wt : Int} (h0 : Ty.inB TextT (ws, ts, br_)) (h1 : Ty.inB (.int .i64) wt) : tleast_S 1100 ws ts br_ wt = some true := by
 unfold tleast_S
 have aw : ((awake_S 1100).bind fun x => some x) = some true := by rw [awake_v]; rfl
 rcases great_v (N := 1100) (ws := ws) (ts := ts) (br_ := br_) 10 with e | ⟨e, hw, ht, h10⟩ <;> rw [e] <;> simp only [Option.bind_some]
 ·rw [br_true]; exact aw
 rw [br_false, copyx_v (by omega) (by omega)]
 simp only [Option.bind_some]
 rw [theirs_v (by omega) (by omega) (by omega) (by omega)]
 simp only [Option.bind_some]
 obtain ⟨l, e1, q1, r1⟩ := least_v (N := 1100) (ws := ws) (ts := ts) (br_ := br_) (wt := wt) (by omega) (by omega) (by omega)
 obtain ⟨l2, e2, q2, r2⟩ := rleast_v (N := 1100) (ws := ws) (ts := ts) (br_ := br_) (wt := wt) (by omega) (by omega) (by omega) (fun c => by
  have := (tfine_of c).n
  have hp2 : 2 ^ ws.length ≤ 2 ^ 10 := Nat.pow_le_pow_right (by decide) (by omega)
  omega)
 have key : l2 = l ∧ e2 = e1 ∧ l.length ≤ 100 := by
  unfold LeastQ at r1 r2
  split at r1
  ·rename_i c
   rw [if_pos c] at r2
   rw [r1.1, r1.2, r2.1, r2.2]; exact ⟨rfl, rfl, by simp⟩
  rename_i c
  have hn := (tfine_of (by simpa using c)).n
  rw [if_neg c] at r2
  split at r1
  ·rename_i d
   rw [if_pos d] at r2
   rw [r1.1, r1.2, r2.1, r2.2]; exact ⟨rfl, rfl, by simp⟩
  rename_i d
  rw [if_neg d] at r2
  rcases r1 with ⟨a1, a2⟩ | ⟨⟨a1, a2⟩, a3⟩ <;> rcases r2 with ⟨b1, b2⟩ | ⟨⟨b1, b2⟩, b3⟩
  ·refine ⟨leastW_uniq b2 a2, by omega, ?_⟩
   have := okC_len a2.1 a2.2.1
   omega
  ·have := b3 l a2.1 a2.2.1
   rw [a2.2.2.1] at this; cases this
  ·have := a3 l2 b2.1 b2.2.1
   rw [b2.2.2.1] at this; cases this
  ·rw [a1, a2, b1, b2]; exact ⟨rfl, rfl, by simp⟩
 obtain ⟨k1, k2, k3⟩ := key
 subst k1; subst k2
 have hsl := spareR_len ws ts br_
 rw [q1]
 simp only [Option.bind_some]
 rw [q2]
 simp only [Option.bind_some]
 rw [br_nd (by first | trivial | rfl), likei_v (by omega) (by omega)]
 simp only [Option.bind_some]
 rw [Bool.not_true, br_false, spare_v (by omega) (by omega) (by omega), rspare_v (by omega) (by omega) (by omega)]
 simp only [Option.bind_some]
 rw [br_dec (by first | trivial | rfl), likei_v (by omega) (by omega)]
 simp only [Option.bind_some]
 rw [br_true, same_v (by omega) (by omega) (by omega) (by omega)]
 simp only [Option.bind_some]
 rw [br_true]; exact aw
end Go.Proofs.YtfamlpbdhhikdaaGreat

namespace Go.Proofs.YtfamlpbdhhikdaaGreat
set_option linter.all false
open Go

def pick (l k : List Int) : List Int := k.map fun i => l.getD i.toNat 0
section
variable {ws : List Wd} {ts : List Tn} {br_ : Int} {l : List Int} (hl : ascB l = true) (hw : inW ws l)
include hl hw
omit hw
omit hl
include hl
omit hl
end
end Go.Proofs.YtfamlpbdhhikdaaGreat

namespace Go.Proofs.YtfamlpbdhhikdaaGreat
set_option linter.all false
open Go

section
variable {N : Nat} {ws : List Wd} {ts : List Tn} {br_ : Int} (hN : 110 ≤ N) {b : List Int}
include hN
omit hN
end
end Go.Proofs.YtfamlpbdhhikdaaGreat

namespace Go.Proofs.YtfamlpbdhhikdaaGreat
set_option linter.all false
open Go

section
variable {N : Nat}
variable {ws : List Wd} {ts : List Tn} {br_ : Int} {b : List Int}
end
end Go.Proofs.YtfamlpbdhhikdaaGreat

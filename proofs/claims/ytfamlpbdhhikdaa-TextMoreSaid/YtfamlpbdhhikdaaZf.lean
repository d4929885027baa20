/-
  Parts of a proof, put together: TG, TP1, TIt, X2, X3, TAw, TP2.
  Conditions: none.
-/
import Derived.Test.YtfamlpbdhhikdaaZd
import Derived.Test.YtfamlpbdhhikdaaZe
namespace Go.Proofs.Ytfamlpbdhhikdaa
set_option linter.all false
open Go

/-- A run ends well, with a result of which Q speaks. -/
def Ok {α : Type} (o : Option α) (Q : α → Prop) : Prop := ∃ x, o = some x ∧ Q x
section
variable {α β Z : Type} {Q : Z → Prop} {x y : Option Z}
theorem Ok.some {z : Z} (h : Q z) : Ok (some z) Q := ⟨z, rfl, h⟩
theorem Ok.bind {o : Option α} {P : α → Prop} {f : α → Option Z} (h : Ok o P) (k : ∀ a, P a → Ok (f a) Q) : Ok (o.bind f) Q := by
  obtain ⟨a, rfl, ha⟩ := h
  exact k a ha
theorem Ok.eqb {o : Option α} {a : α} {f : α → Option Z} (h : o = Option.some a) (k : Ok (f a) Q) : Ok (o.bind f) Q := by subst h; exact k
theorem Ok.mono {P : Z → Prop} (h : Ok x P) (k : ∀ a, P a → Q a) : Ok x Q := let ⟨a, e, p⟩ := h; ⟨a, e, k a p⟩
theorem Ok.br {c : Bool} (h1 : c = true → Ok x Q) (h2 : c = false → Ok y Q) : Ok (br c x y) Q := by
  cases c
  · exact h2 rfl
  · exact h1 rfl
theorem Ok.brd {p : Prop} [Decidable p] (h1 : p → Ok x Q) (h2 : ¬ p → Ok y Q) : Ok (Proofs.Ytfamlpbdhhikdaa.br (decide p) x y) Q := by
  by_cases h : p
  · simpa [h, Proofs.Ytfamlpbdhhikdaa.br] using h1 h
  · simpa [h, Proofs.Ytfamlpbdhhikdaa.br] using h2 h
theorem chk_eq {n : Int} (hn : -9223372036854775808 ≤ n ∧ n ≤ 9223372036854775807) : chk n x = x := by unfold chk; rw [okI_iff.2 hn]
theorem Ok.chk {n : Int} (hn : -9223372036854775808 ≤ n ∧ n ≤ 9223372036854775807) (h : Ok x Q) : Ok (chk n x) Q := by rw [chk_eq hn]; exact h
theorem grd_eq {c : Bool} (hc : c = true) : grd c x = x := by subst hc; rfl
theorem Ok.grd {c : Bool} (hc : c = true) (h : Ok x Q) : Ok (grd c x) Q := by subst hc; exact h
theorem rng_eq {i : Int} {n : Nat} (hi : 0 ≤ i ∧ i < n) : rng i n x = x := by unfold rng; rw [if_pos hi]
theorem Ok.rng {i : Int} {n : Nat} (hi : 0 ≤ i ∧ i < n) (h : Ok x Q) : Ok (rng i n x) Q := by rw [rng_eq hi]; exact h
theorem lim_eq {n : Nat} (hn : n ≤ 1000000) : lim n x = x := by unfold lim; rw [if_pos hn]
theorem Ok.lim {n : Nat} (hn : n ≤ 1000000) (h : Ok x Q) : Ok (lim n x) Q := by rw [lim_eq hn]; exact h
theorem idx_eq {l : List α} {i : Int} {f : α → Option Z} {a : α} (h0 : 0 ≤ i) (h : l[i.toNat]? = Option.some a) : idx l i f = f a := by unfold idx; rw [if_pos h0, h]
theorem Ok.idx {l : List α} {i : Int} {f : α → Option Z} (h0 : 0 ≤ i) (h : i < l.length) (k : ∀ a, l[i.toNat]? = Option.some a → a ∈ l → Ok (f a) Q) : Ok (idx l i f) Q := by
  have hlt : i.toNat < l.length := by omega
  have e : l[i.toNat]? = Option.some l[i.toNat] := List.getElem?_eq_getElem hlt
  rw [idx_eq h0 e]
  exact k _ e (List.getElem_mem hlt)
theorem get_eq {l : List α} {k : Nat} {f : α → Option Z} {a : α} (h : l[k]? = Option.some a) : get l k f = f a := by unfold get; rw [h]
theorem get_get {l : List α} {k : Nat} {f : α → Option Z} (d : α) (h : k < l.length) : get l k f = f (l.getD k d) := get_eq (by simp [List.getD, h])
theorem Ok.get {l : List α} {k : Nat} {f : α → Option Z} (h : k < l.length) (c : ∀ a, l[k]? = Option.some a → a ∈ l → Ok (f a) Q) : Ok (get l k f) Q := by
  have e : l[k]? = Option.some l[k] := List.getElem?_eq_getElem h
  rw [get_eq e]
  exact c _ e (List.getElem_mem h)
theorem br_true : br true x y = x := rfl
theorem br_false : br false x y = y := rfl
theorem br_dec {p : Prop} [Decidable p] (h : p) : br (decide p) x y = x := by simp [h, br]
theorem br_ndec {p : Prop} [Decidable p] (h : ¬ p) : br (decide p) x y = y := by simp [h, br]
theorem br_nd {p : Prop} [Decidable p] (h : p) : br (!decide p) x y = y := by simp [h, br]
theorem br_nnd {p : Prop} [Decidable p] (h : ¬ p) : br (!decide p) x y = x := by simp [h, br]
theorem bind_eq {o : Option α} {a : α} {f : α → Option Z} (h : o = Option.some a) : o.bind f = f a := by subst h; rfl
end
/-- A list of numbers from lo to hi. -/
def InR (lo hi : Int) (l : List Int) : Prop := ∀ x ∈ l, lo ≤ x ∧ x ≤ hi
theorem InR.append {lo hi : Int} {l : List Int} (h : InR lo hi l) {x : Int} (hx : lo ≤ x ∧ x ≤ hi) : InR lo hi (l ++ [x]) := by
  intro y hy
  rcases List.mem_append.1 hy with hy | hy
  · exact h y hy
  · simp at hy; subst hy; exact hx
theorem InR.drop {lo hi : Int} {l : List Int} (h : InR lo hi l) (n : Nat) : InR lo hi (l.drop n) := fun x hx => h x (List.mem_of_mem_drop hx)
theorem InR.nil {lo hi : Int} : InR lo hi [] := fun _ h => by cases h
theorem InR.mono {lo hi lo' hi' : Int} {l : List Int} (h : InR lo hi l) (h1 : lo' ≤ lo) (h2 : hi ≤ hi') : InR lo' hi' l := fun x hx => by have := h x hx; omega

/-! ### The first element that is so -/
def ixL {α : Type} (f : α → Option Bool) : Nat → List α → Int → Int → Option (Int ⊕ Unit)
  | 0, _, _, _ => none
  | n + 1, s, u, u2 => br (decide (u2 < u)) (idx s u2 fun x => (f x).bind fun c => br c (some (.inl u2)) (chk (u2 + 1) <| ixL f n s u (u2 + 1))) (some (.inr ()))
def ixS {α : Type} (f : α → Option Bool) (N : Nat) (s : List α) : Option Int := (ixL f N s (s.length : Int) 0).bind fun e => match e with
  | .inl i => some i
  | .inr _ => some (-1)
theorem ixL_ok {α : Type} {f : α → Option Bool} {p : α → Bool} {s : List α} (hf : ∀ x ∈ s, f x = some (p x)) (hs : s.length ≤ 1000000) : ∀ (n k : Nat), s.length < n + k → k ≤ s.length →
    Ok (ixL f n s (s.length : Int) (k : Int)) fun r => match r with | .inl i => (0 ≤ i ∧ i < s.length) ∧ (s.drop k).any p = true | .inr _ => (s.drop k).any p = false
  | 0, k, h, hk => by omega
  | n + 1, k, h, hk => by
    unfold ixL
    refine Ok.brd (fun h1 => ?_) (fun h1 => Ok.some ?_)
    · have hlt : k < s.length := by omega
      refine Ok.idx (by omega) h1 (fun a ha hm => ?_)
      have hd : s.drop k = a :: s.drop (k + 1) := by
        rw [List.drop_eq_getElem_cons hlt]
        have : s[k]? = some a := by simpa using ha
        rw [List.getElem?_eq_getElem hlt] at this
        simp only [Option.some.injEq] at this
        rw [this]
      refine Ok.eqb (hf a hm) (Ok.br (fun hp => Ok.some ?_) (fun hp => Ok.chk (by omega) ?_))
      · exact ⟨⟨by omega, by omega⟩, by rw [hd]; simp [hp]⟩
      · have := ixL_ok hf hs n (k + 1) (by omega) (by omega)
        rw [show ((k + 1 : Nat) : Int) = (k : Int) + 1 by omega] at this
        refine this.mono (fun r hr => ?_)
        rw [hd]
        cases r <;> simpa [hp] using hr
    · have : s.drop k = [] := List.drop_of_length_le (by omega)
      simp [this]
theorem ixS_any {α : Type} {f : α → Option Bool} {p : α → Bool} {s : List α} {N : Nat} (hf : ∀ x ∈ s, f x = some (p x)) (hs : s.length ≤ 1000000) (hN : s.length < N) : ((ixS f N s).bind fun x => some (decide (0 ≤ x))) = some (s.any p) := by
  obtain ⟨r, h1, h2⟩ := ixL_ok hf hs N 0 (by omega) (by omega)
  unfold ixS
  rw [show ((0 : Nat) : Int) = 0 from rfl] at h1
  rw [h1]
  cases r with
  | inl i => simp only [List.drop_zero] at h2; simp [h2.1.1, h2.2]
  | inr u => simp only [List.drop_zero] at h2; simp [h2]
theorem any_not {α : Type} (p : α → Bool) (s : List α) : (!(s.any fun x => !p x)) = s.all p := by
  induction s with
  | nil => rfl
  | cons a s ih => simp only [List.any_cons, List.all_cons, Bool.not_or, Bool.not_not, ih]
end Go.Proofs.Ytfamlpbdhhikdaa

namespace Go.Proofs.Ytfamlpbdhhikdaa
set_option linter.all false
open Go

abbrev Wd := Int × (Int × Bool)
abbrev Tn := Int × (Int × Int)
abbrev Tx := List Wd × (List Tn × Int)
/-- Numbers that don't grow too great. -/
def okW (ws : List Wd) : Bool := decide (ws.length ≤ 100) && ws.all fun w => decide (0 ≤ w.1 ∧ w.1 ≤ 1000)
theorem okW_iff {ws : List Wd} : okW ws = true ↔ ws.length ≤ 100 ∧ ∀ w ∈ ws, 0 ≤ w.1 ∧ w.1 ≤ 1000 := by simp [okW]
def sylR (ws : List Wd) (a b : Nat) : Int := (((ws.take b).drop a).map (·.1)).sum
theorem drop_cons {α : Type} {l : List α} {k : Nat} (h : k < l.length) (d : α) : l.drop k = l.getD k d :: l.drop (k + 1) := by
  rw [List.drop_eq_getElem_cons h]; simp [List.getD, h]
theorem gets {α : Type} {l : List α} {k : Nat} (h : k < l.length) (d : α) : l[((k : Nat) : Int).toNat]? = some (l.getD k d) := by simp [List.getD, h]
theorem sum_bound {l : List Wd} (h : ∀ w ∈ l, 0 ≤ w.1 ∧ w.1 ≤ 1000) : 0 ≤ (l.map (·.1)).sum ∧ (l.map (·.1)).sum ≤ 1000 * l.length := by
  induction l with
  | nil => simp
  | cons a l ih =>
    have h1 := h a (by simp)
    have h2 := ih (fun w hw => h w (by simp [hw]))
    simp only [List.map_cons, List.sum_cons, List.length_cons]
    omega
theorem syllables_l1_p {N : Nat} {u : List Wd} (hu : u.length ≤ 100) (hw : ∀ w ∈ u, 0 ≤ w.1 ∧ w.1 ≤ 1000) : ∀ (n k : Nat) (s : Int), u.length < n + k → k ≤ u.length → 0 ≤ s ∧ s ≤ 1000 * k → syllables_l1 N n s u u.length k = some (s + ((u.drop k).map (·.1)).sum)
  | 0, k, s, h, hk, _ => by omega
  | n + 1, k, s, h, hk, hs => by
    unfold syllables_l1
    by_cases hlt : k < u.length
    · rw [br_dec (by omega), idx_eq (by omega) (gets hlt (0, 0, false))]
      have hm := hw _ (getD_mem' hlt (0, 0, false))
      rw [drop_cons hlt (0, 0, false)]
      generalize u.getD k (0, 0, false) = x at *
      rw [chk_eq (by omega), chk_eq (by omega)]
      have := syllables_l1_p (N := N) hu hw n (k + 1) (s + x.1) (by omega) (by omega) (by omega)
      rw [show ((k + 1 : Nat) : Int) = (k : Int) + 1 by omega] at this
      rw [this]
      simp only [List.map_cons, List.sum_cons]
      congr 1; omega
    · rw [br_ndec (by omega), List.drop_of_length_le (by omega)]
      simp
where
  getD_mem' {α : Type} {l : List α} {i : Nat} (h : i < l.length) (d : α) : l.getD i d ∈ l := by
    simp [List.getD, h]
theorem getD_mem {α : Type} {l : List α} {i : Nat} {d : α} (h : i < l.length) : l.getD i d ∈ l := by
  simp [List.getD, h]
theorem take_drop_mem {ws : List Wd} (h : ∀ w ∈ ws, 0 ≤ w.1 ∧ w.1 ≤ 1000) (a b : Nat) : ∀ w ∈ (ws.take b).drop a, 0 ≤ w.1 ∧ w.1 ≤ 1000 := fun w hw => h w (List.mem_of_mem_take (List.mem_of_mem_drop hw))
theorem sylR_bound {ws : List Wd} (h : okW ws = true) (a b : Nat) : 0 ≤ sylR ws a b ∧ sylR ws a b ≤ 100000 := by
  obtain ⟨h1, h2⟩ := okW_iff.1 h
  have := sum_bound (take_drop_mem h2 a b)
  unfold sylR
  have : ((ws.take b).drop a).length ≤ 100 := by simp only [List.length_drop, List.length_take]; omega
  omega
section
variable {N : Nat} (hN : 110 ≤ N) {ws : List Wd} {ts : List Tn} {br_ : Int}
include hN
theorem syllables_v (h : okW ws = true) {a b : Int} (ha : 0 ≤ a) (hab : a ≤ b) (hb : b ≤ ws.length) : syllables_S N (ws, ts, br_) a b = some (sylR ws a.toNat b.toNat) := by
  obtain ⟨h1, h2⟩ := okW_iff.1 h
  unfold syllables_S
  rw [grd_eq (by simp; omega)]
  dsimp only
  have hl : ((ws.take b.toNat).drop a.toNat).length ≤ 100 := by simp only [List.length_drop, List.length_take]; omega
  have := syllables_l1_p (N := N) (u := (ws.take b.toNat).drop a.toNat) hl (take_drop_mem h2 _ _) N 0 0 (by omega) (by omega) (by omega)
  simp only [Int.natCast_zero, List.drop_zero, Int.zero_add] at this
  rw [this]
  rfl
end
/-! ### Turns -/
def turnP (a b : Int) (x : Tn) : Bool := decide (a ≤ x.2.1) && decide (x.2.2 < b) && !decide (a ≤ x.1 ∧ x.1 ≤ b - 1)
def turnK (ts : List Tn) (a b : Int) (k : Nat) : List Int := ((List.range k).filter fun i => turnP a b (ts.getD i (0, 0, 0))).map fun (i : Nat) => (i : Int)
theorem turnK_len (ts : List Tn) (a b : Int) (k : Nat) : (turnK ts a b k).length ≤ k := by
  have := List.length_filter_le (fun i => turnP a b (ts.getD i (0, 0, 0))) (List.range k)
  simp only [turnK, List.length_map]
  simpa using this
theorem turnK_succ (ts : List Tn) (a b : Int) (k : Nat) : turnK ts a b (k + 1) = turnK ts a b k ++ (if turnP a b (ts.getD k (0, 0, 0)) = true then [(k : Int)] else []) := by
  simp only [turnK, List.range_succ, List.filter_append, List.map_append]
  congr 1
  rw [List.filter_cons]
  by_cases h : turnP a b (ts.getD k (0, 0, 0)) = true
  · rw [if_pos h, if_pos h]; rfl
  · rw [if_neg h, if_neg h]; rfl
def turnL (ts : List Tn) (a b : Int) : List Int := turnK ts a b ts.length
theorem in_v (N : Nat) (n lo hi : Int) : in__S N n lo hi = some (decide (lo ≤ n ∧ n ≤ hi)) := by
  unfold in__S br
  by_cases h : lo ≤ n <;> simp [h]
theorem turned_l1_p {N : Nat} {ts : List Tn} (ht : ts.length ≤ 1000) {a b : Int} (hb : -1000000 ≤ b ∧ b ≤ 1000000) : ∀ (n k : Nat), ts.length < n + k → k ≤ ts.length → turned_l1 N n a b ts ts.length k (turnK ts a b k) = some (turnL ts a b)
  | 0, k, h, hk => by omega
  | n + 1, k, h, hk => by
    unfold turned_l1
    by_cases hlt : k < ts.length
    · rw [br_dec (by omega), idx_eq (by omega) (gets hlt (0, 0, 0))]
      have ih := turned_l1_p (N := N) ht (a := a) hb n (k + 1) (by omega) (by omega)
      rw [turnK_succ] at ih
      have hl := turnK_len ts a b k
      generalize ts.getD k (0, 0, 0) = x at *
      have hj : ∀ out, turned_j1 N (turned_l1 N n) a b ts ts.length k out = turned_l1 N n a b ts ts.length ((k + 1 : Nat) : Int) out := fun out => by
        unfold turned_j1
        rw [chk_eq (by omega)]; rfl
      simp only [hj, in_v, Option.bind_some]
      rw [chk_eq (by omega), lim_eq (by simp; omega)]
      by_cases h1 : a ≤ x.2.1 <;> by_cases h2 : x.2.2 < b <;> by_cases h3 : a ≤ x.1 ∧ x.1 ≤ b - 1 <;> simp only [turnP, br, h1, h2, h3, decide_true, decide_false, Bool.and_true, Bool.true_and, Bool.and_false, Bool.false_and, Bool.not_true, Bool.not_false, ite_true, ite_false, if_true, if_false, List.append_nil, and_self, and_true, true_and, and_false, false_and, Bool.false_eq_true] at ih ⊢ <;> first | exact ih | (simp [h3] at ih ⊢; exact ih)
    · obtain rfl : k = ts.length := by omega
      rw [br_ndec (by omega)]; rfl
section
variable {N : Nat} (hN : 110 ≤ N) {ws : List Wd} {ts : List Tn} {br_ : Int}
include hN
theorem turned_v (ht : ts.length ≤ 100) {a b : Int} (hb : -1000000 ≤ b ∧ b ≤ 1000000) : turned_S N (ws, ts, br_) a b = some (turnL ts a b) := by
  unfold turned_S
  have := turned_l1_p (N := N) (ts := ts) (by omega) (a := a) hb N 0 (by omega) (by omega)
  simp only [Int.natCast_zero] at this
  have e : turnK ts a b 0 = [] := rfl
  rw [e] at this
  rw [this]; rfl
end
/-! ### Stops, faults -/
def stopR (ws : List Wd) (p : Nat) : Bool := decide (p = 0) || decide (p = ws.length) || (ws.getD (p - 1) (0, 0, false)).2.2
theorem stops_v {N : Nat} {ws : List Wd} {ts : List Tn} {br_ : Int} (h : ws.length ≤ 1000) {p : Nat} (hp : p ≤ ws.length) : stops_S N (ws, ts, br_) p = some (stopR ws p) := by
  unfold stops_S end__S stopR
  by_cases h0 : p = 0
  · subst h0; simp [br]
  · rw [br_ndec (by omega)]
    rw [bind_eq (rfl : some ((ws.length : Nat) : Int) = _)]
    by_cases h1 : p = ws.length
    · rw [br_dec (by simp [h1])]; simp [h1]
    · rw [br_ndec (by omega), chk_eq (by omega), show (p : Int) - 1 = ((p - 1 : Nat) : Int) by omega, idx_eq (by omega) (gets (l := ws) (by omega) (0, 0, false))]
      simp [h0, h1]
def faultR (ws : List Wd) (ts : List Tn) (br_ : Int) (a b : Nat) : Int × Bool :=
  if br_ < sylR ws a b then (0, true) else if !stopR ws a || !stopR ws b then (1, true) else (2, decide (0 < ((turnL ts a b).length : Int)))
def rightR (ws : List Wd) (ts : List Tn) (br_ : Int) (a b : Nat) : Bool := !(faultR ws ts br_ a b).2
section
variable {N : Nat} (hN : 110 ≤ N) {ws : List Wd} {ts : List Tn} {br_ : Int} (h : okW ws = true) (ht : ts.length ≤ 100)
include hN h ht
theorem fault_v {a b : Nat} (hab : a ≤ b) (hb : b ≤ ws.length) : fault_S N (ws, ts, br_) a b = some (faultR ws ts br_ a b) := by
  have hl := (okW_iff.1 h).1
  unfold fault_S faultR
  rw [syllables_v hN h (by omega) (by omega) (by omega), stops_v (by omega) (by omega), stops_v (by omega) hb, turned_v hN ht (by omega)]
  simp only [Option.bind_some, Int.toNat_natCast]
  by_cases h1 : br_ < sylR ws a b
  · rw [br_dec h1, if_pos h1]
  · rw [br_ndec h1, if_neg h1]
    cases stopR ws a <;> cases stopR ws b <;> simp [br]
theorem right_v {a b : Nat} (hab : a ≤ b) (hb : b ≤ ws.length) : right_S N (ws, ts, br_) a b = some (rightR ws ts br_ a b) := by
  unfold right_S rightR
  rw [fault_v hN h ht hab hb]; rfl
end
end Go.Proofs.Ytfamlpbdhhikdaa

namespace Go.Proofs.Ytfamlpbdhhikdaa
set_option linter.all false
open Go

theorem call_pure {P : Program} {s : Spec} (hok : SpecOK P s) (hb : s.ins.blks = []) {p : s.ins.den} {r : altD s.outs} (hr : s.run p some = some r) {M : Nat → Option Obj} {w : World} (hM : ∀ b o, M b = some o → w.heap[b]? = some o)
    {vs : List Value} (hv : RepVs ⟨fun _ => none, M⟩ (encs id s.ins.avs p.1) vs) : Fn P s.f vs.toArray w (fun v w' => Ext w w' ∧ ∃ g', RepV g' (resVal (encs id (altOf s.outs r).1.avs (altOf s.outs r).2.1)) v) := by
  have hh : ∀ i, hOf p.2 i = Option.none := fun i => by
    unfold hOf
    rw [List.getElem?_eq_none]
    rw [encBs_len, hb]; exact Nat.zero_le _
  have hs : Sim ⟨fun _ => none, M⟩ (hOf p.2) w := ⟨fun b o h => hM b o h, fun i k hk => (by rw [hh i] at hk; cases hk), fun i j ki kj b ci ni cj nj h1 => (by rw [hh i] at h1; cases h1)⟩
  refine Fn.mono (hok.fn p r hr ⟨fun _ => none, M⟩ w vs hv hs (fun _ _ => rfl)) ?_
  rintro v w' ⟨g', st, _, hv'⟩
  refine ⟨⟨st.os, st.tape, st.output, st.size, fun k hk _ => st.same k hk ?_⟩, g', hv'⟩
  rintro ⟨i, hi, _⟩
  rw [hb] at hi; simp at hi

/-- Some cells from one on. -/
def Cl (w : World) (b o : Nat) (vs : List Value) : Prop := ∀ (i : Nat) (v : Value), vs[i]? = some v → w.cell? ⟨b, o + i, none⟩ = some v
theorem Cl.cell {w : World} {b o i : Nat} {vs : List Value} {v : Value} (h : Cl w b o vs) (hi : vs[i]? = some v) : w.cell? ⟨b, o + i, none⟩ = some v := h i v hi
theorem Cl.of_seg {w : World} {b o : Nat} {ws us : List Value} {ty : TypeId} {z : Nat × Nat} (hb : w.heap[b]? = some (.cells ws.toArray ty z)) (h : Seg ws o us) : Cl w b o us := fun i v hi => by
  have := Seg.row hb h i v hi
  rwa [addr_add] at this
/-- The numbers from one on that are so. -/
def toL (R : Nat → Bool) (m k : Nat) : List Nat := (List.range' k (m + 1 - k)).filter R
theorem toL_yes {R : Nat → Bool} {m k : Nat} (h : k ≤ m) (e : R k = true) : toL R m k = k :: toL R m (k + 1) := by
  unfold toL
  rw [show m + 1 - k = (m + 1 - (k + 1)) + 1 by omega, List.range'_succ, List.filter_cons, if_pos e]
theorem toL_no {R : Nat → Bool} {m k : Nat} (h : k ≤ m) (e : R k = false) : toL R m k = toL R m (k + 1) := by
  unfold toL
  rw [show m + 1 - k = (m + 1 - (k + 1)) + 1 by omega, List.range'_succ, List.filter_cons, if_neg (by simp [e])]
theorem toL_end {R : Nat → Bool} {m k : Nat} (h : m < k) : toL R m k = [] := by
  unfold toL
  rw [show m + 1 - k = 0 by omega]; rfl
theorem mem_toL {R : Nat → Bool} {m k j : Nat} : j ∈ toL R m k ↔ k ≤ j ∧ j ≤ m ∧ R j = true := by
  unfold toL
  rw [List.mem_filter, List.mem_range'_1]
  constructor
  · rintro ⟨⟨h1, h2⟩, h3⟩; exact ⟨h1, by omega, h3⟩
  · rintro ⟨h1, h2, h3⟩; exact ⟨⟨h1, by omega⟩, h3⟩

noncomputable def c143 : Code := (Try.f143.body).getD .skip
noncomputable def K143_0 : List Item := [.code (sub c143 [0]), .code (sub c143 [1])]
noncomputable def K143_1 : List Item := [.code (sub c143 [1, 0, 0, 0, 0]), .code (sub c143 [1, 0, 0, 0, 1]), .code (sub c143 [1, 0, 0, 1]), .inLoop (sub c143 [1, 0, 0]), .inBlock 0]
noncomputable def K143_2 : List Item := [.code (sub c143 [1, 0, 0, 0, 1]), .code (sub c143 [1, 0, 0, 1]), .inLoop (sub c143 [1, 0, 0]), .inBlock 0]
noncomputable def K143_3 : List Item := [.code (sub c143 [1, 0, 0, 1, 0, 0, 0]), .code (sub c143 [1, 0, 0, 1, 0, 0, 1]), .inBlock 1, .code (sub c143 [1, 0, 0, 1, 1]), .inLoop (sub c143 [1, 0, 0]), .inBlock 0]
noncomputable def K143_4 : List Item := []
noncomputable def K143_5 : List Item := [.code (sub c143 [1, 0, 0, 1, 0, 0, 1]), .inBlock 1, .code (sub c143 [1, 0, 0, 1, 1]), .inLoop (sub c143 [1, 0, 0]), .inBlock 0]
noncomputable def K143_6 : List Item := [.code (sub c143 [1, 0, 0, 1, 0, 0, 1, 0]), .inBlock 1, .code (sub c143 [1, 0, 0, 1, 1]), .inLoop (sub c143 [1, 0, 0]), .inBlock 0]
noncomputable def K143_7 : List Item := [.code (sub c143 [1, 0, 0, 1, 1]), .inLoop (sub c143 [1, 0, 0]), .inBlock 0]
set_option maxHeartbeats 400000 in
theorem breaths1_fn (l bf bd of_ od : Nat) (vd : Addr) (fr m : Nat) (R : Nat → Bool) (S : List Nat) (J : List Nat → World → Prop) (Q : World → Prop) (w : World)
    (hbf : ∀ w', Upd (l :: S) w w' → Cl w' bf of_ [.int .i64 (↑fr : Int)]) (hbd : ∀ w', Upd (l :: S) w w' → Cl w' bd od [.pointer (some vd)])
    (hend : ∀ w', Upd (l :: S) w w' → Fn Try.prog 90 #[.pointer (some vd)] w' (fun v w2 => Ext w' w2 ∧ v = .int .i64 (↑m : Int)))
    (hright : ∀ (k : Nat) w', fr ≤ k → k ≤ m → Upd (l :: S) w w' → Fn Try.prog 87 #[.pointer (some vd), .int .i64 (↑fr : Int), .int .i64 (↑k : Int)] w' (fun v w2 => Ext w' w2 ∧ v = .bool (R k)))
    (hfr : fr ≤ m ∧ m ≤ 1000000) (hJ : J (toL R m (fr + 1)) w) (hxJ : ∀ r, Stays w.heap.size (J r))
    (hy : ∀ k r w1, k ∈ toL R m (fr + 1) → J (k :: r) w1 → Upd (l :: S) w w1 → Yield Try.prog l #[.int .i64 ↑k] w1 (fun v w2 => Upd (l :: S) w1 w2 ∧ ((v = .bool true ∧ J r w2) ∨ (v = .bool false ∧ Q w2)))) :
    Fn Try.prog 143 #[(.func (.yield l) #[] #[]), (.pointer (some ⟨bf, of_, none⟩)), (.pointer (some ⟨bd, od, none⟩))] w (fun _ w' => Upd (l :: S) w w' ∧ (J [] w' ∨ Q w')) := by
  refine Fn.ofSt (c := c143) 23 K143_0 [(0, (.func (.yield l) #[] #[])), (1, (.pointer (some ⟨bf, of_, none⟩))), (2, (.pointer (some ⟨bd, od, none⟩)))] Try.func143 (by kernel_rfl) ⟨⟨rfl, by kernel_rfl⟩, by kernel_rfl⟩ (by kernel_rfl) ?_
  intro cs
  refine St.reg K143_1 [(0, true), (1, true), (2, true)] (by kernel_rfl) (by kernel_rfl) ?_
  refine RX.q 3 [(0, true, (.int .i64 (↑fr : Int))), (1, false, (.int .i64 ((↑fr : Int) + 1)))] [(0, (.func (.yield l) #[] #[])), (1, (.pointer (some ⟨bf, of_, none⟩))), (2, (.pointer (some ⟨bd, od, none⟩))), (4, (.int .i64 ((↑fr : Int) + 1)))] [.cell ⟨bf, of_ + 0, none⟩ (.int .i64 (↑fr : Int)), .eq (.int .i64 (IntKind.i64.wrap ((↑fr : Int) + 1))) (.int .i64 ((↑fr : Int) + 1))] (by kernel_rfl) ⟨Cl.cell (hbf w (Upd.refl _ w)) rfl, int64 (by omega)⟩ ?_
  refine RX.done [(0, (.func (.yield l) #[] #[])), (1, (.pointer (some ⟨bf, of_, none⟩))), (2, (.pointer (some ⟨bd, od, none⟩))), (4, (.int .i64 ((↑fr : Int) + 1)))] (by kernel_rfl) (by kernel_rfl) ?_
  have loop1 : ∀ (N : Nat) (k : Nat) (w2 : World), (fr + 1 ≤ k ∧ k ≤ m + 1) → (J (toL R m k) w2) → (Upd (l :: S) w w2) → N = m + 1 - k → St Try.prog (fctx Try.prog 143 (fun _ w' => Upd (l :: S) w w' ∧ (J [] w' ∨ Q w')) cs) 23 K143_1 [(4, (.int .i64 (↑k : Int))), (0, (.func (.yield l) #[] #[])), (1, (.pointer (some ⟨bf, of_, none⟩))), (2, (.pointer (some ⟨bd, od, none⟩)))] [] w2 := by
    intro N3
    induction N3 using Nat.strongRecOn with
    | ind N3 ih4 => ?_
    intro k w2 hk hJk hE hN5
    refine St.reg K143_2 [(0, true), (1, true), (2, false), (3, true)] (by kernel_rfl) (by kernel_rfl) ?_
    refine RX.q 2 [(1, true, (.pointer (some vd)))] [(0, (.func (.yield l) #[] #[])), (1, (.pointer (some ⟨bf, of_, none⟩))), (2, (.pointer (some ⟨bd, od, none⟩))), (4, (.int .i64 (↑k : Int))), (7, (.int .i64 (↑k : Int))), (8, (.pointer (some vd)))] [.cell ⟨bd, od + 0, none⟩ (.pointer (some vd))] (by kernel_rfl) (Cl.cell (hbd w2 hE) rfl) ?_
    refine RX.call 9 90 #[(.pointer (some vd))] [(0, (.func (.yield l) #[] #[])), (1, (.pointer (some ⟨bf, of_, none⟩))), (2, (.pointer (some ⟨bd, od, none⟩))), (4, (.int .i64 (↑k : Int))), (7, (.int .i64 (↑k : Int))), (8, (.pointer (some vd)))] (fun _ => by kernel_rfl) (by kernel_rfl) ?_
    refine Fn.mono (hend w2 hE) ?_
    rintro _ w3 ⟨hx3, rfl⟩
    have hE3 : Upd (l :: S) w w3 := Upd.ext hE hx3
    have hJ3 : J (toL R m k) w3 := Stays.ext (hxJ _) hJk hx3
    refine RX.q 1 [] [(0, (.func (.yield l) #[] #[])), (1, (.pointer (some ⟨bf, of_, none⟩))), (2, (.pointer (some ⟨bd, od, none⟩))), (4, (.int .i64 (↑k : Int))), (10, (.bool (decide ((↑k : Int) ≤ (↑m : Int)))))] [] (by kernel_rfl) trivial ?_
    refine RX.done [(0, (.func (.yield l) #[] #[])), (1, (.pointer (some ⟨bf, of_, none⟩))), (2, (.pointer (some ⟨bd, od, none⟩))), (4, (.int .i64 (↑k : Int))), (10, (.bool (decide ((↑k : Int) ≤ (↑m : Int)))))] (by kernel_rfl) (by kernel_rfl) ?_
    refine St.cond (k1 := K143_3) (k2 := K143_4) (decide ((↑k : Int) ≤ (↑m : Int))) (by kernel_rfl) (fun hc7 => ?_) (fun hc7 => ?_)
    · have hh8 : (↑k : Int) ≤ (↑m : Int) := by simpa using hc7
      clear hc7
      refine St.weak (L' := [(0, (.func (.yield l) #[] #[])), (1, (.pointer (some ⟨bf, of_, none⟩))), (2, (.pointer (some ⟨bd, od, none⟩))), (4, (.int .i64 (↑k : Int)))]) (by kernel_rfl) ?_
      refine St.reg K143_5 [(0, true), (1, true), (2, true), (3, false), (4, true), (5, true), (6, true), (7, false), (8, true), (9, true)] (by kernel_rfl) (by kernel_rfl) ?_
      refine RX.q 3 [(0, true, (.pointer (some vd))), (1, true, (.int .i64 (↑fr : Int)))] [(0, (.func (.yield l) #[] #[])), (1, (.pointer (some ⟨bf, of_, none⟩))), (2, (.pointer (some ⟨bd, od, none⟩))), (4, (.int .i64 (↑k : Int))), (13, (.pointer (some vd))), (14, (.int .i64 (↑fr : Int))), (15, (.int .i64 (↑k : Int)))] [.cell ⟨bd, od + 0, none⟩ (.pointer (some vd)), .cell ⟨bf, of_ + 0, none⟩ (.int .i64 (↑fr : Int))] (by kernel_rfl) ⟨Cl.cell (hbd w3 hE3) rfl, Cl.cell (hbf w3 hE3) rfl⟩ ?_
      refine RX.call 16 87 #[(.pointer (some vd)), (.int .i64 (↑fr : Int)), (.int .i64 (↑k : Int))] [(0, (.func (.yield l) #[] #[])), (1, (.pointer (some ⟨bf, of_, none⟩))), (2, (.pointer (some ⟨bd, od, none⟩))), (4, (.int .i64 (↑k : Int))), (13, (.pointer (some vd))), (14, (.int .i64 (↑fr : Int))), (15, (.int .i64 (↑k : Int)))] (fun _ => by kernel_rfl) (by kernel_rfl) ?_
      refine Fn.mono (hright k w3 (by omega) (by omega) hE3) ?_
      rintro _ w4 ⟨hx4, rfl⟩
      have hE4 : Upd (l :: S) w w4 := Upd.ext hE3 hx4
      have hJ4 : J (toL R m k) w4 := Stays.ext (hxJ _) hJ3 hx4
      cases hR : R k with
      | true =>
        refine RX.q 3 [] [(0, (.func (.yield l) #[] #[])), (1, (.pointer (some ⟨bf, of_, none⟩))), (2, (.pointer (some ⟨bd, od, none⟩))), (4, (.int .i64 (↑k : Int))), (17, (.bool true)), (18, (.func (.yield l) #[] #[])), (19, (.int .i64 (↑k : Int)))] [] (by kernel_rfl) trivial ?_
        rw [toL_yes (by omega) hR] at hJ4
        refine RX.yield 20 l #[(.int .i64 (↑k : Int))] [(0, (.func (.yield l) #[] #[])), (1, (.pointer (some ⟨bf, of_, none⟩))), (2, (.pointer (some ⟨bd, od, none⟩))), (4, (.int .i64 (↑k : Int))), (17, (.bool true)), (18, (.func (.yield l) #[] #[])), (19, (.int .i64 (↑k : Int)))] (by kernel_rfl) ?_
        refine Yield.mono (hy k _ w4 (mem_toL.2 ⟨by omega, by omega, hR⟩) hJ4 hE4) ?_
        rintro _ w5 ⟨hu5, ⟨rfl, hv⟩ | ⟨rfl, hv⟩⟩
        · refine RX.q 2 [] [(0, (.func (.yield l) #[] #[])), (1, (.pointer (some ⟨bf, of_, none⟩))), (2, (.pointer (some ⟨bd, od, none⟩))), (4, (.int .i64 (↑k : Int))), (22, (.bool false))] [] (by kernel_rfl) trivial ?_
          refine RX.done [(0, (.func (.yield l) #[] #[])), (1, (.pointer (some ⟨bf, of_, none⟩))), (2, (.pointer (some ⟨bd, od, none⟩))), (4, (.int .i64 (↑k : Int))), (22, (.bool false))] (by kernel_rfl) (by kernel_rfl) ?_
          refine St.cond (k1 := K143_6) (k2 := K143_7) false (by kernel_rfl) (fun hc => ?_) (fun hc => ?_)
          · cases hc
          · clear hc
            refine St.weak (L' := [(0, (.func (.yield l) #[] #[])), (1, (.pointer (some ⟨bf, of_, none⟩))), (2, (.pointer (some ⟨bd, od, none⟩))), (4, (.int .i64 (↑k : Int)))]) (by kernel_rfl) ?_
            refine St.reg K143_1 [(0, true), (1, true), (2, true)] (by kernel_rfl) (by kernel_rfl) ?_
            refine RX.q 3 [(1, false, (.int .i64 ((↑k : Int) + 1)))] [(0, (.func (.yield l) #[] #[])), (1, (.pointer (some ⟨bf, of_, none⟩))), (2, (.pointer (some ⟨bd, od, none⟩))), (4, (.int .i64 ((↑k : Int) + 1)))] [.eq (.int .i64 (IntKind.i64.wrap ((↑k : Int) + 1))) (.int .i64 ((↑k : Int) + 1))] (by kernel_rfl) (int64 (by omega)) ?_
            refine RX.done [(0, (.func (.yield l) #[] #[])), (1, (.pointer (some ⟨bf, of_, none⟩))), (2, (.pointer (some ⟨bd, od, none⟩))), (4, (.int .i64 ((↑k : Int) + 1)))] (by kernel_rfl) (by kernel_rfl) ?_
            refine St.weak (by kernel_rfl) (ih4 _ ?_ (k + 1) w5 (by omega) hv (Upd.trans hE4 hu5) rfl)
            omega
        · refine RX.q 2 [] [(0, (.func (.yield l) #[] #[])), (1, (.pointer (some ⟨bf, of_, none⟩))), (2, (.pointer (some ⟨bd, od, none⟩))), (4, (.int .i64 (↑k : Int))), (22, (.bool true))] [] (by kernel_rfl) trivial ?_
          refine RX.done [(0, (.func (.yield l) #[] #[])), (1, (.pointer (some ⟨bf, of_, none⟩))), (2, (.pointer (some ⟨bd, od, none⟩))), (4, (.int .i64 (↑k : Int))), (22, (.bool true))] (by kernel_rfl) (by kernel_rfl) ?_
          refine St.cond (k1 := K143_6) (k2 := K143_7) true (by kernel_rfl) (fun hc => ?_) (fun hc => ?_)
          · clear hc
            refine St.weak (L' := []) (by kernel_rfl) ?_
            refine St.ret [] [] (by kernel_rfl) Try.func143 (by kernel_rfl) .nil ?_
            exact ⟨Upd.trans hE4 hu5, .inr hv⟩
          · cases hc
      | false =>
        refine RX.q 3 [] [(0, (.func (.yield l) #[] #[])), (1, (.pointer (some ⟨bf, of_, none⟩))), (2, (.pointer (some ⟨bd, od, none⟩))), (4, (.int .i64 (↑k : Int))), (17, (.bool false)), (18, undef), (19, undef)] [] (by kernel_rfl) trivial ?_
        refine RX.skip [(0, (.func (.yield l) #[] #[])), (1, (.pointer (some ⟨bf, of_, none⟩))), (2, (.pointer (some ⟨bd, od, none⟩))), (4, (.int .i64 (↑k : Int))), (17, (.bool false)), (18, undef), (19, undef), (20, undef)] (by kernel_rfl) ?_
        refine RX.q 2 [] [(0, (.func (.yield l) #[] #[])), (1, (.pointer (some ⟨bf, of_, none⟩))), (2, (.pointer (some ⟨bd, od, none⟩))), (4, (.int .i64 (↑k : Int))), (22, (.bool false))] [] (by kernel_rfl) trivial ?_
        refine RX.done [(0, (.func (.yield l) #[] #[])), (1, (.pointer (some ⟨bf, of_, none⟩))), (2, (.pointer (some ⟨bd, od, none⟩))), (4, (.int .i64 (↑k : Int))), (22, (.bool false))] (by kernel_rfl) (by kernel_rfl) ?_
        refine St.cond (k1 := K143_6) (k2 := K143_7) false (by kernel_rfl) (fun hc => ?_) (fun hc => ?_)
        · cases hc
        · clear hc
          refine St.weak (L' := [(0, (.func (.yield l) #[] #[])), (1, (.pointer (some ⟨bf, of_, none⟩))), (2, (.pointer (some ⟨bd, od, none⟩))), (4, (.int .i64 (↑k : Int)))]) (by kernel_rfl) ?_
          refine St.reg K143_1 [(0, true), (1, true), (2, true)] (by kernel_rfl) (by kernel_rfl) ?_
          refine RX.q 3 [(1, false, (.int .i64 ((↑k : Int) + 1)))] [(0, (.func (.yield l) #[] #[])), (1, (.pointer (some ⟨bf, of_, none⟩))), (2, (.pointer (some ⟨bd, od, none⟩))), (4, (.int .i64 ((↑k : Int) + 1)))] [.eq (.int .i64 (IntKind.i64.wrap ((↑k : Int) + 1))) (.int .i64 ((↑k : Int) + 1))] (by kernel_rfl) (int64 (by omega)) ?_
          refine RX.done [(0, (.func (.yield l) #[] #[])), (1, (.pointer (some ⟨bf, of_, none⟩))), (2, (.pointer (some ⟨bd, od, none⟩))), (4, (.int .i64 ((↑k : Int) + 1)))] (by kernel_rfl) (by kernel_rfl) ?_
          refine St.weak (by kernel_rfl) (ih4 _ ?_ (k + 1) w4 (by omega) (by rw [← toL_no (by omega) hR]; exact hJ4) hE4 rfl)
          omega
    · have hh52 : (↑m : Int) < (↑k : Int) := by simpa using hc7
      clear hc7
      refine St.weak (L' := []) (by kernel_rfl) ?_
      refine St.ret [] [] (by kernel_rfl) Try.func143 (by kernel_rfl) .nil ?_
      refine ⟨hE3, .inl ?_⟩
      rw [← toL_end (R := R) (m := m) (k := k) (by omega)]; exact hJ3
  exact St.weak (by kernel_rfl) (loop1 _ (fr + 1) w (by omega) hJ (Upd.refl (l :: S) w) rfl)

abbrev TextT : Ty := .pair (.sl (.pair (.int .i64) (.pair (.int .i64) .bool))) (.pair (.sl (.pair (.int .i64) (.pair (.int .i64) (.int .i64)))) (.int .i64))
/-- The ends of the right breaths from a place. -/
def endsL (ws : List Wd) (ts : List Tn) (br_ : Int) (a : Nat) : List Nat := toL (rightR ws ts br_ a) ws.length (a + 1)
def breathsR (a : Int) (d : Tx) : Option (List (Int × Unit)) :=
  if (0 ≤ a ∧ a ≤ d.1.length) ∧ okW d.1 = true ∧ d.2.1.length ≤ 100 then some ((endsL d.1 d.2.1 d.2.2 a.toNat).map fun (j : Nat) => ((j : Int), ())) else none
abbrev is_breaths : ISpec := { f := 143, cap := [.fe (.int .i64), .fe (.ptr TextT)], elem := [.i .i64], run := fun p => breathsR p.1 p.2.1 }
theorem inR_small {n : Int} (h : -1000000 ≤ n ∧ n ≤ 1000000) : inR .i64 n := inR_i64.2 (by omega)
theorem is_breaths_ok : ISpecOK Try.prog is_breaths := by
  refine ⟨by rfl, fun _ => by kernel_rfl, fun p es hes g vs hvs l S J Q w hM hS hJ hxJ hxQ hy => ?_⟩
  obtain ⟨a, d, u⟩ := p
  simp only [breathsR] at hes
  split at hes
  rotate_left
  · cases hes
  rename_i hc
  simp only [Option.some.injEq] at hes
  subst hes
  obtain ⟨⟨ha0, ha1⟩, hok, ht⟩ := hc
  obtain ⟨ws, ts, br_⟩ := d
  dsimp only at *
  obtain ⟨fr, rfl⟩ : ∃ n : Nat, a = n := ⟨a.toNat, (Int.toNat_of_nonneg ha0).symm⟩
  simp only [Int.toNat_natCast] at hJ ⊢
  have hlen := (okW_iff.1 hok).1
  simp only [encs, enc, RepVs, RepV] at hvs
  obtain ⟨v1, r1, rfl, ⟨bf, of_, wx, tx, ux, rfl, hbx, hsx, hcx⟩, v2, r2, rfl, ⟨bd, od, wd, td, ud, rfl, hbd, hsd, hcd⟩, rfl⟩ := hvs
  obtain ⟨rfl, hin⟩ := hcx
  obtain ⟨bo, oo, wo, to, uo, rfl, hbo, hso, hco⟩ := hcd
  have hmem : ∀ w', Upd (l :: S) w w' → ∀ b o, g.M b = some o → w'.heap[b]? = some o := fun w' hu b o hb => hu.blk (hM b o hb).2 (hM b o hb).1
  have hrd : RepV ⟨fun _ => none, g.M⟩ (.fe TextT (ws, ts, br_) 0) (.pointer (some ⟨bo, oo, none⟩)) := ⟨bo, oo, wo, to, uo, rfl, hbo, hso, hco⟩
  have hfn := breaths1_fn l bf bd of_ od ⟨bo, oo, none⟩ fr ws.length (rightR ws ts br_ fr) S (fun r => J (r.map fun (j : Nat) => ((j : Int), ()))) Q w
    (fun w' hu => Cl.of_seg (hmem w' hu _ _ hbx) hsx) (fun w' hu => Cl.of_seg (hmem w' hu _ _ hbd) hsd)
    (fun w' hu => Fn.mono (call_pure (sp_end__ok 200) rfl (p := (((ws, ts, br_), ()), ())) (r := (((ws.length : Int), ()), ())) rfl (hmem w' hu) ⟨_, _, rfl, hrd, rfl⟩) (fun v w2 ⟨h1, g', h2⟩ => ⟨h1, by
      simp only [altOf, encs, enc, resVal, RepV] at h2
      exact h2.1⟩))
    (fun k w' h1 h2 hu => Fn.mono (call_pure (sp_right_ok 200) rfl (p := (((ws, ts, br_), ((fr : Int), ((k : Int), ()))), ())) (r := ((rightR ws ts br_ fr k, ()), ())) (by
        show ((right_S 200 (ws, ts, br_) fr k).bind fun r => some ((r, ()), ())) = _
        rw [right_v (by omega) hok ht h1 h2]; rfl) (hmem w' hu) ⟨_, _, rfl, hrd, _, _, rfl, ⟨rfl, (show inR .i64 (fr : Int) from inR_small (by omega))⟩, _, _, rfl, ⟨rfl, (show inR .i64 (k : Int) from inR_small (by omega))⟩, rfl⟩) (fun v w2 ⟨h1, g', h2⟩ => ⟨h1, by
      simp only [altOf, encs, enc, resVal, RepV] at h2
      exact h2⟩))
    (by omega) hJ (fun r => hxJ _) (fun m r w1 hm hj hu => hy ((m : Int), ()) (r.map fun (j : Nat) => ((j : Int), ())) w1 [.int .i64 (m : Int)] hj hu ⟨_, _, rfl, ⟨rfl, inR_small (by have := mem_toL.1 hm; omega)⟩, rfl⟩)
  exact hfn
end Go.Proofs.Ytfamlpbdhhikdaa

namespace Go.Proofs.Ytfamlpbdhhikdaa
set_option linter.all false
open Go

def breaths_S (N : Nat) (d : ((List (Int × (Int × Bool))) × ((List (Int × (Int × Int))) × Int))) (from_ : Int) : Option (Int × ((List (Int × (Int × Bool))) × ((List (Int × (Int × Int))) × Int))) :=
  some (from_, d)
noncomputable def breaths_sp (N : Nat) : List Spec := []
theorem breaths_all (N : Nat) : AllP (SpecOK Try.prog) (breaths_sp N) := trivial
noncomputable def breaths_c : Code := (Try.f91.body).getD .skip
noncomputable abbrev breaths_B : Body := { c := breaths_c, n := 6, res := [.tmp 4], outs := [⟨[.fn 143 [] [.fe (.int .i64), .fe (.ptr (.pair (.sl (.pair (.int .i64) (.pair (.int .i64) .bool))) (.pair (.sl (.pair (.int .i64) (.pair (.int .i64) (.int .i64)))) (.int .i64))))]], []⟩], m0 := 0 }
abbrev breaths_rt : altD breaths_B.outs → Option (Int × ((List (Int × (Int × Bool))) × ((List (Int × (Int × Int))) × Int))) := fun r => some (r.1.1.2.1, r.1.1.2.2.1)
abbrev breaths_st : Sta := ⟨[0, 1], ⟨[.fe (.pair (.sl (.pair (.int .i64) (.pair (.int .i64) .bool))) (.pair (.sl (.pair (.int .i64) (.pair (.int .i64) (.int .i64)))) (.int .i64))), .i .i64], []⟩⟩
theorem breaths_eq (N : Nat) (d : ((List (Int × (Int × Bool))) × ((List (Int × (Int × Int))) × Int))) (from_ : Int) : ev (Z := Int × ((List (Int × (Int × Bool))) × ((List (Int × (Int × Int))) × Int))) Try.prog (breaths_sp N) breaths_B [] [] (some breaths_rt) 400 false [.c [0], .c [1]] (stL breaths_st ((d, from_, ()), ())) (stH breaths_st ((d, from_, ()), ())) = breaths_S N d from_ := by kernel_rfl
noncomputable def sp_breaths (N : Nat) : Spec := { f := 91, ins := ⟨[.fe (.pair (.sl (.pair (.int .i64) (.pair (.int .i64) .bool))) (.pair (.sl (.pair (.int .i64) (.pair (.int .i64) (.int .i64)))) (.int .i64))), .i .i64], []⟩, outs := [⟨[.fn 143 [] [.fe (.int .i64), .fe (.ptr (.pair (.sl (.pair (.int .i64) (.pair (.int .i64) .bool))) (.pair (.sl (.pair (.int .i64) (.pair (.int .i64) (.int .i64)))) (.int .i64))))]], []⟩], run := fun p k => (breaths_S N p.1.1 p.1.2.1).bind fun r => k ((((), (r.1, r.2, ())), ()), ()) }
theorem sp_breaths_ok (N : Nat) : SpecOK Try.prog (sp_breaths N) := fn_sound (B := breaths_B) (loops := []) (leaves := []) (fun p => breaths_S N p.1.1 p.1.2.1) (fun r => ((((), (r.1, r.2, ())), ()), ())) breaths_rt (fun _ _ _ => rfl) (fun r z h => by cases h; rfl) Try.func91 (by kernel_rfl) (by kernel_rfl) (by kernel_rfl) rfl rfl (by kernel_rfl) (fun args w => Sem.pv_run _ _ _ (by kernel_rfl) w) (breaths_all N) mixed trivial (fun z E Xc hE hX hret => trivial) (fun p => breaths_eq N p.1.1 p.1.2.1)

def counts_l2_b (N : Nat) (rec : Int → (List (Int × Int)) → Option (((List (Int × (Int × Bool))) × ((List (Int × (Int × Int))) × Int)) × Int × (List (Int × Int)))) (d : ((List (Int × (Int × Bool))) × ((List (Int × (Int × Int))) × Int))) (u : Int) (u2 : ((List (Int × (Int × Bool))) × ((List (Int × (Int × Int))) × Int))) (to' : Int) (from_' : Int) (out' : List (Int × Int)) : Option (((List (Int × (Int × Bool))) × ((List (Int × (Int × Int))) × Int)) × Int × (List (Int × Int))) :=
  chk ((((out'.find? fun y => Ty.beq (.int .i64) y.1 from_').map (·.2)).getD (Ty.dflt (.int .i64))) + (((out'.find? fun y => Ty.beq (.int .i64) y.1 to').map (·.2)).getD (Ty.dflt (.int .i64)))) <|
  rec from_' ((from_', ((((out'.find? fun y => Ty.beq (.int .i64) y.1 from_').map (·.2)).getD (Ty.dflt (.int .i64))) + (((out'.find? fun y => Ty.beq (.int .i64) y.1 to').map (·.2)).getD (Ty.dflt (.int .i64))))) :: out')
def counts_l2 (N : Nat) : List (Int × Unit) → (((List (Int × (Int × Bool))) × ((List (Int × (Int × Int))) × Int))) → Int → (((List (Int × (Int × Bool))) × ((List (Int × (Int × Int))) × Int))) → Int → (List (Int × Int)) → Option (((List (Int × (Int × Bool))) × ((List (Int × (Int × Int))) × Int)) × Int × (List (Int × Int)))
  | [], d, u, u2, from_, out =>
    some ((d, from_, out))
  | e :: es, d, u, u2, from_, out =>
    counts_l2_b N (fun from__ out_ => counts_l2 N es d u u2 from__ out_) d u u2 e.1 from_ out
def counts_l1 (N : Nat) : Nat → (((List (Int × (Int × Bool))) × ((List (Int × (Int × Int))) × Int))) → Int → (List (Int × Int)) → Option (List (Int × Int))
  | 0, _, _, _ => none
  | n_ + 1, d, from_, out =>
    br (decide (0 ≤ from_))
      ((breaths_S N d from_).bind fun (x_3, y_4) =>
      ((breathsR x_3 y_4).bind fun es => counts_l2 N es d x_3 y_4 from_ out).bind fun (d_5, from__6, out_7) =>
      chk (from__6 - 1) <|
      counts_l1 N n_ d_5 (from__6 - 1) out_7)
      (some (out))
def counts_S (N : Nat) (d : ((List (Int × (Int × Bool))) × ((List (Int × (Int × Int))) × Int))) : Option (List (Int × Int)) :=
  (end__S N d).bind fun x_1 =>
  (end__S N d).bind fun x_2 =>
  chk (x_2 - 1) <|
  (counts_l1 N N d (x_2 - 1) ((x_1, 1) :: [])).bind fun out_8 =>
  some out_8
noncomputable def counts_sp (N : Nat) : List Spec := [sp_end_ N, sp_breaths N]
theorem counts_all (N : Nat) : AllP (SpecOK Try.prog) (counts_sp N) := ⟨sp_end__ok N, sp_breaths_ok N, trivial⟩
noncomputable def counts_c : Code := (Try.f89.body).getD .skip
noncomputable abbrev counts_B : Body := { c := counts_c, n := 30, res := [.tmp 2], outs := [⟨[.mp 0], [.map (.int .i64) (.int .i64)]⟩], m0 := 0 }
abbrev counts_rt : altD counts_B.outs → Option (List (Int × Int)) := fun r => some r.2.1
abbrev counts_l2_st : Sta := ⟨[0, 2, 3, 4, 19], ⟨[.fe (.pair (.sl (.pair (.int .i64) (.pair (.int .i64) .bool))) (.pair (.sl (.pair (.int .i64) (.pair (.int .i64) (.int .i64)))) (.int .i64))), .nilm, .own 0 0, .own 1 0, .fn 143 [] [.fe (.int .i64), .fe (.ptr (.pair (.sl (.pair (.int .i64) (.pair (.int .i64) .bool))) (.pair (.sl (.pair (.int .i64) (.pair (.int .i64) (.int .i64)))) (.int .i64))))]], [.segs [.mp 2], .segs [.i .i64], .map (.int .i64) (.int .i64)]⟩⟩
abbrev counts_l2_stA : Sta := ⟨[2, 3, 4, 5], ⟨[.nilm, .own 0 0, .own 1 0, .i .i64], [.segs [.mp 2], .segs [.i .i64], .map (.int .i64) (.int .i64)]⟩⟩
abbrev counts_l2_e0 : Leaf (((List (Int × (Int × Bool))) × ((List (Int × (Int × Int))) × Int)) × Int × (List (Int × Int))) := ⟨[.c [1, 1, 0, 1, 0, 0, 1, 1, 0, 0], .c [1, 1, 0, 1, 0, 0, 1, 1, 0, 1], .c [1, 1, 0, 1, 0, 0, 1, 1, 1], .l [1, 1, 0, 1, 0, 0], .b 0, .c [1, 1, 1]], ⟨[0, 2, 3, 4], ⟨[.fe (.pair (.sl (.pair (.int .i64) (.pair (.int .i64) .bool))) (.pair (.sl (.pair (.int .i64) (.pair (.int .i64) (.int .i64)))) (.int .i64))), .nilm, .own 0 0, .own 1 0], [.segs [.mp 2], .segs [.i .i64], .map (.int .i64) (.int .i64)]⟩⟩, fun p => some ((p.1.1, p.2.2.1.1, p.2.2.2.1))⟩
noncomputable def counts_l2_L (N : Nat) : LoopS := { at_ := [.c [1, 1, 0, 1, 0, 0, 1, 0, 0, 1, 0], .b 2, .b 1, .c [1, 1, 0, 1, 0, 0, 1, 1], .l [1, 1, 0, 1, 0, 0], .b 0, .c [1, 1, 1]], sta := counts_l2_st, exits := [([.c [1, 1, 0, 1, 0, 0, 1, 1, 0, 0], .c [1, 1, 0, 1, 0, 0, 1, 1, 0, 1], .c [1, 1, 0, 1, 0, 0, 1, 1, 1], .l [1, 1, 0, 1, 0, 0], .b 0, .c [1, 1, 1]], ⟨[0, 2, 3, 4], ⟨[.fe (.pair (.sl (.pair (.int .i64) (.pair (.int .i64) .bool))) (.pair (.sl (.pair (.int .i64) (.pair (.int .i64) (.int .i64)))) (.int .i64))), .nilm, .own 0 0, .own 1 0], [.segs [.mp 2], .segs [.i .i64], .map (.int .i64) (.int .i64)]⟩⟩)], run := fun p k => ((breathsR p.1.2.2.2.2.1.2.1 p.1.2.2.2.2.1.2.2.1).bind fun es => counts_l2 N es p.1.1 p.1.2.2.2.2.1.2.1 p.1.2.2.2.2.1.2.2.1 p.2.2.1.1 p.2.2.2.1).bind fun e => k (.inl ((e.1, (), (), (), ()), (((), ()), (e.2.1, ()), e.2.2, ()))) }
noncomputable abbrev counts_l2_Bk : Body := { c := counts_c, n := counts_B.n, res := counts_B.res, outs := counts_B.outs, m0 := 3 }
theorem counts_l2_end (N : Nat) (d : ((List (Int × (Int × Bool))) × ((List (Int × (Int × Int))) × Int))) (u : Int) (u2 : ((List (Int × (Int × Bool))) × ((List (Int × (Int × Int))) × Int))) (from_ : Int) (out : List (Int × Int)) : ev (Z := ((List (Int × (Int × Bool))) × ((List (Int × (Int × Int))) × Int)) × Int × (List (Int × Int))) Try.prog (counts_sp N) counts_B [] [counts_l2_e0] none 400 false (nrm counts_B.c 99 [.b 2, .b 1, .c [1, 1, 0, 1, 0, 0, 1, 1], .l [1, 1, 0, 1, 0, 0], .b 0, .c [1, 1, 1]]) (stL counts_l2_st ((d, (), (), (), ((), (u, u2, ())), ()), (((), ()), (from_, ()), out, ()))) (stH counts_l2_st ((d, (), (), (), ((), (u, u2, ())), ()), (((), ()), (from_, ()), out, ()))) = counts_l2 N [] d u u2 from_ out := by kernel_rfl
theorem counts_l2_asg (N : Nat) (e : Int × Unit) (es : List (Int × Unit)) (d : ((List (Int × (Int × Bool))) × ((List (Int × (Int × Int))) × Int))) (u : Int) (u2 : ((List (Int × (Int × Bool))) × ((List (Int × (Int × Int))) × Int))) (from_ : Int) (out : List (Int × Int)) : ev (Z := ((List (Int × (Int × Bool))) × ((List (Int × (Int × Int))) × Int)) × Int × (List (Int × Int))) Try.prog (counts_sp N) counts_l2_Bk [] [⟨[.r, .c [1, 1, 0, 1, 0, 0, 1, 0, 0, 1, 0, 1]], counts_l2_stA, fun p => counts_l2_b N (fun from__ out_ => counts_l2 N es d u u2 from__ out_) d u u2 p.1.2.2.2.1 p.2.2.1.1 p.2.2.2.1⟩] none 400 false (nrm counts_B.c 99 [.c [1, 1, 0, 1, 0, 0, 1, 0, 0, 1, 0, 0], .r, .c [1, 1, 0, 1, 0, 0, 1, 0, 0, 1, 0, 1]]) (pars [20] (encs id is_breaths.elem e) (stL counts_l2_st ((d, (), (), (), ((), (u, u2, ())), ()), (((), ()), (from_, ()), out, ())))) (stH counts_l2_st ((d, (), (), (), ((), (u, u2, ())), ()), (((), ()), (from_, ()), out, ()))) = counts_l2 N (e :: es) d u u2 from_ out := by kernel_rfl
theorem counts_l2_bod (N : Nat) (rec : Int → (List (Int × Int)) → Option (((List (Int × (Int × Bool))) × ((List (Int × (Int × Int))) × Int)) × Int × (List (Int × Int)))) (d : ((List (Int × (Int × Bool))) × ((List (Int × (Int × Int))) × Int))) (u : Int) (u2 : ((List (Int × (Int × Bool))) × ((List (Int × (Int × Int))) × Int))) (to' : Int) (from_' : Int) (out' : List (Int × Int)) : ev (Z := ((List (Int × (Int × Bool))) × ((List (Int × (Int × Int))) × Int)) × Int × (List (Int × Int))) Try.prog (counts_sp N) counts_l2_Bk [] [⟨[], ⟨[], ⟨[], [.segs [.mp 2], .segs [.i .i64], .map (.int .i64) (.int .i64)]⟩⟩, fun p => rec p.2.2.1.1 p.2.2.2.1⟩] none 400 false (nrm counts_B.c 99 [.c [1, 1, 0, 1, 0, 0, 1, 0, 0, 1, 0, 1]]) (stL counts_l2_stA (((), (), (), to', ()), (((), ()), (from_', ()), out', ()))) (stH counts_l2_stA (((), (), (), to', ()), (((), ()), (from_', ()), out', ()))) = counts_l2_b N rec d u u2 to' from_' out' := by kernel_rfl
theorem counts_l2_ok (N : Nat) : LoopOK Try.prog counts_B.c counts_B.n counts_B.m0 true (counts_l2_L N) := by
  refine range_ok (B := counts_B) (is := is_breaths) (g := .tmp 19) (ps := #[20]) (assign := sub counts_c [1, 1, 0, 1, 0, 0, 1, 0, 0, 1, 0, 0]) (body := sub counts_c [1, 1, 0, 1, 0, 0, 1, 0, 0, 1, 0, 1]) (Z := ((List (Int × (Int × Bool))) × ((List (Int × (Int × Int))) × Int)) × Int × (List (Int × Int))) (x := counts_l2_L N) (fun p => (p.1.2.2.2.2.1.2.1, p.1.2.2.2.2.1.2.2.1, ())) (fun es p => counts_l2 N es p.1.1 p.1.2.2.2.2.1.2.1 p.1.2.2.2.2.1.2.2.1 p.2.2.1.1 p.2.2.2.1) (staA := counts_l2_stA) (fun es q p => counts_l2_b N (fun from__ out_ => counts_l2 N es q.1 q.2.2.2.2.1.2.1 q.2.2.2.2.1.2.2.1 from__ out_) q.1 q.2.2.2.2.1.2.1 q.2.2.2.2.1.2.2.1 p.1.2.2.2.1 p.2.2.1.1 p.2.2.2.1) [] (fun e => .inl ((e.1, (), (), (), ()), (((), ()), (e.2.1, ()), e.2.2, ()))) (fun _ _ _ => rfl) rfl (by kernel_rfl) (fun _ => by kernel_rfl) (by kernel_rfl) is_breaths_ok (Nat.le_of_ble_eq_true (by kernel_rfl)) (by kernel_rfl) ?_ ?_ ?_ ?_
  · exact fun z E Xc hE hX hx p hp a w hS => ev_sound (z := z) (B := counts_B) (loops := []) (leaves := [counts_l2_e0]) (top := true) (counts_all N) mixed trivial hE hX ⟨(fun p hp => by obtain rfl := Option.some.inj hp; exact hx), trivial⟩ RetOK.no 400 false _ _ _ ((counts_l2_end N p.1.1 p.1.2.2.2.2.1.2.1 p.1.2.2.2.2.1.2.2.1 p.2.2.1.1 p.2.2.2.1).trans hp) a w hS
  · intro z E Xc hE hX hx e he q b hb a w hS
    simp only [List.not_mem_nil] at he
  · exact fun z E Xc hE hX e es p hl hp a w hS => ev_sound (z := z) (B := counts_l2_Bk) (loops := []) (leaves := [_]) (top := false) (counts_all N) mixed trivial hE hX ⟨hl, trivial⟩ RetOK.no 400 false _ _ _ ((counts_l2_asg N e es p.1.1 p.1.2.2.2.2.1.2.1 p.1.2.2.2.2.1.2.2.1 p.2.2.1.1 p.2.2.2.1).trans hp) a w hS
  · exact fun z E Xc hE hX es q he hs p hp a w hS => ev_sound (z := z) (B := counts_l2_Bk) (loops := []) (leaves := [_]) (top := false) (counts_all N) mixed trivial hE hX ⟨he, trivial⟩ RetOK.no 400 false _ _ _ ((counts_l2_bod N (fun from__ out_ => counts_l2 N es q.1 q.2.2.2.2.1.2.1 q.2.2.2.2.1.2.2.1 from__ out_) q.1 q.2.2.2.2.1.2.1 q.2.2.2.2.1.2.2.1 p.1.2.2.2.1 p.2.2.1.1 p.2.2.2.1).trans hp) a w hS
abbrev counts_l1_at : List PI := [.c [1, 1, 0, 1, 0, 0, 0, 0], .c [1, 1, 0, 1, 0, 0, 0, 1], .c [1, 1, 0, 1, 0, 0, 1], .l [1, 1, 0, 1, 0, 0], .b 0, .c [1, 1, 1]]
abbrev counts_l1_st : Sta := ⟨[0, 2, 3, 4], ⟨[.fe (.pair (.sl (.pair (.int .i64) (.pair (.int .i64) .bool))) (.pair (.sl (.pair (.int .i64) (.pair (.int .i64) (.int .i64)))) (.int .i64))), .nilm, .own 0 0, .own 1 0], [.segs [.mp 2], .segs [.i .i64], .map (.int .i64) (.int .i64)]⟩⟩
abbrev counts_l1_h (rec : (((List (Int × (Int × Bool))) × ((List (Int × (Int × Int))) × Int))) → Int → (List (Int × Int)) → Option (List (Int × Int))) : Leaf (List (Int × Int)) := ⟨counts_l1_at, counts_l1_st, fun p => rec p.1.1 p.2.2.1.1 p.2.2.2.1⟩
abbrev counts_l1_e0 : Leaf (List (Int × Int)) := ⟨[.c [1, 1, 1, 0], .c [1, 1, 1, 1]], ⟨[3], ⟨[.own 0 0], [.segs [.mp 1], .map (.int .i64) (.int .i64)]⟩⟩, fun p => some (p.2.2.1)⟩
noncomputable def counts_l1_L (N : Nat) : LoopS := { at_ := counts_l1_at, sta := counts_l1_st, exits := [([.c [1, 1, 1, 0], .c [1, 1, 1, 1]], ⟨[3], ⟨[.own 0 0], [.segs [.mp 1], .map (.int .i64) (.int .i64)]⟩⟩)], run := fun p k => (counts_l1 N N p.1.1 p.2.2.1.1 p.2.2.2.1).bind fun e => k (.inl (((), ()), (((), ()), e, ()))) }
theorem counts_l1_eq (N n_ : Nat) (d : ((List (Int × (Int × Bool))) × ((List (Int × (Int × Int))) × Int))) (from_ : Int) (out : List (Int × Int)) : ev (Z := (List (Int × Int))) Try.prog (counts_sp N) counts_B [counts_l2_L N] [counts_l1_h (counts_l1 N n_), counts_l1_e0] none 400 true counts_l1_at (stL counts_l1_st ((d, (), (), (), ()), (((), ()), (from_, ()), out, ()))) (stH counts_l1_st ((d, (), (), (), ()), (((), ()), (from_, ()), out, ()))) = counts_l1 N (n_ + 1) d from_ out := by kernel_rfl
theorem counts_l1_ok (N : Nat) : LoopOK Try.prog counts_B.c counts_B.n counts_B.m0 true (counts_l1_L N) := loop_of_ev (Z := (List (Int × Int))) (N := N) (fun m p => counts_l1 N m p.1.1 p.2.2.1.1 p.2.2.2.1) (fun e => .inl (((), ()), (((), ()), e, ()))) (fun _ _ _ => rfl) (fun _ => rfl) (fun m z E Xc hE hX hrec hx => leaf_of_ev (B := counts_B) (loops := [counts_l2_L N]) (leaves := [counts_l1_h (counts_l1 N m), counts_l1_e0]) (counts_all N) mixed ⟨counts_l2_ok N, trivial⟩ hE hX ⟨hrec, (fun p hp => by obtain rfl := Option.some.inj hp; exact hx), trivial⟩ RetOK.no (fun p => counts_l1_eq N m p.1.1 p.2.2.1.1 p.2.2.2.1))
abbrev counts_st : Sta := ⟨[0], ⟨[.fe (.pair (.sl (.pair (.int .i64) (.pair (.int .i64) .bool))) (.pair (.sl (.pair (.int .i64) (.pair (.int .i64) (.int .i64)))) (.int .i64)))], []⟩⟩
theorem counts_eq (N : Nat) (d : ((List (Int × (Int × Bool))) × ((List (Int × (Int × Int))) × Int))) : ev (Z := (List (Int × Int))) Try.prog (counts_sp N) counts_B [counts_l2_L N, counts_l1_L N] [] (some counts_rt) 400 false [.c [0], .c [1]] (stL counts_st ((d, ()), ())) (stH counts_st ((d, ()), ())) = counts_S N d := by kernel_rfl
noncomputable def sp_counts (N : Nat) : Spec := { f := 89, ins := ⟨[.fe (.pair (.sl (.pair (.int .i64) (.pair (.int .i64) .bool))) (.pair (.sl (.pair (.int .i64) (.pair (.int .i64) (.int .i64)))) (.int .i64)))], []⟩, outs := [⟨[.mp 0], [.map (.int .i64) (.int .i64)]⟩], run := fun p k => (counts_S N p.1.1).bind fun r => k (((), ()), (r, ())) }
theorem sp_counts_ok (N : Nat) : SpecOK Try.prog (sp_counts N) := fn_sound (B := counts_B) (loops := [counts_l2_L N, counts_l1_L N]) (leaves := []) (fun p => counts_S N p.1.1) (fun r => (((), ()), (r, ()))) counts_rt (fun _ _ _ => rfl) (fun r z h => by cases h; rfl) Try.func89 (by kernel_rfl) (by kernel_rfl) (by kernel_rfl) rfl rfl (by kernel_rfl) (fun args w => Sem.pv_run _ _ _ (by kernel_rfl) w) (counts_all N) mixed ⟨counts_l2_ok N, counts_l1_ok N, trivial⟩ (fun z E Xc hE hX hret => trivial) (fun p => counts_eq N p.1.1)

def count_S (N : Nat) (t : List (Int × (Int × Bool))) (t2 : List (Int × (Int × Int))) (t3 : Int) : Option (Int × Int) :=
  ((opened_S N t t2 t3).bind fun e => match e with
  | .inl (x_1, y_2) =>
    (br (!decide (y_2 = 0))
      (some (0, y_2))
      ((counts_S N x_1).bind fun x_3 =>
      some ((((x_3.find? fun y => Ty.beq (.int .i64) y.1 0).map (·.2)).getD (Ty.dflt (.int .i64))), 0)))
  | .inr x_4 =>
    (br (!decide (x_4 = 0))
      (some (0, x_4))
      (none)))
noncomputable def count_sp (N : Nat) : List Spec := [sp_opened N, sp_counts N]
theorem count_all (N : Nat) : AllP (SpecOK Try.prog) (count_sp N) := ⟨sp_opened_ok N, sp_counts_ok N, trivial⟩
noncomputable def count_c : Code := (Try.f23.body).getD .skip
noncomputable abbrev count_B : Body := { c := count_c, n := 17, res := [.tmp 2, .tmp 3], outs := [⟨[.i .i64, .i .i64], []⟩], m0 := 0 }
abbrev count_rt : altD count_B.outs → Option (Int × Int) := fun r => some (r.1.1, r.1.2.1)
abbrev count_st : Sta := ⟨[0], ⟨[.agg [.sl (.pair (.int .i64) (.pair (.int .i64) .bool)), .sl (.pair (.int .i64) (.pair (.int .i64) (.int .i64))), .i .i64]], []⟩⟩
theorem count_eq (N : Nat) (t : List (Int × (Int × Bool))) (t2 : List (Int × (Int × Int))) (t3 : Int) : ev (Z := Int × Int) Try.prog (count_sp N) count_B [] [] (some count_rt) 400 false [.c [0], .c [1]] (stL count_st (((t, t2, t3, ()), ()), ())) (stH count_st (((t, t2, t3, ()), ()), ())) = count_S N t t2 t3 := by kernel_rfl
noncomputable def sp_count (N : Nat) : Spec := { f := 23, ins := ⟨[.agg [.sl (.pair (.int .i64) (.pair (.int .i64) .bool)), .sl (.pair (.int .i64) (.pair (.int .i64) (.int .i64))), .i .i64]], []⟩, outs := [⟨[.i .i64, .i .i64], []⟩], run := fun p k => (count_S N p.1.1.1 p.1.1.2.1 p.1.1.2.2.1).bind fun r => k ((r.1, r.2, ()), ()) }
theorem sp_count_ok (N : Nat) : SpecOK Try.prog (sp_count N) := fn_sound (B := count_B) (loops := []) (leaves := []) (fun p => count_S N p.1.1.1 p.1.1.2.1 p.1.1.2.2.1) (fun r => ((r.1, r.2, ()), ())) count_rt (fun _ _ _ => rfl) (fun r z h => by cases h; rfl) Try.func23 (by kernel_rfl) (by kernel_rfl) (by kernel_rfl) rfl rfl (by kernel_rfl) (fun args w => Sem.pv_run _ _ _ (by kernel_rfl) w) (count_all N) mixed trivial (fun z E Xc hE hX hret => trivial) (fun p => count_eq N p.1.1.1 p.1.1.2.1 p.1.1.2.2.1)

def never_j1 (N : Nat) (rec : Int → (((List (Int × (Int × Bool))) × ((List (Int × (Int × Int))) × Int))) → Int → Int → (List (Int × Int)) → (List Bool) → (List Int) → Option (List Int)) (u : Int) (d : ((List (Int × (Int × Bool))) × ((List (Int × (Int × Int))) × Int))) (u2 : Int) (u3 : Int) (on : List (Int × Int)) (met : List Bool) (out : List Int) : Option (List Int) :=
  chk (u3 + 1) <|
  rec u d u2 (u3 + 1) on met out
def never_l2_b (N : Nat) (rec : (List (Int × Int)) → (List Bool) → (List Int) → Option (Int × ((List (Int × (Int × Bool))) × ((List (Int × (Int × Int))) × Int)) × Int × Int × (List (Int × Int)) × List Bool × List Int)) (u : Int) (d : ((List (Int × (Int × Bool))) × ((List (Int × (Int × Int))) × Int))) (u2 : Int) (u3 : Int) (u4 : Int) (u5 : ((List (Int × (Int × Bool))) × ((List (Int × (Int × Int))) × Int))) (u' : Int) (to' : Int) (g' : List (Int × Int)) (met' : List Bool) (g2' : List Int) : Option (Int × ((List (Int × (Int × Bool))) × ((List (Int × (Int × Int))) × Int)) × Int × Int × (List (Int × Int)) × List Bool × List Int) :=
  rng to' 13 <|
  get met' to'.toNat fun _ =>
  rec g' (met'.set to'.toNat true) g2'
def never_l2 (N : Nat) : List (Int × Unit) → Int → (((List (Int × (Int × Bool))) × ((List (Int × (Int × Int))) × Int))) → Int → Int → Int → (((List (Int × (Int × Bool))) × ((List (Int × (Int × Int))) × Int))) → (List (Int × Int)) → (List Bool) → (List Int) → Option (Int × ((List (Int × (Int × Bool))) × ((List (Int × (Int × Int))) × Int)) × Int × Int × (List (Int × Int)) × List Bool × List Int)
  | [], u, d, u2, u3, u4, u5, on, met, out =>
    some ((u, d, u2, u3, on, met, out))
  | e :: es, u, d, u2, u3, u4, u5, on, met, out =>
    never_l2_b N (fun on_ met_ out_ => never_l2 N es u d u2 u3 u4 u5 on_ met_ out_) u d u2 u3 u4 u5 u e.1 on met out
def never_l1 (N : Nat) : Nat → Int → (((List (Int × (Int × Bool))) × ((List (Int × (Int × Int))) × Int))) → Int → Int → (List (Int × Int)) → (List Bool) → (List Int) → Option (List Int)
  | 0, _, _, _, _, _, _, _ => none
  | n_ + 1, u, d, u2, u3, on, met, out =>
    br (decide (u3 < u2))
      (rng u3 13 <|
      get met u3.toNat fun x_6 =>
      br (!x_6)
        (lim (out.length + [u3].length) <|
        never_j1 N (never_l1 N n_) u d u2 u3 on met (out ++ [u3]))
        (br (decide ((((on.find? fun y => Ty.beq (.int .i64) y.1 u3).map (·.2)).getD (Ty.dflt (.int .i64))) = 0))
          (lim (out.length + [u3].length) <|
          never_j1 N (never_l1 N n_) u d u2 u3 on met (out ++ [u3]))
          ((breaths_S N d u3).bind fun (x_7, y_8) =>
          ((breathsR x_7 y_8).bind fun es => never_l2 N es u d u2 u3 x_7 y_8 on met out).bind fun (u_10, d_11, u2_12, u3_13, on_14, met_15, out_16) =>
          never_j1 N (never_l1 N n_) u_10 d_11 u2_12 u3_13 on_14 met_15 out_16)))
      (some (out))
def never_S (N : Nat) (t : List (Int × (Int × Bool))) (t2 : List (Int × (Int × Int))) (t3 : Int) : Option (List Int × Int) :=
  ((opened_S N t t2 t3).bind fun e => match e with
  | .inl (x_1, y_2) =>
    (br (!decide (y_2 = 0))
      (some ([], y_2))
      ((counts_S N x_1).bind fun x_3 =>
      br (decide ((((x_3.find? fun y => Ty.beq (.int .i64) y.1 0).map (·.2)).getD (Ty.dflt (.int .i64))) = 0))
        (some ([], 6))
        (get (List.replicate 13 (false : Bool)) 0 fun _ =>
        (end__S N x_1).bind fun x_5 =>
        (never_l1 N N 0 x_1 x_5 0 x_3 ((List.replicate 13 (false : Bool)).set 0 true) []).bind fun out_17 =>
        some (out_17, 0))))
  | .inr x_18 =>
    (br (!decide (x_18 = 0))
      (some ([], x_18))
      (none)))
noncomputable def never_sp (N : Nat) : List Spec := [sp_opened N, sp_end_ N, sp_breaths N, sp_counts N]
theorem never_all (N : Nat) : AllP (SpecOK Try.prog) (never_sp N) := ⟨sp_opened_ok N, sp_end__ok N, sp_breaths_ok N, sp_counts_ok N, trivial⟩
noncomputable def never_c : Code := (Try.f24.body).getD .skip
noncomputable abbrev never_B : Body := { c := never_c, n := 52, res := [.tmp 2, .tmp 3], outs := [⟨[.sl (.int .i64), .i .i64], []⟩], m0 := 0 }
abbrev never_rt : altD never_B.outs → Option (List Int × Int) := fun r => some (r.1.1, r.1.2.1)
abbrev never_l1_at : List PI := [.c [1, 1, 1, 1, 1, 1, 1, 1, 0, 1, 0, 0, 0], .c [1, 1, 1, 1, 1, 1, 1, 1, 0, 1, 0, 0, 1], .l [1, 1, 1, 1, 1, 1, 1, 1, 0, 1, 0, 0], .b 0, .c [1, 1, 1, 1, 1, 1, 1, 1, 1]]
abbrev never_l1_st : Sta := ⟨[2, 3, 4, 6, 7, 8, 26, 27], ⟨[.nils, .i .i64, .fe (.pair (.sl (.pair (.int .i64) (.pair (.int .i64) .bool))) (.pair (.sl (.pair (.int .i64) (.pair (.int .i64) (.int .i64)))) (.int .i64))), .mp 0, .own 1 0, .ols 2, .i .i64, .i .i64], [.map (.int .i64) (.int .i64), .segs [.arr .bool 13], .lst (.int .i64)]⟩⟩
abbrev never_l1_h (rec : Int → (((List (Int × (Int × Bool))) × ((List (Int × (Int × Int))) × Int))) → Int → Int → (List (Int × Int)) → (List Bool) → (List Int) → Option (List Int)) : Leaf (List Int) := ⟨never_l1_at, never_l1_st, fun p => rec p.1.2.1 p.1.2.2.1 p.1.2.2.2.2.2.2.1 p.1.2.2.2.2.2.2.2.1 p.2.1 p.2.2.1.1 p.2.2.2.1⟩
abbrev never_l1_e0 : Leaf (List Int) := ⟨[.c [1, 1, 1, 1, 1, 1, 1, 1, 1, 0], .c [1, 1, 1, 1, 1, 1, 1, 1, 1, 1]], ⟨[8], ⟨[.ols 0], [.lst (.int .i64)]⟩⟩, fun p => some (p.2.1)⟩
abbrev never_j1_at : List PI := [.c [1, 1, 1, 1, 1, 1, 1, 1, 0, 1, 0, 0, 1, 1, 1], .l [1, 1, 1, 1, 1, 1, 1, 1, 0, 1, 0, 0], .b 0, .c [1, 1, 1, 1, 1, 1, 1, 1, 1]]
abbrev never_j1_st : Sta := ⟨[2, 3, 4, 6, 7, 8, 26, 27], ⟨[.nils, .i .i64, .fe (.pair (.sl (.pair (.int .i64) (.pair (.int .i64) .bool))) (.pair (.sl (.pair (.int .i64) (.pair (.int .i64) (.int .i64)))) (.int .i64))), .mp 0, .own 1 0, .ols 2, .i .i64, .i .i64], [.map (.int .i64) (.int .i64), .segs [.arr .bool 13], .lst (.int .i64)]⟩⟩
abbrev never_j1_k (N : Nat) (rec : Int → (((List (Int × (Int × Bool))) × ((List (Int × (Int × Int))) × Int))) → Int → Int → (List (Int × Int)) → (List Bool) → (List Int) → Option (List Int)) : Leaf (List Int) := ⟨never_j1_at, never_j1_st, fun p => never_j1 N rec p.1.2.1 p.1.2.2.1 p.1.2.2.2.2.2.2.1 p.1.2.2.2.2.2.2.2.1 p.2.1 p.2.2.1.1 p.2.2.2.1⟩
theorem never_j1_eq (N : Nat) (rec : Int → (((List (Int × (Int × Bool))) × ((List (Int × (Int × Int))) × Int))) → Int → Int → (List (Int × Int)) → (List Bool) → (List Int) → Option (List Int)) (u : Int) (d : ((List (Int × (Int × Bool))) × ((List (Int × (Int × Int))) × Int))) (u2 : Int) (u3 : Int) (on : List (Int × Int)) (met : List Bool) (out : List Int) : ev (Z := List Int) Try.prog (never_sp N) never_B [] [never_l1_h rec, never_l1_e0] none 400 true never_j1_at (stL never_j1_st (((), u, d, (), (), (), u2, u3, ()), (on, (met, ()), out, ()))) (stH never_j1_st (((), u, d, (), (), (), u2, u3, ()), (on, (met, ()), out, ()))) = never_j1 N rec u d u2 u3 on met out := by kernel_rfl
theorem never_j1_lf (N : Nat) (rec : Int → (((List (Int × (Int × Bool))) × ((List (Int × (Int × Int))) × Int))) → Int → Int → (List (Int × Int)) → (List Bool) → (List Int) → Option (List Int)) {z : List Int} {top : Bool} {E : EE} {Xc : Ctx} (hE : EOK never_B.m0 E) (hX : CxOK top Xc) (hrec : LeafOK Try.prog never_B.c never_B.n never_B.m0 E Xc z (never_l1_h rec)) (h0 : LeafOK Try.prog never_B.c never_B.n never_B.m0 E Xc z never_l1_e0) : LeafOK Try.prog never_B.c never_B.n never_B.m0 E Xc z (never_j1_k N rec) := leaf_of_ev (B := never_B) (loops := []) (leaves := [never_l1_h rec, never_l1_e0]) (never_all N) mixed trivial hE hX ⟨hrec, h0, trivial⟩ RetOK.no (fun p => never_j1_eq N rec p.1.2.1 p.1.2.2.1 p.1.2.2.2.2.2.2.1 p.1.2.2.2.2.2.2.2.1 p.2.1 p.2.2.1.1 p.2.2.2.1)
abbrev never_l2_st : Sta := ⟨[2, 3, 4, 6, 7, 8, 26, 27, 46], ⟨[.nils, .i .i64, .fe (.pair (.sl (.pair (.int .i64) (.pair (.int .i64) .bool))) (.pair (.sl (.pair (.int .i64) (.pair (.int .i64) (.int .i64)))) (.int .i64))), .mp 0, .own 1 0, .ols 2, .i .i64, .i .i64, .fn 143 [] [.fe (.int .i64), .fe (.ptr (.pair (.sl (.pair (.int .i64) (.pair (.int .i64) .bool))) (.pair (.sl (.pair (.int .i64) (.pair (.int .i64) (.int .i64)))) (.int .i64))))]], [.map (.int .i64) (.int .i64), .segs [.arr .bool 13], .lst (.int .i64)]⟩⟩
abbrev never_l2_stA : Sta := ⟨[2, 3, 7, 10], ⟨[.nils, .i .i64, .own 1 0, .i .i64], [.map (.int .i64) (.int .i64), .segs [.arr .bool 13], .lst (.int .i64)]⟩⟩
abbrev never_l2_e0 : Leaf (Int × ((List (Int × (Int × Bool))) × ((List (Int × (Int × Int))) × Int)) × Int × Int × (List (Int × Int)) × List Bool × List Int) := ⟨[.c [1, 1, 1, 1, 1, 1, 1, 1, 0, 1, 0, 0, 1, 1, 1], .l [1, 1, 1, 1, 1, 1, 1, 1, 0, 1, 0, 0], .b 0, .c [1, 1, 1, 1, 1, 1, 1, 1, 1]], ⟨[2, 3, 4, 6, 7, 8, 26, 27], ⟨[.nils, .i .i64, .fe (.pair (.sl (.pair (.int .i64) (.pair (.int .i64) .bool))) (.pair (.sl (.pair (.int .i64) (.pair (.int .i64) (.int .i64)))) (.int .i64))), .mp 0, .own 1 0, .ols 2, .i .i64, .i .i64], [.map (.int .i64) (.int .i64), .segs [.arr .bool 13], .lst (.int .i64)]⟩⟩, fun p => some ((p.1.2.1, p.1.2.2.1, p.1.2.2.2.2.2.2.1, p.1.2.2.2.2.2.2.2.1, p.2.1, p.2.2.1.1, p.2.2.2.1))⟩
noncomputable def never_l2_L (N : Nat) : LoopS := { at_ := [.c [1, 1, 1, 1, 1, 1, 1, 1, 0, 1, 0, 0, 1, 1, 0, 0, 1, 1, 1, 0], .b 2, .b 1, .c [1, 1, 1, 1, 1, 1, 1, 1, 0, 1, 0, 0, 1, 1, 1], .l [1, 1, 1, 1, 1, 1, 1, 1, 0, 1, 0, 0], .b 0, .c [1, 1, 1, 1, 1, 1, 1, 1, 1]], sta := never_l2_st, exits := [([.c [1, 1, 1, 1, 1, 1, 1, 1, 0, 1, 0, 0, 1, 1, 1], .l [1, 1, 1, 1, 1, 1, 1, 1, 0, 1, 0, 0], .b 0, .c [1, 1, 1, 1, 1, 1, 1, 1, 1]], ⟨[2, 3, 4, 6, 7, 8, 26, 27], ⟨[.nils, .i .i64, .fe (.pair (.sl (.pair (.int .i64) (.pair (.int .i64) .bool))) (.pair (.sl (.pair (.int .i64) (.pair (.int .i64) (.int .i64)))) (.int .i64))), .mp 0, .own 1 0, .ols 2, .i .i64, .i .i64], [.map (.int .i64) (.int .i64), .segs [.arr .bool 13], .lst (.int .i64)]⟩⟩)], run := fun p k => ((breathsR p.1.2.2.2.2.2.2.2.2.1.2.1 p.1.2.2.2.2.2.2.2.2.1.2.2.1).bind fun es => never_l2 N es p.1.2.1 p.1.2.2.1 p.1.2.2.2.2.2.2.1 p.1.2.2.2.2.2.2.2.1 p.1.2.2.2.2.2.2.2.2.1.2.1 p.1.2.2.2.2.2.2.2.2.1.2.2.1 p.2.1 p.2.2.1.1 p.2.2.2.1).bind fun e => k (.inl (((), e.1, e.2.1, (), (), (), e.2.2.1, e.2.2.2.1, ()), (e.2.2.2.2.1, (e.2.2.2.2.2.1, ()), e.2.2.2.2.2.2, ()))) }
noncomputable abbrev never_l2_Bk : Body := { c := never_c, n := never_B.n, res := never_B.res, outs := never_B.outs, m0 := 3 }
theorem never_l2_end (N : Nat) (u : Int) (d : ((List (Int × (Int × Bool))) × ((List (Int × (Int × Int))) × Int))) (u2 : Int) (u3 : Int) (u4 : Int) (u5 : ((List (Int × (Int × Bool))) × ((List (Int × (Int × Int))) × Int))) (on : List (Int × Int)) (met : List Bool) (out : List Int) : ev (Z := Int × ((List (Int × (Int × Bool))) × ((List (Int × (Int × Int))) × Int)) × Int × Int × (List (Int × Int)) × List Bool × List Int) Try.prog (never_sp N) never_B [] [never_l2_e0] none 400 false (nrm never_B.c 99 [.b 2, .b 1, .c [1, 1, 1, 1, 1, 1, 1, 1, 0, 1, 0, 0, 1, 1, 1], .l [1, 1, 1, 1, 1, 1, 1, 1, 0, 1, 0, 0], .b 0, .c [1, 1, 1, 1, 1, 1, 1, 1, 1]]) (stL never_l2_st (((), u, d, (), (), (), u2, u3, ((), (u4, u5, ())), ()), (on, (met, ()), out, ()))) (stH never_l2_st (((), u, d, (), (), (), u2, u3, ((), (u4, u5, ())), ()), (on, (met, ()), out, ()))) = never_l2 N [] u d u2 u3 u4 u5 on met out := by kernel_rfl
theorem never_l2_asg (N : Nat) (e : Int × Unit) (es : List (Int × Unit)) (u : Int) (d : ((List (Int × (Int × Bool))) × ((List (Int × (Int × Int))) × Int))) (u2 : Int) (u3 : Int) (u4 : Int) (u5 : ((List (Int × (Int × Bool))) × ((List (Int × (Int × Int))) × Int))) (on : List (Int × Int)) (met : List Bool) (out : List Int) : ev (Z := Int × ((List (Int × (Int × Bool))) × ((List (Int × (Int × Int))) × Int)) × Int × Int × (List (Int × Int)) × List Bool × List Int) Try.prog (never_sp N) never_l2_Bk [] [⟨[.r, .c [1, 1, 1, 1, 1, 1, 1, 1, 0, 1, 0, 0, 1, 1, 0, 0, 1, 1, 1, 0, 1]], never_l2_stA, fun p => never_l2_b N (fun on_ met_ out_ => never_l2 N es u d u2 u3 u4 u5 on_ met_ out_) u d u2 u3 u4 u5 p.1.2.1 p.1.2.2.2.1 p.2.1 p.2.2.1.1 p.2.2.2.1⟩] none 400 false (nrm never_B.c 99 [.c [1, 1, 1, 1, 1, 1, 1, 1, 0, 1, 0, 0, 1, 1, 0, 0, 1, 1, 1, 0, 0], .r, .c [1, 1, 1, 1, 1, 1, 1, 1, 0, 1, 0, 0, 1, 1, 0, 0, 1, 1, 1, 0, 1]]) (pars [47] (encs id is_breaths.elem e) (stL never_l2_st (((), u, d, (), (), (), u2, u3, ((), (u4, u5, ())), ()), (on, (met, ()), out, ())))) (stH never_l2_st (((), u, d, (), (), (), u2, u3, ((), (u4, u5, ())), ()), (on, (met, ()), out, ()))) = never_l2 N (e :: es) u d u2 u3 u4 u5 on met out := by kernel_rfl
theorem never_l2_bod (N : Nat) (rec : (List (Int × Int)) → (List Bool) → (List Int) → Option (Int × ((List (Int × (Int × Bool))) × ((List (Int × (Int × Int))) × Int)) × Int × Int × (List (Int × Int)) × List Bool × List Int)) (u : Int) (d : ((List (Int × (Int × Bool))) × ((List (Int × (Int × Int))) × Int))) (u2 : Int) (u3 : Int) (u4 : Int) (u5 : ((List (Int × (Int × Bool))) × ((List (Int × (Int × Int))) × Int))) (u' : Int) (to' : Int) (g' : List (Int × Int)) (met' : List Bool) (g2' : List Int) : ev (Z := Int × ((List (Int × (Int × Bool))) × ((List (Int × (Int × Int))) × Int)) × Int × Int × (List (Int × Int)) × List Bool × List Int) Try.prog (never_sp N) never_l2_Bk [] [⟨[], ⟨[], ⟨[], [.map (.int .i64) (.int .i64), .segs [.arr .bool 13], .lst (.int .i64)]⟩⟩, fun p => rec p.2.1 p.2.2.1.1 p.2.2.2.1⟩] none 400 false (nrm never_B.c 99 [.c [1, 1, 1, 1, 1, 1, 1, 1, 0, 1, 0, 0, 1, 1, 0, 0, 1, 1, 1, 0, 1]]) (stL never_l2_stA (((), u', (), to', ()), (g', (met', ()), g2', ()))) (stH never_l2_stA (((), u', (), to', ()), (g', (met', ()), g2', ()))) = never_l2_b N rec u d u2 u3 u4 u5 u' to' g' met' g2' := by kernel_rfl
theorem never_l2_ok (N : Nat) : LoopOK Try.prog never_B.c never_B.n never_B.m0 true (never_l2_L N) := by
  refine range_ok (B := never_B) (is := is_breaths) (g := .tmp 46) (ps := #[47]) (assign := sub never_c [1, 1, 1, 1, 1, 1, 1, 1, 0, 1, 0, 0, 1, 1, 0, 0, 1, 1, 1, 0, 0]) (body := sub never_c [1, 1, 1, 1, 1, 1, 1, 1, 0, 1, 0, 0, 1, 1, 0, 0, 1, 1, 1, 0, 1]) (Z := Int × ((List (Int × (Int × Bool))) × ((List (Int × (Int × Int))) × Int)) × Int × Int × (List (Int × Int)) × List Bool × List Int) (x := never_l2_L N) (fun p => (p.1.2.2.2.2.2.2.2.2.1.2.1, p.1.2.2.2.2.2.2.2.2.1.2.2.1, ())) (fun es p => never_l2 N es p.1.2.1 p.1.2.2.1 p.1.2.2.2.2.2.2.1 p.1.2.2.2.2.2.2.2.1 p.1.2.2.2.2.2.2.2.2.1.2.1 p.1.2.2.2.2.2.2.2.2.1.2.2.1 p.2.1 p.2.2.1.1 p.2.2.2.1) (staA := never_l2_stA) (fun es q p => never_l2_b N (fun on_ met_ out_ => never_l2 N es q.2.1 q.2.2.1 q.2.2.2.2.2.2.1 q.2.2.2.2.2.2.2.1 q.2.2.2.2.2.2.2.2.1.2.1 q.2.2.2.2.2.2.2.2.1.2.2.1 on_ met_ out_) q.2.1 q.2.2.1 q.2.2.2.2.2.2.1 q.2.2.2.2.2.2.2.1 q.2.2.2.2.2.2.2.2.1.2.1 q.2.2.2.2.2.2.2.2.1.2.2.1 p.1.2.1 p.1.2.2.2.1 p.2.1 p.2.2.1.1 p.2.2.2.1) [] (fun e => .inl (((), e.1, e.2.1, (), (), (), e.2.2.1, e.2.2.2.1, ()), (e.2.2.2.2.1, (e.2.2.2.2.2.1, ()), e.2.2.2.2.2.2, ()))) (fun _ _ _ => rfl) rfl (by kernel_rfl) (fun _ => by kernel_rfl) (by kernel_rfl) is_breaths_ok (Nat.le_of_ble_eq_true (by kernel_rfl)) (by kernel_rfl) ?_ ?_ ?_ ?_
  · exact fun z E Xc hE hX hx p hp a w hS => ev_sound (z := z) (B := never_B) (loops := []) (leaves := [never_l2_e0]) (top := true) (never_all N) mixed trivial hE hX ⟨(fun p hp => by obtain rfl := Option.some.inj hp; exact hx), trivial⟩ RetOK.no 400 false _ _ _ ((never_l2_end N p.1.2.1 p.1.2.2.1 p.1.2.2.2.2.2.2.1 p.1.2.2.2.2.2.2.2.1 p.1.2.2.2.2.2.2.2.2.1.2.1 p.1.2.2.2.2.2.2.2.2.1.2.2.1 p.2.1 p.2.2.1.1 p.2.2.2.1).trans hp) a w hS
  · intro z E Xc hE hX hx e he q b hb a w hS
    simp only [List.not_mem_nil] at he
  · exact fun z E Xc hE hX e es p hl hp a w hS => ev_sound (z := z) (B := never_l2_Bk) (loops := []) (leaves := [_]) (top := false) (never_all N) mixed trivial hE hX ⟨hl, trivial⟩ RetOK.no 400 false _ _ _ ((never_l2_asg N e es p.1.2.1 p.1.2.2.1 p.1.2.2.2.2.2.2.1 p.1.2.2.2.2.2.2.2.1 p.1.2.2.2.2.2.2.2.2.1.2.1 p.1.2.2.2.2.2.2.2.2.1.2.2.1 p.2.1 p.2.2.1.1 p.2.2.2.1).trans hp) a w hS
  · exact fun z E Xc hE hX es q he hs p hp a w hS => ev_sound (z := z) (B := never_l2_Bk) (loops := []) (leaves := [_]) (top := false) (never_all N) mixed trivial hE hX ⟨he, trivial⟩ RetOK.no 400 false _ _ _ ((never_l2_bod N (fun on_ met_ out_ => never_l2 N es q.2.1 q.2.2.1 q.2.2.2.2.2.2.1 q.2.2.2.2.2.2.2.1 q.2.2.2.2.2.2.2.2.1.2.1 q.2.2.2.2.2.2.2.2.1.2.2.1 on_ met_ out_) q.2.1 q.2.2.1 q.2.2.2.2.2.2.1 q.2.2.2.2.2.2.2.1 q.2.2.2.2.2.2.2.2.1.2.1 q.2.2.2.2.2.2.2.2.1.2.2.1 p.1.2.1 p.1.2.2.2.1 p.2.1 p.2.2.1.1 p.2.2.2.1).trans hp) a w hS
noncomputable def never_l1_L (N : Nat) : LoopS := { at_ := never_l1_at, sta := never_l1_st, exits := [([.c [1, 1, 1, 1, 1, 1, 1, 1, 1, 0], .c [1, 1, 1, 1, 1, 1, 1, 1, 1, 1]], ⟨[8], ⟨[.ols 0], [.lst (.int .i64)]⟩⟩)], run := fun p k => (never_l1 N N p.1.2.1 p.1.2.2.1 p.1.2.2.2.2.2.2.1 p.1.2.2.2.2.2.2.2.1 p.2.1 p.2.2.1.1 p.2.2.2.1).bind fun e => k (.inl (((), ()), (e, ()))) }
theorem never_l1_eq (N n_ : Nat) (u : Int) (d : ((List (Int × (Int × Bool))) × ((List (Int × (Int × Int))) × Int))) (u2 : Int) (u3 : Int) (on : List (Int × Int)) (met : List Bool) (out : List Int) : ev (Z := List Int) Try.prog (never_sp N) never_B [never_l2_L N] [never_l1_h (never_l1 N n_), never_l1_e0, never_j1_k N (never_l1 N n_)] none 400 true never_l1_at (stL never_l1_st (((), u, d, (), (), (), u2, u3, ()), (on, (met, ()), out, ()))) (stH never_l1_st (((), u, d, (), (), (), u2, u3, ()), (on, (met, ()), out, ()))) = never_l1 N (n_ + 1) u d u2 u3 on met out := by kernel_rfl
theorem never_l1_ok (N : Nat) : LoopOK Try.prog never_B.c never_B.n never_B.m0 true (never_l1_L N) := loop_of_ev (Z := List Int) (N := N) (fun m p => never_l1 N m p.1.2.1 p.1.2.2.1 p.1.2.2.2.2.2.2.1 p.1.2.2.2.2.2.2.2.1 p.2.1 p.2.2.1.1 p.2.2.2.1) (fun e => .inl (((), ()), (e, ()))) (fun _ _ _ => rfl) (fun _ => rfl) (fun m z E Xc hE hX hrec hx => leaf_of_ev (B := never_B) (loops := [never_l2_L N]) (leaves := [never_l1_h (never_l1 N m), never_l1_e0, never_j1_k N (never_l1 N m)]) (never_all N) mixed ⟨never_l2_ok N, trivial⟩ hE hX ⟨hrec, (fun p hp => by obtain rfl := Option.some.inj hp; exact hx), never_j1_lf N _ hE hX hrec (fun p hp => by obtain rfl := Option.some.inj hp; exact hx), trivial⟩ RetOK.no (fun p => never_l1_eq N m p.1.2.1 p.1.2.2.1 p.1.2.2.2.2.2.2.1 p.1.2.2.2.2.2.2.2.1 p.2.1 p.2.2.1.1 p.2.2.2.1))
abbrev never_st : Sta := ⟨[0], ⟨[.agg [.sl (.pair (.int .i64) (.pair (.int .i64) .bool)), .sl (.pair (.int .i64) (.pair (.int .i64) (.int .i64))), .i .i64]], []⟩⟩
theorem never_eq (N : Nat) (t : List (Int × (Int × Bool))) (t2 : List (Int × (Int × Int))) (t3 : Int) : ev (Z := List Int × Int) Try.prog (never_sp N) never_B [never_l2_L N, never_l1_L N] [] (some never_rt) 400 false [.c [0], .c [1]] (stL never_st (((t, t2, t3, ()), ()), ())) (stH never_st (((t, t2, t3, ()), ()), ())) = never_S N t t2 t3 := by kernel_rfl
noncomputable def sp_never (N : Nat) : Spec := { f := 24, ins := ⟨[.agg [.sl (.pair (.int .i64) (.pair (.int .i64) .bool)), .sl (.pair (.int .i64) (.pair (.int .i64) (.int .i64))), .i .i64]], []⟩, outs := [⟨[.sl (.int .i64), .i .i64], []⟩], run := fun p k => (never_S N p.1.1.1 p.1.1.2.1 p.1.1.2.2.1).bind fun r => k ((r.1, r.2, ()), ()) }
theorem sp_never_ok (N : Nat) : SpecOK Try.prog (sp_never N) := fn_sound (B := never_B) (loops := [never_l2_L N, never_l1_L N]) (leaves := []) (fun p => never_S N p.1.1.1 p.1.1.2.1 p.1.1.2.2.1) (fun r => ((r.1, r.2, ()), ())) never_rt (fun _ _ _ => rfl) (fun r z h => by cases h; rfl) Try.func24 (by kernel_rfl) (by kernel_rfl) (by kernel_rfl) rfl rfl (by kernel_rfl) (fun args w => Sem.pv_run _ _ _ (by kernel_rfl) w) (never_all N) mixed ⟨never_l2_ok N, never_l1_ok N, trivial⟩ (fun z E Xc hE hX hret => trivial) (fun p => never_eq N p.1.1.1 p.1.1.2.1 p.1.1.2.2.1)

def lowered_l2_b (N : Nat) (rec : (List Int) → (List Int) → Int → Option (((List (Int × (Int × Bool))) × ((List (Int × (Int × Int))) × Int)) × Int × Int × List Int × List Int)) (d : ((List (Int × (Int × Bool))) × ((List (Int × (Int × Int))) × Int))) (u : Int) (u2 : Int) (u3 : Int) (u4 : ((List (Int × (Int × Bool))) × ((List (Int × (Int × Int))) × Int))) (to' : Int) (m' : List Int) (g' : List Int) (from_' : Int) : Option (((List (Int × (Int × Bool))) × ((List (Int × (Int × Int))) × Int)) × Int × Int × List Int × List Int) :=
  rng to' 13 <|
  get m' to'.toNat fun x_4 =>
  rng from_' 13 <|
  get m' from_'.toNat fun x_5 =>
  chk (x_5 + 1) <|
  rng to' 13 <|
  get m' to'.toNat fun _ =>
  rec (m'.set to'.toNat (min x_4 (x_5 + 1))) g' from_'
def lowered_l2 (N : Nat) : List (Int × Unit) → (((List (Int × (Int × Bool))) × ((List (Int × (Int × Int))) × Int))) → Int → Int → Int → (((List (Int × (Int × Bool))) × ((List (Int × (Int × Int))) × Int))) → (List Int) → (List Int) → Int → Option (((List (Int × (Int × Bool))) × ((List (Int × (Int × Int))) × Int)) × Int × Int × List Int × List Int)
  | [], d, u, u2, u3, u4, m, g, from_ =>
    some ((d, u, u2, m, g))
  | e :: es, d, u, u2, u3, u4, m, g, from_ =>
    lowered_l2_b N (fun m_ g_ from__ => lowered_l2 N es d u u2 u3 u4 m_ g_ from__) d u u2 u3 u4 e.1 m g from_
def lowered_l1 (N : Nat) : Nat → (((List (Int × (Int × Bool))) × ((List (Int × (Int × Int))) × Int))) → Int → Int → (List Int) → (List Int) → Option (List Int × List Int)
  | 0, _, _, _, _, _ => none
  | n_ + 1, d, u, u2, m, g =>
    br (decide (u2 < u))
      ((breaths_S N d u2).bind fun (x_2, y_3) =>
      ((breathsR x_2 y_3).bind fun es => lowered_l2 N es d u u2 x_2 y_3 m g u2).bind fun (d_7, u_8, u2_9, m_10, g_11) =>
      chk (u2_9 + 1) <|
      lowered_l1 N n_ d_7 u_8 (u2_9 + 1) m_10 g_11)
      (some ((m, g)))
def lowered_S (N : Nat) (d : ((List (Int × (Int × Bool))) × ((List (Int × (Int × Int))) × Int))) (m : List Int) : Option (List Int) :=
  (end__S N d).bind fun x_1 =>
  (lowered_l1 N N d x_1 0 m (List.replicate 13 (0 : Int))).bind fun (m_12, g_13) =>
  some m_12
noncomputable def lowered_sp (N : Nat) : List Spec := [sp_end_ N, sp_breaths N]
theorem lowered_all (N : Nat) : AllP (SpecOK Try.prog) (lowered_sp N) := ⟨sp_end__ok N, sp_breaths_ok N, trivial⟩
noncomputable def lowered_c : Code := (Try.f130.body).getD .skip
noncomputable abbrev lowered_B : Body := { c := lowered_c, n := 28, res := [.cell 4 165], outs := [⟨[.arr (.int .i64) 13], []⟩], m0 := 0 }
abbrev lowered_rt : altD lowered_B.outs → Option (List Int) := fun r => some r.1.1
abbrev lowered_l2_st : Sta := ⟨[0, 3, 4, 5, 8, 9, 14], ⟨[.fe (.pair (.sl (.pair (.int .i64) (.pair (.int .i64) .bool))) (.pair (.sl (.pair (.int .i64) (.pair (.int .i64) (.int .i64)))) (.int .i64))), .own 0 0, .own 1 0, .own 2 0, .i .i64, .i .i64, .fn 143 [] [.fe (.int .i64), .fe (.ptr (.pair (.sl (.pair (.int .i64) (.pair (.int .i64) .bool))) (.pair (.sl (.pair (.int .i64) (.pair (.int .i64) (.int .i64)))) (.int .i64))))]], [.segs [.arr (.int .i64) 13], .segs [.arr (.int .i64) 13], .segs [.i .i64]]⟩⟩
abbrev lowered_l2_stA : Sta := ⟨[3, 4, 5, 6], ⟨[.own 0 0, .own 1 0, .own 2 0, .i .i64], [.segs [.arr (.int .i64) 13], .segs [.arr (.int .i64) 13], .segs [.i .i64]]⟩⟩
abbrev lowered_l2_e0 : Leaf (((List (Int × (Int × Bool))) × ((List (Int × (Int × Int))) × Int)) × Int × Int × List Int × List Int) := ⟨[.c [1, 0, 1, 0, 0, 1, 1, 1], .l [1, 0, 1, 0, 0], .b 0, .c [1, 1]], ⟨[0, 3, 4, 8, 9], ⟨[.fe (.pair (.sl (.pair (.int .i64) (.pair (.int .i64) .bool))) (.pair (.sl (.pair (.int .i64) (.pair (.int .i64) (.int .i64)))) (.int .i64))), .own 0 0, .own 1 0, .i .i64, .i .i64], [.segs [.arr (.int .i64) 13], .segs [.arr (.int .i64) 13]]⟩⟩, fun p => some ((p.1.1, p.1.2.2.2.1, p.1.2.2.2.2.1, p.2.1.1, p.2.2.1.1))⟩
noncomputable def lowered_l2_L (N : Nat) : LoopS := { at_ := [.c [1, 0, 1, 0, 0, 1, 1, 0, 0, 1, 1, 0], .b 2, .b 1, .c [1, 0, 1, 0, 0, 1, 1, 1], .l [1, 0, 1, 0, 0], .b 0, .c [1, 1]], sta := lowered_l2_st, exits := [([.c [1, 0, 1, 0, 0, 1, 1, 1], .l [1, 0, 1, 0, 0], .b 0, .c [1, 1]], ⟨[0, 3, 4, 8, 9], ⟨[.fe (.pair (.sl (.pair (.int .i64) (.pair (.int .i64) .bool))) (.pair (.sl (.pair (.int .i64) (.pair (.int .i64) (.int .i64)))) (.int .i64))), .own 0 0, .own 1 0, .i .i64, .i .i64], [.segs [.arr (.int .i64) 13], .segs [.arr (.int .i64) 13]]⟩⟩)], run := fun p k => ((breathsR p.1.2.2.2.2.2.2.1.2.1 p.1.2.2.2.2.2.2.1.2.2.1).bind fun es => lowered_l2 N es p.1.1 p.1.2.2.2.2.1 p.1.2.2.2.2.2.1 p.1.2.2.2.2.2.2.1.2.1 p.1.2.2.2.2.2.2.1.2.2.1 p.2.1.1 p.2.2.1.1 p.2.2.2.1.1).bind fun e => k (.inl ((e.1, (), (), e.2.1, e.2.2.1, ()), ((e.2.2.2.1, ()), (e.2.2.2.2, ()), ()))) }
noncomputable abbrev lowered_l2_Bk : Body := { c := lowered_c, n := lowered_B.n, res := lowered_B.res, outs := lowered_B.outs, m0 := 3 }
theorem lowered_l2_end (N : Nat) (d : ((List (Int × (Int × Bool))) × ((List (Int × (Int × Int))) × Int))) (u : Int) (u2 : Int) (u3 : Int) (u4 : ((List (Int × (Int × Bool))) × ((List (Int × (Int × Int))) × Int))) (m : List Int) (g : List Int) (from_ : Int) : ev (Z := ((List (Int × (Int × Bool))) × ((List (Int × (Int × Int))) × Int)) × Int × Int × List Int × List Int) Try.prog (lowered_sp N) lowered_B [] [lowered_l2_e0] none 400 false (nrm lowered_B.c 99 [.b 2, .b 1, .c [1, 0, 1, 0, 0, 1, 1, 1], .l [1, 0, 1, 0, 0], .b 0, .c [1, 1]]) (stL lowered_l2_st ((d, (), (), (), u, u2, ((), (u3, u4, ())), ()), ((m, ()), (g, ()), (from_, ()), ()))) (stH lowered_l2_st ((d, (), (), (), u, u2, ((), (u3, u4, ())), ()), ((m, ()), (g, ()), (from_, ()), ()))) = lowered_l2 N [] d u u2 u3 u4 m g from_ := by kernel_rfl
theorem lowered_l2_asg (N : Nat) (e : Int × Unit) (es : List (Int × Unit)) (d : ((List (Int × (Int × Bool))) × ((List (Int × (Int × Int))) × Int))) (u : Int) (u2 : Int) (u3 : Int) (u4 : ((List (Int × (Int × Bool))) × ((List (Int × (Int × Int))) × Int))) (m : List Int) (g : List Int) (from_ : Int) : ev (Z := ((List (Int × (Int × Bool))) × ((List (Int × (Int × Int))) × Int)) × Int × Int × List Int × List Int) Try.prog (lowered_sp N) lowered_l2_Bk [] [⟨[.r, .c [1, 0, 1, 0, 0, 1, 1, 0, 0, 1, 1, 0, 1]], lowered_l2_stA, fun p => lowered_l2_b N (fun m_ g_ from__ => lowered_l2 N es d u u2 u3 u4 m_ g_ from__) d u u2 u3 u4 p.1.2.2.2.1 p.2.1.1 p.2.2.1.1 p.2.2.2.1.1⟩] none 400 false (nrm lowered_B.c 99 [.c [1, 0, 1, 0, 0, 1, 1, 0, 0, 1, 1, 0, 0], .r, .c [1, 0, 1, 0, 0, 1, 1, 0, 0, 1, 1, 0, 1]]) (pars [15] (encs id is_breaths.elem e) (stL lowered_l2_st ((d, (), (), (), u, u2, ((), (u3, u4, ())), ()), ((m, ()), (g, ()), (from_, ()), ())))) (stH lowered_l2_st ((d, (), (), (), u, u2, ((), (u3, u4, ())), ()), ((m, ()), (g, ()), (from_, ()), ()))) = lowered_l2 N (e :: es) d u u2 u3 u4 m g from_ := by kernel_rfl
theorem lowered_l2_bod (N : Nat) (rec : (List Int) → (List Int) → Int → Option (((List (Int × (Int × Bool))) × ((List (Int × (Int × Int))) × Int)) × Int × Int × List Int × List Int)) (d : ((List (Int × (Int × Bool))) × ((List (Int × (Int × Int))) × Int))) (u : Int) (u2 : Int) (u3 : Int) (u4 : ((List (Int × (Int × Bool))) × ((List (Int × (Int × Int))) × Int))) (to' : Int) (m' : List Int) (g' : List Int) (from_' : Int) : ev (Z := ((List (Int × (Int × Bool))) × ((List (Int × (Int × Int))) × Int)) × Int × Int × List Int × List Int) Try.prog (lowered_sp N) lowered_l2_Bk [] [⟨[], ⟨[], ⟨[], [.segs [.arr (.int .i64) 13], .segs [.arr (.int .i64) 13], .segs [.i .i64]]⟩⟩, fun p => rec p.2.1.1 p.2.2.1.1 p.2.2.2.1.1⟩] none 400 false (nrm lowered_B.c 99 [.c [1, 0, 1, 0, 0, 1, 1, 0, 0, 1, 1, 0, 1]]) (stL lowered_l2_stA (((), (), (), to', ()), ((m', ()), (g', ()), (from_', ()), ()))) (stH lowered_l2_stA (((), (), (), to', ()), ((m', ()), (g', ()), (from_', ()), ()))) = lowered_l2_b N rec d u u2 u3 u4 to' m' g' from_' := by kernel_rfl
theorem lowered_l2_ok (N : Nat) : LoopOK Try.prog lowered_B.c lowered_B.n lowered_B.m0 true (lowered_l2_L N) := by
  refine range_ok (B := lowered_B) (is := is_breaths) (g := .tmp 14) (ps := #[15]) (assign := sub lowered_c [1, 0, 1, 0, 0, 1, 1, 0, 0, 1, 1, 0, 0]) (body := sub lowered_c [1, 0, 1, 0, 0, 1, 1, 0, 0, 1, 1, 0, 1]) (Z := ((List (Int × (Int × Bool))) × ((List (Int × (Int × Int))) × Int)) × Int × Int × List Int × List Int) (x := lowered_l2_L N) (fun p => (p.1.2.2.2.2.2.2.1.2.1, p.1.2.2.2.2.2.2.1.2.2.1, ())) (fun es p => lowered_l2 N es p.1.1 p.1.2.2.2.2.1 p.1.2.2.2.2.2.1 p.1.2.2.2.2.2.2.1.2.1 p.1.2.2.2.2.2.2.1.2.2.1 p.2.1.1 p.2.2.1.1 p.2.2.2.1.1) (staA := lowered_l2_stA) (fun es q p => lowered_l2_b N (fun m_ g_ from__ => lowered_l2 N es q.1 q.2.2.2.2.1 q.2.2.2.2.2.1 q.2.2.2.2.2.2.1.2.1 q.2.2.2.2.2.2.1.2.2.1 m_ g_ from__) q.1 q.2.2.2.2.1 q.2.2.2.2.2.1 q.2.2.2.2.2.2.1.2.1 q.2.2.2.2.2.2.1.2.2.1 p.1.2.2.2.1 p.2.1.1 p.2.2.1.1 p.2.2.2.1.1) [] (fun e => .inl ((e.1, (), (), e.2.1, e.2.2.1, ()), ((e.2.2.2.1, ()), (e.2.2.2.2, ()), ()))) (fun _ _ _ => rfl) rfl (by kernel_rfl) (fun _ => by kernel_rfl) (by kernel_rfl) is_breaths_ok (Nat.le_of_ble_eq_true (by kernel_rfl)) (by kernel_rfl) ?_ ?_ ?_ ?_
  · exact fun z E Xc hE hX hx p hp a w hS => ev_sound (z := z) (B := lowered_B) (loops := []) (leaves := [lowered_l2_e0]) (top := true) (lowered_all N) mixed trivial hE hX ⟨(fun p hp => by obtain rfl := Option.some.inj hp; exact hx), trivial⟩ RetOK.no 400 false _ _ _ ((lowered_l2_end N p.1.1 p.1.2.2.2.2.1 p.1.2.2.2.2.2.1 p.1.2.2.2.2.2.2.1.2.1 p.1.2.2.2.2.2.2.1.2.2.1 p.2.1.1 p.2.2.1.1 p.2.2.2.1.1).trans hp) a w hS
  · intro z E Xc hE hX hx e he q b hb a w hS
    simp only [List.not_mem_nil] at he
  · exact fun z E Xc hE hX e es p hl hp a w hS => ev_sound (z := z) (B := lowered_l2_Bk) (loops := []) (leaves := [_]) (top := false) (lowered_all N) mixed trivial hE hX ⟨hl, trivial⟩ RetOK.no 400 false _ _ _ ((lowered_l2_asg N e es p.1.1 p.1.2.2.2.2.1 p.1.2.2.2.2.2.1 p.1.2.2.2.2.2.2.1.2.1 p.1.2.2.2.2.2.2.1.2.2.1 p.2.1.1 p.2.2.1.1 p.2.2.2.1.1).trans hp) a w hS
  · exact fun z E Xc hE hX es q he hs p hp a w hS => ev_sound (z := z) (B := lowered_l2_Bk) (loops := []) (leaves := [_]) (top := false) (lowered_all N) mixed trivial hE hX ⟨he, trivial⟩ RetOK.no 400 false _ _ _ ((lowered_l2_bod N (fun m_ g_ from__ => lowered_l2 N es q.1 q.2.2.2.2.1 q.2.2.2.2.2.1 q.2.2.2.2.2.2.1.2.1 q.2.2.2.2.2.2.1.2.2.1 m_ g_ from__) q.1 q.2.2.2.2.1 q.2.2.2.2.2.1 q.2.2.2.2.2.2.1.2.1 q.2.2.2.2.2.2.1.2.2.1 p.1.2.2.2.1 p.2.1.1 p.2.2.1.1 p.2.2.2.1.1).trans hp) a w hS
abbrev lowered_l1_at : List PI := [.c [1, 0, 1, 0, 0, 0], .c [1, 0, 1, 0, 0, 1], .l [1, 0, 1, 0, 0], .b 0, .c [1, 1]]
abbrev lowered_l1_st : Sta := ⟨[0, 3, 4, 8, 9], ⟨[.fe (.pair (.sl (.pair (.int .i64) (.pair (.int .i64) .bool))) (.pair (.sl (.pair (.int .i64) (.pair (.int .i64) (.int .i64)))) (.int .i64))), .own 0 0, .own 1 0, .i .i64, .i .i64], [.segs [.arr (.int .i64) 13], .segs [.arr (.int .i64) 13]]⟩⟩
abbrev lowered_l1_h (rec : (((List (Int × (Int × Bool))) × ((List (Int × (Int × Int))) × Int))) → Int → Int → (List Int) → (List Int) → Option (List Int × List Int)) : Leaf (List Int × List Int) := ⟨lowered_l1_at, lowered_l1_st, fun p => rec p.1.1 p.1.2.2.2.1 p.1.2.2.2.2.1 p.2.1.1 p.2.2.1.1⟩
abbrev lowered_l1_e0 : Leaf (List Int × List Int) := ⟨[.c [1, 1, 0], .c [1, 1, 1]], ⟨[3, 4], ⟨[.own 0 0, .own 1 0], [.segs [.arr (.int .i64) 13], .segs [.arr (.int .i64) 13]]⟩⟩, fun p => some ((p.2.1.1, p.2.2.1.1))⟩
noncomputable def lowered_l1_L (N : Nat) : LoopS := { at_ := lowered_l1_at, sta := lowered_l1_st, exits := [([.c [1, 1, 0], .c [1, 1, 1]], ⟨[3, 4], ⟨[.own 0 0, .own 1 0], [.segs [.arr (.int .i64) 13], .segs [.arr (.int .i64) 13]]⟩⟩)], run := fun p k => (lowered_l1 N N p.1.1 p.1.2.2.2.1 p.1.2.2.2.2.1 p.2.1.1 p.2.2.1.1).bind fun e => k (.inl (((), (), ()), ((e.1, ()), (e.2, ()), ()))) }
theorem lowered_l1_eq (N n_ : Nat) (d : ((List (Int × (Int × Bool))) × ((List (Int × (Int × Int))) × Int))) (u : Int) (u2 : Int) (m : List Int) (g : List Int) : ev (Z := List Int × List Int) Try.prog (lowered_sp N) lowered_B [lowered_l2_L N] [lowered_l1_h (lowered_l1 N n_), lowered_l1_e0] none 400 true lowered_l1_at (stL lowered_l1_st ((d, (), (), u, u2, ()), ((m, ()), (g, ()), ()))) (stH lowered_l1_st ((d, (), (), u, u2, ()), ((m, ()), (g, ()), ()))) = lowered_l1 N (n_ + 1) d u u2 m g := by kernel_rfl
theorem lowered_l1_ok (N : Nat) : LoopOK Try.prog lowered_B.c lowered_B.n lowered_B.m0 true (lowered_l1_L N) := loop_of_ev (Z := List Int × List Int) (N := N) (fun m p => lowered_l1 N m p.1.1 p.1.2.2.2.1 p.1.2.2.2.2.1 p.2.1.1 p.2.2.1.1) (fun e => .inl (((), (), ()), ((e.1, ()), (e.2, ()), ()))) (fun _ _ _ => rfl) (fun _ => rfl) (fun m z E Xc hE hX hrec hx => leaf_of_ev (B := lowered_B) (loops := [lowered_l2_L N]) (leaves := [lowered_l1_h (lowered_l1 N m), lowered_l1_e0]) (lowered_all N) mixed ⟨lowered_l2_ok N, trivial⟩ hE hX ⟨hrec, (fun p hp => by obtain rfl := Option.some.inj hp; exact hx), trivial⟩ RetOK.no (fun p => lowered_l1_eq N m p.1.1 p.1.2.2.2.1 p.1.2.2.2.2.1 p.2.1.1 p.2.2.1.1))
abbrev lowered_st : Sta := ⟨[0, 1], ⟨[.fe (.pair (.sl (.pair (.int .i64) (.pair (.int .i64) .bool))) (.pair (.sl (.pair (.int .i64) (.pair (.int .i64) (.int .i64)))) (.int .i64))), .arr (.int .i64) 13], []⟩⟩
theorem lowered_eq (N : Nat) (d : ((List (Int × (Int × Bool))) × ((List (Int × (Int × Int))) × Int))) (m : List Int) : ev (Z := List Int) Try.prog (lowered_sp N) lowered_B [lowered_l2_L N, lowered_l1_L N] [] (some lowered_rt) 400 false [.c [0], .c [1]] (stL lowered_st ((d, m, ()), ())) (stH lowered_st ((d, m, ()), ())) = lowered_S N d m := by kernel_rfl
noncomputable def sp_lowered (N : Nat) : Spec := { f := 130, ins := ⟨[.fe (.pair (.sl (.pair (.int .i64) (.pair (.int .i64) .bool))) (.pair (.sl (.pair (.int .i64) (.pair (.int .i64) (.int .i64)))) (.int .i64))), .arr (.int .i64) 13], []⟩, outs := [⟨[.arr (.int .i64) 13], []⟩], run := fun p k => (lowered_S N p.1.1 p.1.2.1).bind fun r => k ((r, ()), ()) }
theorem sp_lowered_ok (N : Nat) : SpecOK Try.prog (sp_lowered N) := fn_sound (B := lowered_B) (loops := [lowered_l2_L N, lowered_l1_L N]) (leaves := []) (fun p => lowered_S N p.1.1 p.1.2.1) (fun r => ((r, ()), ())) lowered_rt (fun _ _ _ => rfl) (fun r z h => by cases h; rfl) Try.func130 (by kernel_rfl) (by kernel_rfl) (by kernel_rfl) rfl rfl (by kernel_rfl) (fun args w => Sem.pv_run _ _ _ (by kernel_rfl) w) (lowered_all N) mixed ⟨lowered_l2_ok N, lowered_l1_ok N, trivial⟩ (fun z E Xc hE hX hret => trivial) (fun p => lowered_eq N p.1.1 p.1.2.1)

def shows1_S (N : Nat) (n : Int) : Option Bool :=
  (in__S N n 0 99).bind fun x_1 =>
  some x_1
noncomputable def shows1_sp (N : Nat) : List Spec := [sp_in_ N]
theorem shows1_all (N : Nat) : AllP (SpecOK Try.prog) (shows1_sp N) := ⟨sp_in__ok N, trivial⟩
noncomputable def shows1_c : Code := (Try.f131.body).getD .skip
noncomputable abbrev shows1_B : Body := { c := shows1_c, n := 5, res := [.tmp 2], outs := [⟨[.b], []⟩], m0 := 0 }
abbrev shows1_rt : altD shows1_B.outs → Option Bool := fun r => some r.1.1
abbrev shows1_st : Sta := ⟨[0], ⟨[.i .i64], []⟩⟩
theorem shows1_eq (N : Nat) (n : Int) : ev (Z := Bool) Try.prog (shows1_sp N) shows1_B [] [] (some shows1_rt) 400 false [.c [0], .c [1]] (stL shows1_st ((n, ()), ())) (stH shows1_st ((n, ()), ())) = shows1_S N n := by kernel_rfl
noncomputable def sp_shows1 (N : Nat) : Spec := { f := 131, ins := ⟨[.i .i64], []⟩, outs := [⟨[.b], []⟩], run := fun p k => (shows1_S N p.1.1).bind fun r => k ((r, ()), ()) }
theorem sp_shows1_ok (N : Nat) : SpecOK Try.prog (sp_shows1 N) := fn_sound (B := shows1_B) (loops := []) (leaves := []) (fun p => shows1_S N p.1.1) (fun r => ((r, ()), ())) shows1_rt (fun _ _ _ => rfl) (fun r z h => by cases h; rfl) Try.func131 (by kernel_rfl) (by kernel_rfl) (by kernel_rfl) rfl rfl (by kernel_rfl) (fun args w => Sem.pv_run _ _ _ (by kernel_rfl) w) (shows1_all N) mixed trivial (fun z E Xc hE hX hret => trivial) (fun p => shows1_eq N p.1.1)

def every1i3_S (N : Nat) (x : Int) : Option Bool :=
  (shows1_S N x).bind fun x_1 =>
  some (!x_1)
noncomputable def every1i3_sp (N : Nat) : List Spec := [sp_shows1 N]
theorem every1i3_all (N : Nat) : AllP (SpecOK Try.prog) (every1i3_sp N) := ⟨sp_shows1_ok N, trivial⟩
noncomputable def every1i3_c : Code := (Try.f154.body).getD .skip
noncomputable abbrev every1i3_B : Body := { c := every1i3_c, n := 8, res := [.tmp 3], outs := [⟨[.b], [.segs [.fn 131 [] []]]⟩], m0 := 1 }
abbrev every1i3_rt : altD every1i3_B.outs → Option Bool := fun r => some r.1.1
abbrev every1i3_st : Sta := ⟨[0, 1], ⟨[.i .i64, .own 0 0], [.segs [.fn 131 [] []]]⟩⟩
theorem every1i3_eq (N : Nat) (x : Int) : ev (Z := Bool) Try.prog (every1i3_sp N) every1i3_B [] [] (some every1i3_rt) 400 false [.c [0], .c [1]] (stL every1i3_st ((x, (), ()), ((((), ()), ()), ()))) (stH every1i3_st ((x, (), ()), ((((), ()), ()), ()))) = every1i3_S N x := by kernel_rfl
noncomputable def sp_every1i3 (N : Nat) : Spec := { f := 154, ins := ⟨[.i .i64, .own 0 0], [.segs [.fn 131 [] []]]⟩, outs := [⟨[.b], [.segs [.fn 131 [] []]]⟩], run := fun p k => (every1i3_S N p.1.1).bind fun r => k ((r, ()), ((((), ()), ()), ())) }
theorem sp_every1i3_ok (N : Nat) : SpecOK Try.prog (sp_every1i3 N) := fn_sound (B := every1i3_B) (loops := []) (leaves := []) (fun p => every1i3_S N p.1.1) (fun r => ((r, ()), ((((), ()), ()), ()))) every1i3_rt (fun _ _ _ => rfl) (fun r z h => by cases h; rfl) Try.func154 (by kernel_rfl) (by kernel_rfl) (by kernel_rfl) rfl rfl (by kernel_rfl) (fun args w => Sem.pv_run _ _ _ (by kernel_rfl) w) (every1i3_all N) mixed trivial (fun z E Xc hE hX hret => trivial) (fun p => every1i3_eq N p.1.1)

def ixfi3_l1 (N : Nat) : Nat → (List Int) → Int → Int → Option ((Int) ⊕ (Unit))
  | 0, _, _, _ => none
  | n_ + 1, s, u, u2 =>
    br (decide (u2 < u))
      (idx s u2 fun x_1 =>
      (every1i3_S N x_1).bind fun x_2 =>
      br x_2
        (some (.inl u2))
        (chk (u2 + 1) <|
        ixfi3_l1 N n_ s u (u2 + 1)))
      (some (.inr ()))
def ixfi3_S (N : Nat) (s : List Int) : Option Int :=
  (ixfi3_l1 N N s (s.length : Int) 0).bind fun e => match e with
  | .inl i_3 =>
    some i_3
  | .inr _ =>
    some (-1)
noncomputable def ixfi3_sp (N : Nat) : List Spec := [sp_every1i3 N]
theorem ixfi3_all (N : Nat) : AllP (SpecOK Try.prog) (ixfi3_sp N) := ⟨sp_every1i3_ok N, trivial⟩
noncomputable def ixfi3_c : Code := (Try.f113.body).getD .skip
noncomputable abbrev ixfi3_B : Body := { c := ixfi3_c, n := 19, res := [.tmp 4], outs := [⟨[.i .i64], [.segs [.fn 131 [] []]]⟩], m0 := 1 }
abbrev ixfi3_rt : altD ixfi3_B.outs → Option Int := fun r => some r.1.1
abbrev ixfi3_l1_at : List PI := [.c [1, 0, 1, 0, 0, 0], .c [1, 0, 1, 0, 0, 1], .l [1, 0, 1, 0, 0], .b 0, .c [1, 1]]
abbrev ixfi3_l1_st : Sta := ⟨[0, 1, 7, 8], ⟨[.sl (.int .i64), .fn 154 [] [.own 0 0], .i .i64, .i .i64], [.segs [.fn 131 [] []]]⟩⟩
abbrev ixfi3_l1_h (rec : (List Int) → Int → Int → Option ((Int) ⊕ (Unit))) : Leaf ((Int) ⊕ (Unit)) := ⟨ixfi3_l1_at, ixfi3_l1_st, fun p => rec p.1.1 p.1.2.2.1 p.1.2.2.2.1⟩
abbrev ixfi3_l1_e0 : Leaf ((Int) ⊕ (Unit)) := ⟨[.c [1, 0, 1, 0, 0, 1, 1, 0, 0, 1, 1, 0, 0], .c [1, 0, 1, 0, 0, 1, 1, 0, 0, 1, 1, 0, 1], .b 1, .c [1, 0, 1, 0, 0, 1, 1, 1], .l [1, 0, 1, 0, 0], .b 0, .c [1, 1]], ⟨[5], ⟨[.i .i64], [.segs [.fn 131 [] []]]⟩⟩, fun p => some (.inl p.1.1)⟩
abbrev ixfi3_l1_e1 : Leaf ((Int) ⊕ (Unit)) := ⟨[.c [1, 1, 0], .c [1, 1, 1]], ⟨[], ⟨[], [.segs [.fn 131 [] []]]⟩⟩, fun p => some (.inr ())⟩
noncomputable def ixfi3_l1_L (N : Nat) : LoopS := { at_ := ixfi3_l1_at, sta := ixfi3_l1_st, exits := [([.c [1, 0, 1, 0, 0, 1, 1, 0, 0, 1, 1, 0, 0], .c [1, 0, 1, 0, 0, 1, 1, 0, 0, 1, 1, 0, 1], .b 1, .c [1, 0, 1, 0, 0, 1, 1, 1], .l [1, 0, 1, 0, 0], .b 0, .c [1, 1]], ⟨[5], ⟨[.i .i64], [.segs [.fn 131 [] []]]⟩⟩), ([.c [1, 1, 0], .c [1, 1, 1]], ⟨[], ⟨[], [.segs [.fn 131 [] []]]⟩⟩)], run := fun p k => (ixfi3_l1 N N p.1.1 p.1.2.2.1 p.1.2.2.2.1).bind fun e => match e with | .inl x => k (.inl ((x, ()), ((((), ()), ()), ()))) | .inr x => k (.inr (.inl ((), ((((), ()), ()), ())))) }
theorem ixfi3_l1_eq (N n_ : Nat) (s : List Int) (u : Int) (u2 : Int) : ev (Z := (Int) ⊕ (Unit)) Try.prog (ixfi3_sp N) ixfi3_B [] [ixfi3_l1_h (ixfi3_l1 N n_), ixfi3_l1_e0, ixfi3_l1_e1] none 400 true ixfi3_l1_at (stL ixfi3_l1_st ((s, ((), ((), ())), u, u2, ()), ((((), ()), ()), ()))) (stH ixfi3_l1_st ((s, ((), ((), ())), u, u2, ()), ((((), ()), ()), ()))) = ixfi3_l1 N (n_ + 1) s u u2 := by kernel_rfl
theorem ixfi3_l1_ok (N : Nat) {top : Bool} : LoopOK Try.prog ixfi3_B.c ixfi3_B.n ixfi3_B.m0 top (ixfi3_l1_L N) := loop_of_ev (Z := (Int) ⊕ (Unit)) (N := N) (fun m p => ixfi3_l1 N m p.1.1 p.1.2.2.1 p.1.2.2.2.1) (fun e => match e with | .inl x => .inl ((x, ()), ((((), ()), ()), ())) | .inr x => .inr (.inl ((), ((((), ()), ()), ())))) (fun _ p k => bind_congr_ (ixfi3_l1 N N p.1.1 p.1.2.2.1 p.1.2.2.2.1) _ _ (fun e => by rcases e with x | x <;> rfl)) (fun _ => rfl) (fun m z E Xc hE hX hrec hx => leaf_of_ev (B := ixfi3_B) (loops := []) (leaves := [ixfi3_l1_h (ixfi3_l1 N m), ixfi3_l1_e0, ixfi3_l1_e1]) (ixfi3_all N) mixed trivial hE hX ⟨hrec, (fun p hp => by obtain rfl := Option.some.inj hp; exact hx), (fun p hp => by obtain rfl := Option.some.inj hp; exact hx), trivial⟩ RetOK.no (fun p => ixfi3_l1_eq N m p.1.1 p.1.2.2.1 p.1.2.2.2.1))
abbrev ixfi3_st : Sta := ⟨[0, 1], ⟨[.sl (.int .i64), .fn 154 [] [.own 0 0]], [.segs [.fn 131 [] []]]⟩⟩
theorem ixfi3_eq (N : Nat) (s : List Int) : ev (Z := Int) Try.prog (ixfi3_sp N) ixfi3_B [ixfi3_l1_L N] [] (some ixfi3_rt) 400 false [.c [0], .c [1]] (stL ixfi3_st ((s, ((), ((), ())), ()), ((((), ()), ()), ()))) (stH ixfi3_st ((s, ((), ((), ())), ()), ((((), ()), ()), ()))) = ixfi3_S N s := by kernel_rfl
noncomputable def sp_ixfi3 (N : Nat) : Spec := { f := 113, ins := ⟨[.sl (.int .i64), .fn 154 [] [.own 0 0]], [.segs [.fn 131 [] []]]⟩, outs := [⟨[.i .i64], [.segs [.fn 131 [] []]]⟩], run := fun p k => (ixfi3_S N p.1.1).bind fun r => k ((r, ()), ((((), ()), ()), ())) }
theorem sp_ixfi3_ok (N : Nat) : SpecOK Try.prog (sp_ixfi3 N) := fn_sound (B := ixfi3_B) (loops := [ixfi3_l1_L N]) (leaves := []) (fun p => ixfi3_S N p.1.1) (fun r => ((r, ()), ((((), ()), ()), ()))) ixfi3_rt (fun _ _ _ => rfl) (fun r z h => by cases h; rfl) Try.func113 (by kernel_rfl) (by kernel_rfl) (by kernel_rfl) rfl rfl (by kernel_rfl) (fun args w => Sem.pv_run _ _ _ (by kernel_rfl) w) (ixfi3_all N) mixed ⟨ixfi3_l1_ok N, trivial⟩ (fun z E Xc hE hX hret => trivial) (fun p => ixfi3_eq N p.1.1)

def cofi3_S (N : Nat) (s : List Int) : Option Bool :=
  (ixfi3_S N s).bind fun x_1 =>
  some (decide (0 ≤ x_1))
noncomputable def cofi3_sp (N : Nat) : List Spec := [sp_ixfi3 N]
theorem cofi3_all (N : Nat) : AllP (SpecOK Try.prog) (cofi3_sp N) := ⟨sp_ixfi3_ok N, trivial⟩
noncomputable def cofi3_c : Code := (Try.f46.body).getD .skip
noncomputable abbrev cofi3_B : Body := { c := cofi3_c, n := 9, res := [.tmp 4], outs := [⟨[.b], [.segs [.fn 131 [] []]]⟩], m0 := 1 }
abbrev cofi3_rt : altD cofi3_B.outs → Option Bool := fun r => some r.1.1
abbrev cofi3_st : Sta := ⟨[0, 1], ⟨[.sl (.int .i64), .fn 154 [] [.own 0 0]], [.segs [.fn 131 [] []]]⟩⟩
theorem cofi3_eq (N : Nat) (s : List Int) : ev (Z := Bool) Try.prog (cofi3_sp N) cofi3_B [] [] (some cofi3_rt) 400 false [.c [0], .c [1]] (stL cofi3_st ((s, ((), ((), ())), ()), ((((), ()), ()), ()))) (stH cofi3_st ((s, ((), ((), ())), ()), ((((), ()), ()), ()))) = cofi3_S N s := by kernel_rfl
noncomputable def sp_cofi3 (N : Nat) : Spec := { f := 46, ins := ⟨[.sl (.int .i64), .fn 154 [] [.own 0 0]], [.segs [.fn 131 [] []]]⟩, outs := [⟨[.b], [.segs [.fn 131 [] []]]⟩], run := fun p k => (cofi3_S N p.1.1).bind fun r => k ((r, ()), ((((), ()), ()), ())) }
theorem sp_cofi3_ok (N : Nat) : SpecOK Try.prog (sp_cofi3 N) := fn_sound (B := cofi3_B) (loops := []) (leaves := []) (fun p => cofi3_S N p.1.1) (fun r => ((r, ()), ((((), ()), ()), ()))) cofi3_rt (fun _ _ _ => rfl) (fun r z h => by cases h; rfl) Try.func46 (by kernel_rfl) (by kernel_rfl) (by kernel_rfl) rfl rfl (by kernel_rfl) (fun args w => Sem.pv_run _ _ _ (by kernel_rfl) w) (cofi3_all N) mixed trivial (fun z E Xc hE hX hret => trivial) (fun p => cofi3_eq N p.1.1)

def everyi3_S (N : Nat) (l : List Int) : Option Bool :=
  (cofi3_S N l).bind fun x_1 =>
  some (!x_1)
noncomputable def everyi3_sp (N : Nat) : List Spec := [sp_cofi3 N]
theorem everyi3_all (N : Nat) : AllP (SpecOK Try.prog) (everyi3_sp N) := ⟨sp_cofi3_ok N, trivial⟩
noncomputable def everyi3_c : Code := (Try.f128.body).getD .skip
noncomputable abbrev everyi3_B : Body := { c := everyi3_c, n := 9, res := [.tmp 4], outs := [⟨[.b], []⟩], m0 := 0 }
abbrev everyi3_rt : altD everyi3_B.outs → Option Bool := fun r => some r.1.1
abbrev everyi3_st : Sta := ⟨[0, 1], ⟨[.sl (.int .i64), .fn 131 [] []], []⟩⟩
theorem everyi3_eq (N : Nat) (l : List Int) : ev (Z := Bool) Try.prog (everyi3_sp N) everyi3_B [] [] (some everyi3_rt) 400 false [.c [0], .c [1]] (stL everyi3_st ((l, ((), ()), ()), ())) (stH everyi3_st ((l, ((), ()), ()), ())) = everyi3_S N l := by kernel_rfl
noncomputable def sp_everyi3 (N : Nat) : Spec := { f := 128, ins := ⟨[.sl (.int .i64), .fn 131 [] []], []⟩, outs := [⟨[.b], []⟩], run := fun p k => (everyi3_S N p.1.1).bind fun r => k ((r, ()), ()) }
theorem sp_everyi3_ok (N : Nat) : SpecOK Try.prog (sp_everyi3 N) := fn_sound (B := everyi3_B) (loops := []) (leaves := []) (fun p => everyi3_S N p.1.1) (fun r => ((r, ()), ())) everyi3_rt (fun _ _ _ => rfl) (fun r z h => by cases h; rfl) Try.func128 (by kernel_rfl) (by kernel_rfl) (by kernel_rfl) rfl rfl (by kernel_rfl) (fun args w => Sem.pv_run _ _ _ (by kernel_rfl) w) (everyi3_all N) mixed trivial (fun z E Xc hE hX hret => trivial) (fun p => everyi3_eq N p.1.1)

def shows_l1 (N : Nat) : Nat → (((List (Int × (Int × Bool))) × ((List (Int × (Int × Int))) × Int))) → (List Int) → Int → Int → (List Int) → Option (((List (Int × (Int × Bool))) × ((List (Int × (Int × Int))) × Int)) × List Int)
  | 0, _, _, _, _, _ => none
  | n_ + 1, d, u, u2, u3, m =>
    br (decide (u3 < u2))
      (idx u u3 fun x_5 =>
      rng u3 13 <|
      get m u3.toNat fun _ =>
      chk (u3 + 1) <|
      shows_l1 N n_ d u u2 (u3 + 1) (m.set u3.toNat x_5))
      (some ((d, m)))
def shows_S (N : Nat) (t : List (Int × (Int × Bool))) (t2 : List (Int × (Int × Int))) (t3 : Int) (l : List Int) : Option (Int × Int) :=
  ((opened_S N t t2 t3).bind fun e => match e with
  | .inl (x_1, y_2) =>
    (br (!decide (y_2 = 0))
      (some (0, y_2))
      ((end__S N x_1).bind fun x_3 =>
      chk (x_3 + 1) <|
      br (!decide ((l.length : Int) = (x_3 + 1)))
        (some (0, 2))
        ((everyi3_S N l).bind fun x_4 =>
        br (!x_4)
          (some (0, 3))
          ((shows_l1 N N x_1 l (l.length : Int) 0 (List.replicate 13 (0 : Int))).bind fun (d_7, m_8) =>
          get m_8 0 fun x_9 =>
          br (!decide (x_9 = 0))
            (some (0, 8))
            ((lowered_S N d_7 m_8).bind fun x_10 =>
            br (!decide (x_10 = m_8))
              (some (0, 8))
              ((end__S N d_7).bind fun x_11 =>
              rng x_11 13 <|
              get m_8 x_11.toNat fun x_12 =>
              some (x_12, 0)))))))
  | .inr x_13 =>
    (br (!decide (x_13 = 0))
      (some (0, x_13))
      (none)))
noncomputable def shows_sp (N : Nat) : List Spec := [sp_opened N, sp_end_ N, sp_lowered N, sp_everyi3 N]
theorem shows_all (N : Nat) : AllP (SpecOK Try.prog) (shows_sp N) := ⟨sp_opened_ok N, sp_end__ok N, sp_lowered_ok N, sp_everyi3_ok N, trivial⟩
noncomputable def shows_c : Code := (Try.f66.body).getD .skip
noncomputable abbrev shows_B : Body := { c := shows_c, n := 56, res := [.tmp 4, .tmp 5], outs := [⟨[.i .i64, .i .i64], []⟩], m0 := 0 }
abbrev shows_rt : altD shows_B.outs → Option (Int × Int) := fun r => some (r.1.1, r.1.2.1)
abbrev shows_l1_at : List PI := [.c [1, 1, 1, 1, 0, 1, 0, 0, 0], .c [1, 1, 1, 1, 0, 1, 0, 0, 1], .l [1, 1, 1, 1, 0, 1, 0, 0], .b 1, .c [1, 1, 1, 1, 1]]
abbrev shows_l1_st : Sta := ⟨[6, 8, 31, 32, 33], ⟨[.fe (.pair (.sl (.pair (.int .i64) (.pair (.int .i64) .bool))) (.pair (.sl (.pair (.int .i64) (.pair (.int .i64) (.int .i64)))) (.int .i64))), .own 0 0, .sl (.int .i64), .i .i64, .i .i64], [.segs [.arr (.int .i64) 13]]⟩⟩
abbrev shows_l1_h (rec : (((List (Int × (Int × Bool))) × ((List (Int × (Int × Int))) × Int))) → (List Int) → Int → Int → (List Int) → Option (((List (Int × (Int × Bool))) × ((List (Int × (Int × Int))) × Int)) × List Int)) : Leaf (((List (Int × (Int × Bool))) × ((List (Int × (Int × Int))) × Int)) × List Int) := ⟨shows_l1_at, shows_l1_st, fun p => rec p.1.1 p.1.2.2.1 p.1.2.2.2.1 p.1.2.2.2.2.1 p.2.1.1⟩
abbrev shows_l1_e0 : Leaf (((List (Int × (Int × Bool))) × ((List (Int × (Int × Int))) × Int)) × List Int) := ⟨[.c [1, 1, 1, 1, 1, 0, 0], .c [1, 1, 1, 1, 1, 0, 1], .c [1, 1, 1, 1, 1, 1]], ⟨[6, 8], ⟨[.fe (.pair (.sl (.pair (.int .i64) (.pair (.int .i64) .bool))) (.pair (.sl (.pair (.int .i64) (.pair (.int .i64) (.int .i64)))) (.int .i64))), .own 0 0], [.segs [.arr (.int .i64) 13]]⟩⟩, fun p => some ((p.1.1, p.2.1.1))⟩
noncomputable def shows_l1_L (N : Nat) : LoopS := { at_ := shows_l1_at, sta := shows_l1_st, exits := [([.c [1, 1, 1, 1, 1, 0, 0], .c [1, 1, 1, 1, 1, 0, 1], .c [1, 1, 1, 1, 1, 1]], ⟨[6, 8], ⟨[.fe (.pair (.sl (.pair (.int .i64) (.pair (.int .i64) .bool))) (.pair (.sl (.pair (.int .i64) (.pair (.int .i64) (.int .i64)))) (.int .i64))), .own 0 0], [.segs [.arr (.int .i64) 13]]⟩⟩)], run := fun p k => (shows_l1 N N p.1.1 p.1.2.2.1 p.1.2.2.2.1 p.1.2.2.2.2.1 p.2.1.1).bind fun e => k (.inl ((e.1, (), ()), ((e.2, ()), ()))) }
theorem shows_l1_eq (N n_ : Nat) (d : ((List (Int × (Int × Bool))) × ((List (Int × (Int × Int))) × Int))) (u : List Int) (u2 : Int) (u3 : Int) (m : List Int) : ev (Z := ((List (Int × (Int × Bool))) × ((List (Int × (Int × Int))) × Int)) × List Int) Try.prog (shows_sp N) shows_B [] [shows_l1_h (shows_l1 N n_), shows_l1_e0] none 400 true shows_l1_at (stL shows_l1_st ((d, (), u, u2, u3, ()), ((m, ()), ()))) (stH shows_l1_st ((d, (), u, u2, u3, ()), ((m, ()), ()))) = shows_l1 N (n_ + 1) d u u2 u3 m := by kernel_rfl
theorem shows_l1_ok (N : Nat) {top : Bool} : LoopOK Try.prog shows_B.c shows_B.n shows_B.m0 top (shows_l1_L N) := loop_of_ev (Z := ((List (Int × (Int × Bool))) × ((List (Int × (Int × Int))) × Int)) × List Int) (N := N) (fun m p => shows_l1 N m p.1.1 p.1.2.2.1 p.1.2.2.2.1 p.1.2.2.2.2.1 p.2.1.1) (fun e => .inl ((e.1, (), ()), ((e.2, ()), ()))) (fun _ _ _ => rfl) (fun _ => rfl) (fun m z E Xc hE hX hrec hx => leaf_of_ev (B := shows_B) (loops := []) (leaves := [shows_l1_h (shows_l1 N m), shows_l1_e0]) (shows_all N) mixed trivial hE hX ⟨hrec, (fun p hp => by obtain rfl := Option.some.inj hp; exact hx), trivial⟩ RetOK.no (fun p => shows_l1_eq N m p.1.1 p.1.2.2.1 p.1.2.2.2.1 p.1.2.2.2.2.1 p.2.1.1))
abbrev shows_st : Sta := ⟨[0, 1], ⟨[.agg [.sl (.pair (.int .i64) (.pair (.int .i64) .bool)), .sl (.pair (.int .i64) (.pair (.int .i64) (.int .i64))), .i .i64], .sl (.int .i64)], []⟩⟩
theorem shows_eq (N : Nat) (t : List (Int × (Int × Bool))) (t2 : List (Int × (Int × Int))) (t3 : Int) (l : List Int) : ev (Z := Int × Int) Try.prog (shows_sp N) shows_B [shows_l1_L N] [] (some shows_rt) 400 false [.c [0], .c [1]] (stL shows_st (((t, t2, t3, ()), l, ()), ())) (stH shows_st (((t, t2, t3, ()), l, ()), ())) = shows_S N t t2 t3 l := by kernel_rfl
noncomputable def sp_shows (N : Nat) : Spec := { f := 66, ins := ⟨[.agg [.sl (.pair (.int .i64) (.pair (.int .i64) .bool)), .sl (.pair (.int .i64) (.pair (.int .i64) (.int .i64))), .i .i64], .sl (.int .i64)], []⟩, outs := [⟨[.i .i64, .i .i64], []⟩], run := fun p k => (shows_S N p.1.1.1 p.1.1.2.1 p.1.1.2.2.1 p.1.2.1).bind fun r => k ((r.1, r.2, ()), ()) }
theorem sp_shows_ok (N : Nat) : SpecOK Try.prog (sp_shows N) := fn_sound (B := shows_B) (loops := [shows_l1_L N]) (leaves := []) (fun p => shows_S N p.1.1.1 p.1.1.2.1 p.1.1.2.2.1 p.1.2.1) (fun r => ((r.1, r.2, ()), ())) shows_rt (fun _ _ _ => rfl) (fun r z h => by cases h; rfl) Try.func66 (by kernel_rfl) (by kernel_rfl) (by kernel_rfl) rfl rfl (by kernel_rfl) (fun args w => Sem.pv_run _ _ _ (by kernel_rfl) w) (shows_all N) mixed ⟨shows_l1_ok N, trivial⟩ (fun z E Xc hE hX hret => trivial) (fun p => shows_eq N p.1.1.1 p.1.1.2.1 p.1.1.2.2.1 p.1.2.1)

def cloneo_S (N : Nat) (s : List Int) : Option (List Int) :=
  grd (!s.isEmpty) <|
  lim (([] : (List Int)).length + s.length) <|
  some (([] : (List Int)) ++ s)
noncomputable def cloneo_sp (N : Nat) : List Spec := []
theorem cloneo_all (N : Nat) : AllP (SpecOK Try.prog) (cloneo_sp N) := trivial
noncomputable def cloneo_c : Code := (Try.f74.body).getD .skip
noncomputable abbrev cloneo_B : Body := { c := cloneo_c, n := 8, res := [.tmp 2], outs := [⟨[.ols 0], [.lst (.int .i64)]⟩], m0 := 0 }
abbrev cloneo_rt : altD cloneo_B.outs → Option (List Int) := fun r => some r.2.1
abbrev cloneo_st : Sta := ⟨[0], ⟨[.sl (.int .i64)], []⟩⟩
theorem cloneo_eq (N : Nat) (s : List Int) : ev (Z := List Int) Try.prog (cloneo_sp N) cloneo_B [] [] (some cloneo_rt) 400 false [.c [0], .c [1]] (stL cloneo_st ((s, ()), ())) (stH cloneo_st ((s, ()), ())) = cloneo_S N s := by kernel_rfl
noncomputable def sp_cloneo (N : Nat) : Spec := { f := 74, ins := ⟨[.sl (.int .i64)], []⟩, outs := [⟨[.ols 0], [.lst (.int .i64)]⟩], run := fun p k => (cloneo_S N p.1.1).bind fun r => k (((), ()), (r, ())) }
theorem sp_cloneo_ok (N : Nat) : SpecOK Try.prog (sp_cloneo N) := fn_sound (B := cloneo_B) (loops := []) (leaves := []) (fun p => cloneo_S N p.1.1) (fun r => (((), ()), (r, ()))) cloneo_rt (fun _ _ _ => rfl) (fun r z h => by cases h; rfl) Try.func74 (by kernel_rfl) (by kernel_rfl) (by kernel_rfl) rfl rfl (by kernel_rfl) (fun args w => Sem.pv_run _ _ _ (by kernel_rfl) w) (cloneo_all N) mixed trivial (fun z E Xc hE hX hret => trivial) (fun p => cloneo_eq N p.1.1)

def clonen_S (N : Nat)  : Option Unit :=
  some ()
noncomputable def clonen_sp (N : Nat) : List Spec := []
theorem clonen_all (N : Nat) : AllP (SpecOK Try.prog) (clonen_sp N) := trivial
noncomputable def clonen_c : Code := (Try.f74.body).getD .skip
noncomputable abbrev clonen_B : Body := { c := clonen_c, n := 8, res := [.tmp 2], outs := [⟨[.nils], []⟩], m0 := 0 }
abbrev clonen_rt : altD clonen_B.outs → Option Unit := fun r => some ()
abbrev clonen_st : Sta := ⟨[0], ⟨[.nils], []⟩⟩
theorem clonen_eq (N : Nat)  : ev (Z := Unit) Try.prog (clonen_sp N) clonen_B [] [] (some clonen_rt) 400 false [.c [0], .c [1]] (stL clonen_st (((), ()), ())) (stH clonen_st (((), ()), ())) = clonen_S N := by kernel_rfl
noncomputable def sp_clonen (N : Nat) : Spec := { f := 74, ins := ⟨[.nils], []⟩, outs := [⟨[.nils], []⟩], run := fun p k => (clonen_S N).bind fun r => k (((), ()), ()) }
theorem sp_clonen_ok (N : Nat) : SpecOK Try.prog (sp_clonen N) := fn_sound (B := clonen_B) (loops := []) (leaves := []) (fun p => clonen_S N ) (fun r => (((), ()), ())) clonen_rt (fun _ _ _ => rfl) (fun r z h => by cases h; rfl) Try.func74 (by kernel_rfl) (by kernel_rfl) (by kernel_rfl) rfl rfl (by kernel_rfl) (fun args w => Sem.pv_run _ _ _ (by kernel_rfl) w) (clonen_all N) mixed trivial (fun z E Xc hE hX hret => trivial) (fun p => clonen_eq N )

noncomputable abbrev choose_self (self : (List Int) → Int → Int → (((List (Int × (Int × Bool))) × ((List (Int × (Int × Int))) × Int))) → Int → (((List (Int × (Int × Bool))) × ((List (Int × (Int × Int))) × Int))) → Int → Option ((((List (Int × (Int × Bool))) × ((List (Int × (Int × Int))) × Int)) × Int) ⊕ (List Int × ((List (Int × (Int × Bool))) × ((List (Int × (Int × Int))) × Int)) × Int))) : Spec := { f := 117, ins := ⟨[.sl (.int .i64), .i .i64, .i .i64, .fe (.ptr (.pair (.sl (.pair (.int .i64) (.pair (.int .i64) .bool))) (.pair (.sl (.pair (.int .i64) (.pair (.int .i64) (.int .i64)))) (.int .i64)))), .fe (.int .i64), .own 0 0], [.segs [.fn 117 [] [.fe (.ptr (.pair (.sl (.pair (.int .i64) (.pair (.int .i64) .bool))) (.pair (.sl (.pair (.int .i64) (.pair (.int .i64) (.int .i64)))) (.int .i64)))), .fe (.int .i64), .own 0 0]]]⟩, outs := [⟨[.nils], [.segs [.fn 117 [] [.fe (.ptr (.pair (.sl (.pair (.int .i64) (.pair (.int .i64) .bool))) (.pair (.sl (.pair (.int .i64) (.pair (.int .i64) (.int .i64)))) (.int .i64)))), .fe (.int .i64), .own 0 0]]]⟩, ⟨[.sl (.int .i64)], [.segs [.fn 117 [] [.fe (.ptr (.pair (.sl (.pair (.int .i64) (.pair (.int .i64) .bool))) (.pair (.sl (.pair (.int .i64) (.pair (.int .i64) (.int .i64)))) (.int .i64)))), .fe (.int .i64), .own 0 0]]]⟩], run := fun p k => (self p.1.1 p.1.2.1 p.1.2.2.1 p.1.2.2.2.1 p.1.2.2.2.2.1 p.2.1.1.2.1 p.2.1.1.2.2.1).bind fun r => match r with | .inl r => k (.inl (((), ()), ((((), (r.1, r.2, (), ())), ()), ()))) | .inr r => k (.inr ((r.1, ()), ((((), (r.2.1, r.2.2, (), ())), ()), ()))) }
def choose_l1 (N : Nat) (self : (List Int) → Int → Int → (((List (Int × (Int × Bool))) × ((List (Int × (Int × Int))) × Int))) → Int → (((List (Int × (Int × Bool))) × ((List (Int × (Int × Int))) × Int))) → Int → Option ((((List (Int × (Int × Bool))) × ((List (Int × (Int × Int))) × Int)) × Int) ⊕ (List Int × ((List (Int × (Int × Bool))) × ((List (Int × (Int × Int))) × Int)) × Int))) : Nat → (List Int) → Int → (((List (Int × (Int × Bool))) × ((List (Int × (Int × Int))) × Int))) → Int → (((List (Int × (Int × Bool))) × ((List (Int × (Int × Int))) × Int))) → Int → Option ((List Int × ((List (Int × (Int × Bool))) × ((List (Int × (Int × Int))) × Int)) × Int) ⊕ (((List (Int × (Int × Bool))) × ((List (Int × (Int × Int))) × Int)) × Int))
  | 0, _, _, _, _, _, _ => none
  | n_ + 1, l, more, u, w, g, g2 =>
    chk (w + more) <|
    (end__S N u).bind fun x_3 =>
    br (decide ((w + more) ≤ x_3))
      ((cloneo_S N l).bind fun x_4 =>
      lim (x_4.length + [w].length) <|
      chk (w + 1) <|
      chk (more - 1) <|
      ((self (x_4 ++ [w]) (w + 1) (more - 1) g g2 g g2).bind fun e => match e with
      | .inl (x_5, y_6) =>
        (chk (w + 1) <|
        choose_l1 N self n_ l more u (w + 1) x_5 y_6)
      | .inr (x_7, y_8, y_9) =>
        (grd (!x_7.isEmpty) <|
        some (.inl (x_7, y_8, y_9)))))
      (some (.inr (g, g2)))
def choose_S (N : Nat) (self : (List Int) → Int → Int → (((List (Int × (Int × Bool))) × ((List (Int × (Int × Int))) × Int))) → Int → (((List (Int × (Int × Bool))) × ((List (Int × (Int × Int))) × Int))) → Int → Option ((((List (Int × (Int × Bool))) × ((List (Int × (Int × Int))) × Int)) × Int) ⊕ (List Int × ((List (Int × (Int × Bool))) × ((List (Int × (Int × Int))) × Int)) × Int))) (l : List Int) (from_ : Int) (more : Int) (u : ((List (Int × (Int × Bool))) × ((List (Int × (Int × Int))) × Int))) (u2 : Int) (g : ((List (Int × (Int × Bool))) × ((List (Int × (Int × Int))) × Int))) (g2 : Int) : Option ((((List (Int × (Int × Bool))) × ((List (Int × (Int × Int))) × Int)) × Int) ⊕ (List Int × ((List (Int × (Int × Bool))) × ((List (Int × (Int × Int))) × Int)) × Int)) :=
  br (decide (more = 0))
    ((weight_S N u l).bind fun x_1 =>
    br (decide (u2 ≤ x_1))
      ((keeps_S N u l).bind fun x_2 =>
      br x_2
        (some (.inr (l, g, g2)))
        (some (.inl (g, g2))))
      (some (.inl (g, g2))))
    ((choose_l1 N self N l more u from_ g g2).bind fun e => match e with
    | .inl (out_10, g_11, g2_12) =>
      some (.inr (out_10, g_11, g2_12))
    | .inr (g_13, g2_14) =>
      some (.inl (g_13, g2_14)))
noncomputable def choose_sp (N : Nat) (self : (List Int) → Int → Int → (((List (Int × (Int × Bool))) × ((List (Int × (Int × Int))) × Int))) → Int → (((List (Int × (Int × Bool))) × ((List (Int × (Int × Int))) × Int))) → Int → Option ((((List (Int × (Int × Bool))) × ((List (Int × (Int × Int))) × Int)) × Int) ⊕ (List Int × ((List (Int × (Int × Bool))) × ((List (Int × (Int × Int))) × Int)) × Int))) : List Spec := [sp_cloneo N, sp_end_ N, sp_keeps N, sp_weight N, choose_self self]
theorem choose_all (N : Nat) (self : (List Int) → Int → Int → (((List (Int × (Int × Bool))) × ((List (Int × (Int × Int))) × Int))) → Int → (((List (Int × (Int × Bool))) × ((List (Int × (Int × Int))) × Int))) → Int → Option ((((List (Int × (Int × Bool))) × ((List (Int × (Int × Int))) × Int)) × Int) ⊕ (List Int × ((List (Int × (Int × Bool))) × ((List (Int × (Int × Int))) × Int)) × Int))) (hself : SpecOK Try.prog (choose_self self)) : AllP (SpecOK Try.prog) (choose_sp N self) := ⟨sp_cloneo_ok N, sp_end__ok N, sp_keeps_ok N, sp_weight_ok N, hself, trivial⟩
noncomputable def choose_c : Code := (Try.f117.body).getD .skip
noncomputable abbrev choose_B : Body := { c := choose_c, n := 48, res := [.tmp 9], outs := [⟨[.nils], [.segs [.fn 117 [] [.fe (.ptr (.pair (.sl (.pair (.int .i64) (.pair (.int .i64) .bool))) (.pair (.sl (.pair (.int .i64) (.pair (.int .i64) (.int .i64)))) (.int .i64)))), .fe (.int .i64), .own 0 0]]]⟩, ⟨[.sl (.int .i64)], [.segs [.fn 117 [] [.fe (.ptr (.pair (.sl (.pair (.int .i64) (.pair (.int .i64) .bool))) (.pair (.sl (.pair (.int .i64) (.pair (.int .i64) (.int .i64)))) (.int .i64)))), .fe (.int .i64), .own 0 0]]]⟩], m0 := 1 }
abbrev choose_rt : altD choose_B.outs → Option ((((List (Int × (Int × Bool))) × ((List (Int × (Int × Int))) × Int)) × Int) ⊕ (List Int × ((List (Int × (Int × Bool))) × ((List (Int × (Int × Int))) × Int)) × Int)) := fun r => match r with | .inl r => some (.inl (r.2.1.1.2.1, r.2.1.1.2.2.1)) | .inr r => some (.inr (r.1.1, r.2.1.1.2.1, r.2.1.1.2.2.1))
abbrev choose_l1_at : List PI := [.c [1, 1, 0, 1, 0, 0, 0, 0], .c [1, 1, 0, 1, 0, 0, 0, 1], .c [1, 1, 0, 1, 0, 0, 1], .l [1, 1, 0, 1, 0, 0], .b 0, .c [1, 1, 1]]
abbrev choose_l1_st : Sta := ⟨[0, 2, 3, 5, 10], ⟨[.sl (.int .i64), .i .i64, .fe (.ptr (.pair (.sl (.pair (.int .i64) (.pair (.int .i64) .bool))) (.pair (.sl (.pair (.int .i64) (.pair (.int .i64) (.int .i64)))) (.int .i64)))), .own 0 0, .i .i64], [.segs [.fn 117 [] [.fe (.ptr (.pair (.sl (.pair (.int .i64) (.pair (.int .i64) .bool))) (.pair (.sl (.pair (.int .i64) (.pair (.int .i64) (.int .i64)))) (.int .i64)))), .fe (.int .i64), .own 0 0]]]⟩⟩
abbrev choose_l1_h (rec : (List Int) → Int → (((List (Int × (Int × Bool))) × ((List (Int × (Int × Int))) × Int))) → Int → (((List (Int × (Int × Bool))) × ((List (Int × (Int × Int))) × Int))) → Int → Option ((List Int × ((List (Int × (Int × Bool))) × ((List (Int × (Int × Int))) × Int)) × Int) ⊕ (((List (Int × (Int × Bool))) × ((List (Int × (Int × Int))) × Int)) × Int))) : Leaf ((List Int × ((List (Int × (Int × Bool))) × ((List (Int × (Int × Int))) × Int)) × Int) ⊕ (((List (Int × (Int × Bool))) × ((List (Int × (Int × Int))) × Int)) × Int)) := ⟨choose_l1_at, choose_l1_st, fun p => rec p.1.1 p.1.2.1 p.1.2.2.1 p.1.2.2.2.2.1 p.2.1.1.2.1 p.2.1.1.2.2.1⟩
abbrev choose_l1_e0 : Leaf ((List Int × ((List (Int × (Int × Bool))) × ((List (Int × (Int × Int))) × Int)) × Int) ⊕ (((List (Int × (Int × Bool))) × ((List (Int × (Int × Int))) × Int)) × Int)) := ⟨[.c [1, 1, 0, 1, 0, 0, 1, 0, 0, 1, 1, 0, 0], .c [1, 1, 0, 1, 0, 0, 1, 0, 0, 1, 1, 0, 1], .b 1, .c [1, 1, 0, 1, 0, 0, 1, 1], .l [1, 1, 0, 1, 0, 0], .b 0, .c [1, 1, 1]], ⟨[11], ⟨[.sl (.int .i64)], [.segs [.fn 117 [] [.fe (.ptr (.pair (.sl (.pair (.int .i64) (.pair (.int .i64) .bool))) (.pair (.sl (.pair (.int .i64) (.pair (.int .i64) (.int .i64)))) (.int .i64)))), .fe (.int .i64), .own 0 0]]]⟩⟩, fun p => some (.inl (p.1.1, p.2.1.1.2.1, p.2.1.1.2.2.1))⟩
abbrev choose_l1_e1 : Leaf ((List Int × ((List (Int × (Int × Bool))) × ((List (Int × (Int × Int))) × Int)) × Int) ⊕ (((List (Int × (Int × Bool))) × ((List (Int × (Int × Int))) × Int)) × Int)) := ⟨[.c [1, 1, 1, 0], .c [1, 1, 1, 1]], ⟨[], ⟨[], [.segs [.fn 117 [] [.fe (.ptr (.pair (.sl (.pair (.int .i64) (.pair (.int .i64) .bool))) (.pair (.sl (.pair (.int .i64) (.pair (.int .i64) (.int .i64)))) (.int .i64)))), .fe (.int .i64), .own 0 0]]]⟩⟩, fun p => some (.inr (p.2.1.1.2.1, p.2.1.1.2.2.1))⟩
noncomputable def choose_l1_L (N : Nat) (self : (List Int) → Int → Int → (((List (Int × (Int × Bool))) × ((List (Int × (Int × Int))) × Int))) → Int → (((List (Int × (Int × Bool))) × ((List (Int × (Int × Int))) × Int))) → Int → Option ((((List (Int × (Int × Bool))) × ((List (Int × (Int × Int))) × Int)) × Int) ⊕ (List Int × ((List (Int × (Int × Bool))) × ((List (Int × (Int × Int))) × Int)) × Int))) : LoopS := { at_ := choose_l1_at, sta := choose_l1_st, exits := [([.c [1, 1, 0, 1, 0, 0, 1, 0, 0, 1, 1, 0, 0], .c [1, 1, 0, 1, 0, 0, 1, 0, 0, 1, 1, 0, 1], .b 1, .c [1, 1, 0, 1, 0, 0, 1, 1], .l [1, 1, 0, 1, 0, 0], .b 0, .c [1, 1, 1]], ⟨[11], ⟨[.sl (.int .i64)], [.segs [.fn 117 [] [.fe (.ptr (.pair (.sl (.pair (.int .i64) (.pair (.int .i64) .bool))) (.pair (.sl (.pair (.int .i64) (.pair (.int .i64) (.int .i64)))) (.int .i64)))), .fe (.int .i64), .own 0 0]]]⟩⟩), ([.c [1, 1, 1, 0], .c [1, 1, 1, 1]], ⟨[], ⟨[], [.segs [.fn 117 [] [.fe (.ptr (.pair (.sl (.pair (.int .i64) (.pair (.int .i64) .bool))) (.pair (.sl (.pair (.int .i64) (.pair (.int .i64) (.int .i64)))) (.int .i64)))), .fe (.int .i64), .own 0 0]]]⟩⟩)], run := fun p k => (choose_l1 N self N p.1.1 p.1.2.1 p.1.2.2.1 p.1.2.2.2.2.1 p.2.1.1.2.1 p.2.1.1.2.2.1).bind fun e => match e with | .inl x => k (.inl ((x.1, ()), ((((), (x.2.1, x.2.2, (), ())), ()), ()))) | .inr x => k (.inr (.inl ((), ((((), (x.1, x.2, (), ())), ()), ())))) }
theorem choose_l1_eq (N : Nat) (self : (List Int) → Int → Int → (((List (Int × (Int × Bool))) × ((List (Int × (Int × Int))) × Int))) → Int → (((List (Int × (Int × Bool))) × ((List (Int × (Int × Int))) × Int))) → Int → Option ((((List (Int × (Int × Bool))) × ((List (Int × (Int × Int))) × Int)) × Int) ⊕ (List Int × ((List (Int × (Int × Bool))) × ((List (Int × (Int × Int))) × Int)) × Int))) (n_ : Nat) (l : List Int) (more : Int) (u : ((List (Int × (Int × Bool))) × ((List (Int × (Int × Int))) × Int))) (w : Int) (g : ((List (Int × (Int × Bool))) × ((List (Int × (Int × Int))) × Int))) (g2 : Int) : ev (Z := (List Int × ((List (Int × (Int × Bool))) × ((List (Int × (Int × Int))) × Int)) × Int) ⊕ (((List (Int × (Int × Bool))) × ((List (Int × (Int × Int))) × Int)) × Int)) Try.prog (choose_sp N self) choose_B [] [choose_l1_h (choose_l1 N self n_), choose_l1_e0, choose_l1_e1] none 400 true choose_l1_at (stL choose_l1_st ((l, more, u, (), w, ()), ((((), (g, g2, (), ())), ()), ()))) (stH choose_l1_st ((l, more, u, (), w, ()), ((((), (g, g2, (), ())), ()), ()))) = choose_l1 N self (n_ + 1) l more u w g g2 := by kernel_rfl
theorem choose_l1_ok (N : Nat) (self : (List Int) → Int → Int → (((List (Int × (Int × Bool))) × ((List (Int × (Int × Int))) × Int))) → Int → (((List (Int × (Int × Bool))) × ((List (Int × (Int × Int))) × Int))) → Int → Option ((((List (Int × (Int × Bool))) × ((List (Int × (Int × Int))) × Int)) × Int) ⊕ (List Int × ((List (Int × (Int × Bool))) × ((List (Int × (Int × Int))) × Int)) × Int))) (hself : SpecOK Try.prog (choose_self self)) {top : Bool} : LoopOK Try.prog choose_B.c choose_B.n choose_B.m0 top (choose_l1_L N self) := loop_of_ev (Z := (List Int × ((List (Int × (Int × Bool))) × ((List (Int × (Int × Int))) × Int)) × Int) ⊕ (((List (Int × (Int × Bool))) × ((List (Int × (Int × Int))) × Int)) × Int)) (N := N) (fun m p => choose_l1 N self m p.1.1 p.1.2.1 p.1.2.2.1 p.1.2.2.2.2.1 p.2.1.1.2.1 p.2.1.1.2.2.1) (fun e => match e with | .inl x => .inl ((x.1, ()), ((((), (x.2.1, x.2.2, (), ())), ()), ())) | .inr x => .inr (.inl ((), ((((), (x.1, x.2, (), ())), ()), ())))) (fun _ p k => bind_congr_ (choose_l1 N self N p.1.1 p.1.2.1 p.1.2.2.1 p.1.2.2.2.2.1 p.2.1.1.2.1 p.2.1.1.2.2.1) _ _ (fun e => by rcases e with x | x <;> rfl)) (fun _ => rfl) (fun m z E Xc hE hX hrec hx => leaf_of_ev (B := choose_B) (loops := []) (leaves := [choose_l1_h (choose_l1 N self m), choose_l1_e0, choose_l1_e1]) (choose_all N self hself) mixed trivial hE hX ⟨hrec, (fun p hp => by obtain rfl := Option.some.inj hp; exact hx), (fun p hp => by obtain rfl := Option.some.inj hp; exact hx), trivial⟩ RetOK.no (fun p => choose_l1_eq N self m p.1.1 p.1.2.1 p.1.2.2.1 p.1.2.2.2.2.1 p.2.1.1.2.1 p.2.1.1.2.2.1))
abbrev choose_st : Sta := ⟨[0, 1, 2, 3, 4, 5], ⟨[.sl (.int .i64), .i .i64, .i .i64, .fe (.ptr (.pair (.sl (.pair (.int .i64) (.pair (.int .i64) .bool))) (.pair (.sl (.pair (.int .i64) (.pair (.int .i64) (.int .i64)))) (.int .i64)))), .fe (.int .i64), .own 0 0], [.segs [.fn 117 [] [.fe (.ptr (.pair (.sl (.pair (.int .i64) (.pair (.int .i64) .bool))) (.pair (.sl (.pair (.int .i64) (.pair (.int .i64) (.int .i64)))) (.int .i64)))), .fe (.int .i64), .own 0 0]]]⟩⟩
theorem choose_eq (N : Nat) (self : (List Int) → Int → Int → (((List (Int × (Int × Bool))) × ((List (Int × (Int × Int))) × Int))) → Int → (((List (Int × (Int × Bool))) × ((List (Int × (Int × Int))) × Int))) → Int → Option ((((List (Int × (Int × Bool))) × ((List (Int × (Int × Int))) × Int)) × Int) ⊕ (List Int × ((List (Int × (Int × Bool))) × ((List (Int × (Int × Int))) × Int)) × Int))) (l : List Int) (from_ : Int) (more : Int) (u : ((List (Int × (Int × Bool))) × ((List (Int × (Int × Int))) × Int))) (u2 : Int) (g : ((List (Int × (Int × Bool))) × ((List (Int × (Int × Int))) × Int))) (g2 : Int) : ev (Z := (((List (Int × (Int × Bool))) × ((List (Int × (Int × Int))) × Int)) × Int) ⊕ (List Int × ((List (Int × (Int × Bool))) × ((List (Int × (Int × Int))) × Int)) × Int)) Try.prog (choose_sp N self) choose_B [choose_l1_L N self] [] (some choose_rt) 400 false [.c [0], .c [1]] (stL choose_st ((l, from_, more, u, u2, (), ()), ((((), (g, g2, (), ())), ()), ()))) (stH choose_st ((l, from_, more, u, u2, (), ()), ((((), (g, g2, (), ())), ()), ()))) = choose_S N self l from_ more u u2 g g2 := by kernel_rfl
theorem choose_self_ok (N : Nat) (self : (List Int) → Int → Int → (((List (Int × (Int × Bool))) × ((List (Int × (Int × Int))) × Int))) → Int → (((List (Int × (Int × Bool))) × ((List (Int × (Int × Int))) × Int))) → Int → Option ((((List (Int × (Int × Bool))) × ((List (Int × (Int × Int))) × Int)) × Int) ⊕ (List Int × ((List (Int × (Int × Bool))) × ((List (Int × (Int × Int))) × Int)) × Int))) (hself : SpecOK Try.prog (choose_self self)) : SpecOK Try.prog (choose_self (choose_S N self)) := fn_sound (B := choose_B) (loops := [choose_l1_L N self]) (leaves := []) (fun p => choose_S N self p.1.1 p.1.2.1 p.1.2.2.1 p.1.2.2.2.1 p.1.2.2.2.2.1 p.2.1.1.2.1 p.2.1.1.2.2.1) (fun r => match r with | .inl r => (.inl (((), ()), ((((), (r.1, r.2, (), ())), ()), ()))) | .inr r => (.inr ((r.1, ()), ((((), (r.2.1, r.2.2, (), ())), ()), ())))) choose_rt (fun _ p k => bind_congr_ (choose_S N self p.1.1 p.1.2.1 p.1.2.2.1 p.1.2.2.2.1 p.1.2.2.2.2.1 p.2.1.1.2.1 p.2.1.1.2.2.1) _ _ (fun e => by rcases e with x | x <;> rfl)) (fun r z h => by rcases r with x | x <;> (cases h; rfl)) Try.func117 (by kernel_rfl) (by kernel_rfl) (by kernel_rfl) rfl rfl (by kernel_rfl) (fun args w => Sem.pv_run _ _ _ (by kernel_rfl) w) (choose_all N self hself) mixed ⟨choose_l1_ok N self hself, trivial⟩ (fun z E Xc hE hX hret => trivial) (fun p => choose_eq N self p.1.1 p.1.2.1 p.1.2.2.1 p.1.2.2.2.1 p.1.2.2.2.2.1 p.2.1.1.2.1 p.2.1.1.2.2.1)
def choose_R (N : Nat) : Nat → (List Int) → Int → Int → (((List (Int × (Int × Bool))) × ((List (Int × (Int × Int))) × Int))) → Int → (((List (Int × (Int × Bool))) × ((List (Int × (Int × Int))) × Int))) → Int → Option ((((List (Int × (Int × Bool))) × ((List (Int × (Int × Int))) × Int)) × Int) ⊕ (List Int × ((List (Int × (Int × Bool))) × ((List (Int × (Int × Int))) × Int)) × Int))
  | 0 => fun _ _ _ _ _ _ _ => none
  | n + 1 => choose_S N (choose_R N n)
theorem choose_R_ok (N : Nat) : ∀ n, SpecOK Try.prog (choose_self (choose_R N n))
  | 0 => SpecOK.none (fun _ _ _ => rfl) (fun args w => Sem.pv_run _ _ _ (by kernel_rfl) w)
  | n + 1 => choose_self_ok N (choose_R N n) (choose_R_ok N n)
noncomputable abbrev sp_choose (N : Nat) : Spec := choose_self (choose_R N N)
theorem sp_choose_ok (N : Nat) : SpecOK Try.prog (sp_choose N) := choose_R_ok N N

def choose0_l1 (N : Nat) : Nat → Int → (((List (Int × (Int × Bool))) × ((List (Int × (Int × Int))) × Int))) → Int → (((List (Int × (Int × Bool))) × ((List (Int × (Int × Int))) × Int))) → Int → Option ((List Int × ((List (Int × (Int × Bool))) × ((List (Int × (Int × Int))) × Int)) × Int) ⊕ (((List (Int × (Int × Bool))) × ((List (Int × (Int × Int))) × Int)) × Int))
  | 0, _, _, _, _, _ => none
  | n_ + 1, more, u, w, g, g2 =>
    chk (w + more) <|
    (end__S N u).bind fun x_3 =>
    br (decide ((w + more) ≤ x_3))
      ((clonen_S N).bind fun _ =>
      chk (w + 1) <|
      chk (more - 1) <|
      ((choose_R N N [w] (w + 1) (more - 1) g g2 g g2).bind fun e => match e with
      | .inl (x_4, y_5) =>
        (chk (w + 1) <|
        choose0_l1 N n_ more u (w + 1) x_4 y_5)
      | .inr (x_6, y_7, y_8) =>
        (grd (!x_6.isEmpty) <|
        some (.inl (x_6, y_7, y_8)))))
      (some (.inr (g, g2)))
def choose0_S (N : Nat) (from_ : Int) (more : Int) (u : ((List (Int × (Int × Bool))) × ((List (Int × (Int × Int))) × Int))) (u2 : Int) (g : ((List (Int × (Int × Bool))) × ((List (Int × (Int × Int))) × Int))) (g2 : Int) : Option ((((List (Int × (Int × Bool))) × ((List (Int × (Int × Int))) × Int)) × Int) ⊕ (List Int × ((List (Int × (Int × Bool))) × ((List (Int × (Int × Int))) × Int)) × Int)) :=
  br (decide (more = 0))
    ((weight_S N u []).bind fun x_1 =>
    br (decide (u2 ≤ x_1))
      ((keeps_S N u []).bind fun x_2 =>
      br x_2
        (some (.inl (g, g2)))
        (some (.inl (g, g2))))
      (some (.inl (g, g2))))
    ((choose0_l1 N N more u from_ g g2).bind fun e => match e with
    | .inl (out_9, g_10, g2_11) =>
      some (.inr (out_9, g_10, g2_11))
    | .inr (g_12, g2_13) =>
      some (.inl (g_12, g2_13)))
noncomputable def choose0_sp (N : Nat) : List Spec := [sp_clonen N, sp_choose N, sp_end_ N, sp_keeps N, sp_weight N]
theorem choose0_all (N : Nat) : AllP (SpecOK Try.prog) (choose0_sp N) := ⟨sp_clonen_ok N, sp_choose_ok N, sp_end__ok N, sp_keeps_ok N, sp_weight_ok N, trivial⟩
noncomputable def choose0_c : Code := (Try.f117.body).getD .skip
noncomputable abbrev choose0_B : Body := { c := choose0_c, n := 48, res := [.tmp 9], outs := [⟨[.nils], [.segs [.fn 117 [] [.fe (.ptr (.pair (.sl (.pair (.int .i64) (.pair (.int .i64) .bool))) (.pair (.sl (.pair (.int .i64) (.pair (.int .i64) (.int .i64)))) (.int .i64)))), .fe (.int .i64), .own 0 0]]]⟩, ⟨[.sl (.int .i64)], [.segs [.fn 117 [] [.fe (.ptr (.pair (.sl (.pair (.int .i64) (.pair (.int .i64) .bool))) (.pair (.sl (.pair (.int .i64) (.pair (.int .i64) (.int .i64)))) (.int .i64)))), .fe (.int .i64), .own 0 0]]]⟩], m0 := 1 }
abbrev choose0_rt : altD choose0_B.outs → Option ((((List (Int × (Int × Bool))) × ((List (Int × (Int × Int))) × Int)) × Int) ⊕ (List Int × ((List (Int × (Int × Bool))) × ((List (Int × (Int × Int))) × Int)) × Int)) := fun r => match r with | .inl r => some (.inl (r.2.1.1.2.1, r.2.1.1.2.2.1)) | .inr r => some (.inr (r.1.1, r.2.1.1.2.1, r.2.1.1.2.2.1))
abbrev choose0_l1_at : List PI := [.c [1, 1, 0, 1, 0, 0, 0, 0], .c [1, 1, 0, 1, 0, 0, 0, 1], .c [1, 1, 0, 1, 0, 0, 1], .l [1, 1, 0, 1, 0, 0], .b 0, .c [1, 1, 1]]
abbrev choose0_l1_st : Sta := ⟨[0, 2, 3, 5, 10], ⟨[.nils, .i .i64, .fe (.ptr (.pair (.sl (.pair (.int .i64) (.pair (.int .i64) .bool))) (.pair (.sl (.pair (.int .i64) (.pair (.int .i64) (.int .i64)))) (.int .i64)))), .own 0 0, .i .i64], [.segs [.fn 117 [] [.fe (.ptr (.pair (.sl (.pair (.int .i64) (.pair (.int .i64) .bool))) (.pair (.sl (.pair (.int .i64) (.pair (.int .i64) (.int .i64)))) (.int .i64)))), .fe (.int .i64), .own 0 0]]]⟩⟩
abbrev choose0_l1_h (rec : Int → (((List (Int × (Int × Bool))) × ((List (Int × (Int × Int))) × Int))) → Int → (((List (Int × (Int × Bool))) × ((List (Int × (Int × Int))) × Int))) → Int → Option ((List Int × ((List (Int × (Int × Bool))) × ((List (Int × (Int × Int))) × Int)) × Int) ⊕ (((List (Int × (Int × Bool))) × ((List (Int × (Int × Int))) × Int)) × Int))) : Leaf ((List Int × ((List (Int × (Int × Bool))) × ((List (Int × (Int × Int))) × Int)) × Int) ⊕ (((List (Int × (Int × Bool))) × ((List (Int × (Int × Int))) × Int)) × Int)) := ⟨choose0_l1_at, choose0_l1_st, fun p => rec p.1.2.1 p.1.2.2.1 p.1.2.2.2.2.1 p.2.1.1.2.1 p.2.1.1.2.2.1⟩
abbrev choose0_l1_e0 : Leaf ((List Int × ((List (Int × (Int × Bool))) × ((List (Int × (Int × Int))) × Int)) × Int) ⊕ (((List (Int × (Int × Bool))) × ((List (Int × (Int × Int))) × Int)) × Int)) := ⟨[.c [1, 1, 0, 1, 0, 0, 1, 0, 0, 1, 1, 0, 0], .c [1, 1, 0, 1, 0, 0, 1, 0, 0, 1, 1, 0, 1], .b 1, .c [1, 1, 0, 1, 0, 0, 1, 1], .l [1, 1, 0, 1, 0, 0], .b 0, .c [1, 1, 1]], ⟨[11], ⟨[.sl (.int .i64)], [.segs [.fn 117 [] [.fe (.ptr (.pair (.sl (.pair (.int .i64) (.pair (.int .i64) .bool))) (.pair (.sl (.pair (.int .i64) (.pair (.int .i64) (.int .i64)))) (.int .i64)))), .fe (.int .i64), .own 0 0]]]⟩⟩, fun p => some (.inl (p.1.1, p.2.1.1.2.1, p.2.1.1.2.2.1))⟩
abbrev choose0_l1_e1 : Leaf ((List Int × ((List (Int × (Int × Bool))) × ((List (Int × (Int × Int))) × Int)) × Int) ⊕ (((List (Int × (Int × Bool))) × ((List (Int × (Int × Int))) × Int)) × Int)) := ⟨[.c [1, 1, 1, 0], .c [1, 1, 1, 1]], ⟨[], ⟨[], [.segs [.fn 117 [] [.fe (.ptr (.pair (.sl (.pair (.int .i64) (.pair (.int .i64) .bool))) (.pair (.sl (.pair (.int .i64) (.pair (.int .i64) (.int .i64)))) (.int .i64)))), .fe (.int .i64), .own 0 0]]]⟩⟩, fun p => some (.inr (p.2.1.1.2.1, p.2.1.1.2.2.1))⟩
noncomputable def choose0_l1_L (N : Nat) : LoopS := { at_ := choose0_l1_at, sta := choose0_l1_st, exits := [([.c [1, 1, 0, 1, 0, 0, 1, 0, 0, 1, 1, 0, 0], .c [1, 1, 0, 1, 0, 0, 1, 0, 0, 1, 1, 0, 1], .b 1, .c [1, 1, 0, 1, 0, 0, 1, 1], .l [1, 1, 0, 1, 0, 0], .b 0, .c [1, 1, 1]], ⟨[11], ⟨[.sl (.int .i64)], [.segs [.fn 117 [] [.fe (.ptr (.pair (.sl (.pair (.int .i64) (.pair (.int .i64) .bool))) (.pair (.sl (.pair (.int .i64) (.pair (.int .i64) (.int .i64)))) (.int .i64)))), .fe (.int .i64), .own 0 0]]]⟩⟩), ([.c [1, 1, 1, 0], .c [1, 1, 1, 1]], ⟨[], ⟨[], [.segs [.fn 117 [] [.fe (.ptr (.pair (.sl (.pair (.int .i64) (.pair (.int .i64) .bool))) (.pair (.sl (.pair (.int .i64) (.pair (.int .i64) (.int .i64)))) (.int .i64)))), .fe (.int .i64), .own 0 0]]]⟩⟩)], run := fun p k => (choose0_l1 N N p.1.2.1 p.1.2.2.1 p.1.2.2.2.2.1 p.2.1.1.2.1 p.2.1.1.2.2.1).bind fun e => match e with | .inl x => k (.inl ((x.1, ()), ((((), (x.2.1, x.2.2, (), ())), ()), ()))) | .inr x => k (.inr (.inl ((), ((((), (x.1, x.2, (), ())), ()), ())))) }
theorem choose0_l1_eq (N n_ : Nat) (more : Int) (u : ((List (Int × (Int × Bool))) × ((List (Int × (Int × Int))) × Int))) (w : Int) (g : ((List (Int × (Int × Bool))) × ((List (Int × (Int × Int))) × Int))) (g2 : Int) : ev (Z := (List Int × ((List (Int × (Int × Bool))) × ((List (Int × (Int × Int))) × Int)) × Int) ⊕ (((List (Int × (Int × Bool))) × ((List (Int × (Int × Int))) × Int)) × Int)) Try.prog (choose0_sp N) choose0_B [] [choose0_l1_h (choose0_l1 N n_), choose0_l1_e0, choose0_l1_e1] none 400 true choose0_l1_at (stL choose0_l1_st (((), more, u, (), w, ()), ((((), (g, g2, (), ())), ()), ()))) (stH choose0_l1_st (((), more, u, (), w, ()), ((((), (g, g2, (), ())), ()), ()))) = choose0_l1 N (n_ + 1) more u w g g2 := by kernel_rfl
theorem choose0_l1_ok (N : Nat) {top : Bool} : LoopOK Try.prog choose0_B.c choose0_B.n choose0_B.m0 top (choose0_l1_L N) := loop_of_ev (Z := (List Int × ((List (Int × (Int × Bool))) × ((List (Int × (Int × Int))) × Int)) × Int) ⊕ (((List (Int × (Int × Bool))) × ((List (Int × (Int × Int))) × Int)) × Int)) (N := N) (fun m p => choose0_l1 N m p.1.2.1 p.1.2.2.1 p.1.2.2.2.2.1 p.2.1.1.2.1 p.2.1.1.2.2.1) (fun e => match e with | .inl x => .inl ((x.1, ()), ((((), (x.2.1, x.2.2, (), ())), ()), ())) | .inr x => .inr (.inl ((), ((((), (x.1, x.2, (), ())), ()), ())))) (fun _ p k => bind_congr_ (choose0_l1 N N p.1.2.1 p.1.2.2.1 p.1.2.2.2.2.1 p.2.1.1.2.1 p.2.1.1.2.2.1) _ _ (fun e => by rcases e with x | x <;> rfl)) (fun _ => rfl) (fun m z E Xc hE hX hrec hx => leaf_of_ev (B := choose0_B) (loops := []) (leaves := [choose0_l1_h (choose0_l1 N m), choose0_l1_e0, choose0_l1_e1]) (choose0_all N) mixed trivial hE hX ⟨hrec, (fun p hp => by obtain rfl := Option.some.inj hp; exact hx), (fun p hp => by obtain rfl := Option.some.inj hp; exact hx), trivial⟩ RetOK.no (fun p => choose0_l1_eq N m p.1.2.1 p.1.2.2.1 p.1.2.2.2.2.1 p.2.1.1.2.1 p.2.1.1.2.2.1))
abbrev choose0_st : Sta := ⟨[0, 1, 2, 3, 4, 5], ⟨[.nils, .i .i64, .i .i64, .fe (.ptr (.pair (.sl (.pair (.int .i64) (.pair (.int .i64) .bool))) (.pair (.sl (.pair (.int .i64) (.pair (.int .i64) (.int .i64)))) (.int .i64)))), .fe (.int .i64), .own 0 0], [.segs [.fn 117 [] [.fe (.ptr (.pair (.sl (.pair (.int .i64) (.pair (.int .i64) .bool))) (.pair (.sl (.pair (.int .i64) (.pair (.int .i64) (.int .i64)))) (.int .i64)))), .fe (.int .i64), .own 0 0]]]⟩⟩
theorem choose0_eq (N : Nat) (from_ : Int) (more : Int) (u : ((List (Int × (Int × Bool))) × ((List (Int × (Int × Int))) × Int))) (u2 : Int) (g : ((List (Int × (Int × Bool))) × ((List (Int × (Int × Int))) × Int))) (g2 : Int) : ev (Z := (((List (Int × (Int × Bool))) × ((List (Int × (Int × Int))) × Int)) × Int) ⊕ (List Int × ((List (Int × (Int × Bool))) × ((List (Int × (Int × Int))) × Int)) × Int)) Try.prog (choose0_sp N) choose0_B [choose0_l1_L N] [] (some choose0_rt) 400 false [.c [0], .c [1]] (stL choose0_st (((), from_, more, u, u2, (), ()), ((((), (g, g2, (), ())), ()), ()))) (stH choose0_st (((), from_, more, u, u2, (), ()), ((((), (g, g2, (), ())), ()), ()))) = choose0_S N from_ more u u2 g g2 := by kernel_rfl
noncomputable def sp_choose0 (N : Nat) : Spec := { f := 117, ins := ⟨[.nils, .i .i64, .i .i64, .fe (.ptr (.pair (.sl (.pair (.int .i64) (.pair (.int .i64) .bool))) (.pair (.sl (.pair (.int .i64) (.pair (.int .i64) (.int .i64)))) (.int .i64)))), .fe (.int .i64), .own 0 0], [.segs [.fn 117 [] [.fe (.ptr (.pair (.sl (.pair (.int .i64) (.pair (.int .i64) .bool))) (.pair (.sl (.pair (.int .i64) (.pair (.int .i64) (.int .i64)))) (.int .i64)))), .fe (.int .i64), .own 0 0]]]⟩, outs := [⟨[.nils], [.segs [.fn 117 [] [.fe (.ptr (.pair (.sl (.pair (.int .i64) (.pair (.int .i64) .bool))) (.pair (.sl (.pair (.int .i64) (.pair (.int .i64) (.int .i64)))) (.int .i64)))), .fe (.int .i64), .own 0 0]]]⟩, ⟨[.sl (.int .i64)], [.segs [.fn 117 [] [.fe (.ptr (.pair (.sl (.pair (.int .i64) (.pair (.int .i64) .bool))) (.pair (.sl (.pair (.int .i64) (.pair (.int .i64) (.int .i64)))) (.int .i64)))), .fe (.int .i64), .own 0 0]]]⟩], run := fun p k => (choose0_S N p.1.2.1 p.1.2.2.1 p.1.2.2.2.1 p.1.2.2.2.2.1 p.2.1.1.2.1 p.2.1.1.2.2.1).bind fun r => match r with | .inl r => k (.inl (((), ()), ((((), (r.1, r.2, (), ())), ()), ()))) | .inr r => k (.inr ((r.1, ()), ((((), (r.2.1, r.2.2, (), ())), ()), ()))) }
theorem sp_choose0_ok (N : Nat) : SpecOK Try.prog (sp_choose0 N) := fn_sound (B := choose0_B) (loops := [choose0_l1_L N]) (leaves := []) (fun p => choose0_S N p.1.2.1 p.1.2.2.1 p.1.2.2.2.1 p.1.2.2.2.2.1 p.2.1.1.2.1 p.2.1.1.2.2.1) (fun r => match r with | .inl r => (.inl (((), ()), ((((), (r.1, r.2, (), ())), ()), ()))) | .inr r => (.inr ((r.1, ()), ((((), (r.2.1, r.2.2, (), ())), ()), ())))) choose0_rt (fun _ p k => bind_congr_ (choose0_S N p.1.2.1 p.1.2.2.1 p.1.2.2.2.1 p.1.2.2.2.2.1 p.2.1.1.2.1 p.2.1.1.2.2.1) _ _ (fun e => by rcases e with x | x <;> rfl)) (fun r z h => by rcases r with x | x <;> (cases h; rfl)) Try.func117 (by kernel_rfl) (by kernel_rfl) (by kernel_rfl) rfl rfl (by kernel_rfl) (fun args w => Sem.pv_run _ _ _ (by kernel_rfl) w) (choose0_all N) mixed ⟨choose0_l1_ok N, trivial⟩ (fun z E Xc hE hX hret => trivial) (fun p => choose0_eq N p.1.2.1 p.1.2.2.1 p.1.2.2.2.1 p.1.2.2.2.2.1 p.2.1.1.2.1 p.2.1.1.2.2.1)

def least_l1 (N : Nat) : Nat → Int → Int → (((List (Int × (Int × Bool))) × ((List (Int × (Int × Int))) × Int))) → Int → Option ((List Int) ⊕ (Unit))
  | 0, _, _, _, _ => none
  | n_ + 1, u, u2, choose, choose2 =>
    br (decide (u2 < u))
      (chk (u2 + 1) <|
      ((choose0_S N 0 (u2 + 1) choose choose2 choose choose2).bind fun e => match e with
      | .inl (x_4, y_5) =>
        (chk (u2 + 1) <|
        least_l1 N n_ u (u2 + 1) x_4 y_5)
      | .inr (x_6, y_7, y_8) =>
        (grd (!x_6.isEmpty) <|
        some (.inl x_6))))
      (some (.inr ()))
def least_S (N : Nat) (t : List (Int × (Int × Bool))) (t2 : List (Int × (Int × Int))) (t3 : Int) (weight : Int) : Option (List Int × Int) :=
  ((opened_S N t t2 t3).bind fun e => match e with
  | .inl (x_1, y_2) =>
    (br (!decide (y_2 = 0))
      (some ([], y_2))
      (br (decide (weight < 0))
        (some ([], 3))
        ((end__S N x_1).bind fun x_3 =>
        (least_l1 N N x_3 0 x_1 weight).bind fun e => match e with
        | .inl l_9 =>
          some (l_9, 0)
        | .inr _ =>
          some ([], 6))))
  | .inr x_10 =>
    (br (!decide (x_10 = 0))
      (some ([], x_10))
      (br (decide (weight < 0))
        (some ([], 3))
        (none))))
noncomputable def least_sp (N : Nat) : List Spec := [sp_choose0 N, sp_opened N, sp_end_ N]
theorem least_all (N : Nat) : AllP (SpecOK Try.prog) (least_sp N) := ⟨sp_choose0_ok N, sp_opened_ok N, sp_end__ok N, trivial⟩
noncomputable def least_c : Code := (Try.f51.body).getD .skip
noncomputable abbrev least_B : Body := { c := least_c, n := 35, res := [.tmp 4, .tmp 5], outs := [⟨[.sl (.int .i64), .i .i64], []⟩], m0 := 0 }
abbrev least_rt : altD least_B.outs → Option (List Int × Int) := fun r => some (r.1.1, r.1.2.1)
abbrev least_l1_at : List PI := [.c [1, 1, 1, 1, 1, 1, 0, 1, 0, 0, 0], .c [1, 1, 1, 1, 1, 1, 0, 1, 0, 0, 1], .l [1, 1, 1, 1, 1, 1, 0, 1, 0, 0], .b 0, .c [1, 1, 1, 1, 1, 1, 1]]
abbrev least_l1_st : Sta := ⟨[8, 23, 24], ⟨[.own 0 0, .i .i64, .i .i64], [.segs [.fn 117 [] [.fe (.ptr (.pair (.sl (.pair (.int .i64) (.pair (.int .i64) .bool))) (.pair (.sl (.pair (.int .i64) (.pair (.int .i64) (.int .i64)))) (.int .i64)))), .fe (.int .i64), .own 0 0]]]⟩⟩
abbrev least_l1_h (rec : Int → Int → (((List (Int × (Int × Bool))) × ((List (Int × (Int × Int))) × Int))) → Int → Option ((List Int) ⊕ (Unit))) : Leaf ((List Int) ⊕ (Unit)) := ⟨least_l1_at, least_l1_st, fun p => rec p.1.2.1 p.1.2.2.1 p.2.1.1.2.1 p.2.1.1.2.2.1⟩
abbrev least_l1_e0 : Leaf ((List Int) ⊕ (Unit)) := ⟨[.c [1, 1, 1, 1, 1, 1, 0, 1, 0, 0, 1, 1, 0, 0, 1, 1, 1, 0, 0], .c [1, 1, 1, 1, 1, 1, 0, 1, 0, 0, 1, 1, 0, 0, 1, 1, 1, 0, 1], .b 1, .c [1, 1, 1, 1, 1, 1, 0, 1, 0, 0, 1, 1, 1], .l [1, 1, 1, 1, 1, 1, 0, 1, 0, 0], .b 0, .c [1, 1, 1, 1, 1, 1, 1]], ⟨[10], ⟨[.sl (.int .i64)], []⟩⟩, fun p => some (.inl p.1.1)⟩
abbrev least_l1_e1 : Leaf ((List Int) ⊕ (Unit)) := ⟨[.c [1, 1, 1, 1, 1, 1, 1, 0], .c [1, 1, 1, 1, 1, 1, 1, 1]], ⟨[], ⟨[], []⟩⟩, fun p => some (.inr ())⟩
noncomputable def least_l1_L (N : Nat) : LoopS := { at_ := least_l1_at, sta := least_l1_st, exits := [([.c [1, 1, 1, 1, 1, 1, 0, 1, 0, 0, 1, 1, 0, 0, 1, 1, 1, 0, 0], .c [1, 1, 1, 1, 1, 1, 0, 1, 0, 0, 1, 1, 0, 0, 1, 1, 1, 0, 1], .b 1, .c [1, 1, 1, 1, 1, 1, 0, 1, 0, 0, 1, 1, 1], .l [1, 1, 1, 1, 1, 1, 0, 1, 0, 0], .b 0, .c [1, 1, 1, 1, 1, 1, 1]], ⟨[10], ⟨[.sl (.int .i64)], []⟩⟩), ([.c [1, 1, 1, 1, 1, 1, 1, 0], .c [1, 1, 1, 1, 1, 1, 1, 1]], ⟨[], ⟨[], []⟩⟩)], run := fun p k => (least_l1 N N p.1.2.1 p.1.2.2.1 p.2.1.1.2.1 p.2.1.1.2.2.1).bind fun e => match e with | .inl x => k (.inl ((x, ()), ())) | .inr x => k (.inr (.inl ((), ()))) }
theorem least_l1_eq (N n_ : Nat) (u : Int) (u2 : Int) (choose : ((List (Int × (Int × Bool))) × ((List (Int × (Int × Int))) × Int))) (choose2 : Int) : ev (Z := (List Int) ⊕ (Unit)) Try.prog (least_sp N) least_B [] [least_l1_h (least_l1 N n_), least_l1_e0, least_l1_e1] none 400 true least_l1_at (stL least_l1_st (((), u, u2, ()), ((((), (choose, choose2, (), ())), ()), ()))) (stH least_l1_st (((), u, u2, ()), ((((), (choose, choose2, (), ())), ()), ()))) = least_l1 N (n_ + 1) u u2 choose choose2 := by kernel_rfl
theorem least_l1_ok (N : Nat) {top : Bool} : LoopOK Try.prog least_B.c least_B.n least_B.m0 top (least_l1_L N) := loop_of_ev (Z := (List Int) ⊕ (Unit)) (N := N) (fun m p => least_l1 N m p.1.2.1 p.1.2.2.1 p.2.1.1.2.1 p.2.1.1.2.2.1) (fun e => match e with | .inl x => .inl ((x, ()), ()) | .inr x => .inr (.inl ((), ()))) (fun _ p k => bind_congr_ (least_l1 N N p.1.2.1 p.1.2.2.1 p.2.1.1.2.1 p.2.1.1.2.2.1) _ _ (fun e => by rcases e with x | x <;> rfl)) (fun _ => rfl) (fun m z E Xc hE hX hrec hx => leaf_of_ev (B := least_B) (loops := []) (leaves := [least_l1_h (least_l1 N m), least_l1_e0, least_l1_e1]) (least_all N) mixed trivial hE hX ⟨hrec, (fun p hp => by obtain rfl := Option.some.inj hp; exact hx), (fun p hp => by obtain rfl := Option.some.inj hp; exact hx), trivial⟩ RetOK.no (fun p => least_l1_eq N m p.1.2.1 p.1.2.2.1 p.2.1.1.2.1 p.2.1.1.2.2.1))
abbrev least_st : Sta := ⟨[0, 1], ⟨[.agg [.sl (.pair (.int .i64) (.pair (.int .i64) .bool)), .sl (.pair (.int .i64) (.pair (.int .i64) (.int .i64))), .i .i64], .i .i64], []⟩⟩
theorem least_eq (N : Nat) (t : List (Int × (Int × Bool))) (t2 : List (Int × (Int × Int))) (t3 : Int) (weight : Int) : ev (Z := List Int × Int) Try.prog (least_sp N) least_B [least_l1_L N] [] (some least_rt) 400 false [.c [0], .c [1]] (stL least_st (((t, t2, t3, ()), weight, ()), ())) (stH least_st (((t, t2, t3, ()), weight, ()), ())) = least_S N t t2 t3 weight := by kernel_rfl
noncomputable def sp_least (N : Nat) : Spec := { f := 51, ins := ⟨[.agg [.sl (.pair (.int .i64) (.pair (.int .i64) .bool)), .sl (.pair (.int .i64) (.pair (.int .i64) (.int .i64))), .i .i64], .i .i64], []⟩, outs := [⟨[.sl (.int .i64), .i .i64], []⟩], run := fun p k => (least_S N p.1.1.1 p.1.1.2.1 p.1.1.2.2.1 p.1.2.1).bind fun r => k ((r.1, r.2, ()), ()) }
theorem sp_least_ok (N : Nat) : SpecOK Try.prog (sp_least N) := fn_sound (B := least_B) (loops := [least_l1_L N]) (leaves := []) (fun p => least_S N p.1.1.1 p.1.1.2.1 p.1.1.2.2.1 p.1.2.1) (fun r => ((r.1, r.2, ()), ())) least_rt (fun _ _ _ => rfl) (fun r z h => by cases h; rfl) Try.func51 (by kernel_rfl) (by kernel_rfl) (by kernel_rfl) rfl rfl (by kernel_rfl) (fun args w => Sem.pv_run _ _ _ (by kernel_rfl) w) (least_all N) mixed ⟨least_l1_ok N, trivial⟩ (fun z E Xc hE hX hret => trivial) (fun p => least_eq N p.1.1.1 p.1.1.2.1 p.1.1.2.2.1 p.1.2.1)

def even1_S (N : Nat) (from_ : Int) (to : Int) (u : ((List (Int × (Int × Bool))) × ((List (Int × (Int × Int))) × Int))) (u2 : Int) (u3 : ((List (Int × (Int × Bool))) × ((List (Int × (Int × Int))) × Int))) : Option Bool :=
  (syllables_S N u from_ to).bind fun x_1 =>
  chk (u2 + 1) <|
  br (decide (x_1 ≤ (u2 + 1)))
    ((right_S N u3 from_ to).bind fun x_2 =>
    some x_2)
    (some false)
noncomputable def even1_sp (N : Nat) : List Spec := [sp_syllables N, sp_right N]
theorem even1_all (N : Nat) : AllP (SpecOK Try.prog) (even1_sp N) := ⟨sp_syllables_ok N, sp_right_ok N, trivial⟩
noncomputable def even1_c : Code := (Try.f115.body).getD .skip
noncomputable abbrev even1_B : Body := { c := even1_c, n := 21, res := [.tmp 7], outs := [⟨[.b], []⟩], m0 := 0 }
abbrev even1_rt : altD even1_B.outs → Option Bool := fun r => some r.1.1
abbrev even1_st : Sta := ⟨[0, 1, 2, 3, 4], ⟨[.i .i64, .i .i64, .fe (.ptr (.pair (.sl (.pair (.int .i64) (.pair (.int .i64) .bool))) (.pair (.sl (.pair (.int .i64) (.pair (.int .i64) (.int .i64)))) (.int .i64)))), .fe (.int .i64), .fz [.fn 87 [.fe (.pair (.sl (.pair (.int .i64) (.pair (.int .i64) .bool))) (.pair (.sl (.pair (.int .i64) (.pair (.int .i64) (.int .i64)))) (.int .i64)))] []]], []⟩⟩
theorem even1_eq (N : Nat) (from_ : Int) (to : Int) (u : ((List (Int × (Int × Bool))) × ((List (Int × (Int × Int))) × Int))) (u2 : Int) (u3 : ((List (Int × (Int × Bool))) × ((List (Int × (Int × Int))) × Int))) : ev (Z := Bool) Try.prog (even1_sp N) even1_B [] [] (some even1_rt) 400 false [.c [0], .c [1]] (stL even1_st ((from_, to, u, u2, (((u3, ()), ()), ()), ()), ())) (stH even1_st ((from_, to, u, u2, (((u3, ()), ()), ()), ()), ())) = even1_S N from_ to u u2 u3 := by kernel_rfl
noncomputable def sp_even1 (N : Nat) : Spec := { f := 115, ins := ⟨[.i .i64, .i .i64, .fe (.ptr (.pair (.sl (.pair (.int .i64) (.pair (.int .i64) .bool))) (.pair (.sl (.pair (.int .i64) (.pair (.int .i64) (.int .i64)))) (.int .i64)))), .fe (.int .i64), .fz [.fn 87 [.fe (.pair (.sl (.pair (.int .i64) (.pair (.int .i64) .bool))) (.pair (.sl (.pair (.int .i64) (.pair (.int .i64) (.int .i64)))) (.int .i64)))] []]], []⟩, outs := [⟨[.b], []⟩], run := fun p k => (even1_S N p.1.1 p.1.2.1 p.1.2.2.1 p.1.2.2.2.1 p.1.2.2.2.2.1.1.1.1).bind fun r => k ((r, ()), ()) }
theorem sp_even1_ok (N : Nat) : SpecOK Try.prog (sp_even1 N) := fn_sound (B := even1_B) (loops := []) (leaves := []) (fun p => even1_S N p.1.1 p.1.2.1 p.1.2.2.1 p.1.2.2.2.1 p.1.2.2.2.2.1.1.1.1) (fun r => ((r, ()), ())) even1_rt (fun _ _ _ => rfl) (fun r z h => by cases h; rfl) Try.func115 (by kernel_rfl) (by kernel_rfl) (by kernel_rfl) rfl rfl (by kernel_rfl) (fun args w => Sem.pv_run _ _ _ (by kernel_rfl) w) (even1_all N) mixed trivial (fun z E Xc hE hX hret => trivial) (fun p => even1_eq N p.1.1 p.1.2.1 p.1.2.2.1 p.1.2.2.2.1 p.1.2.2.2.2.1.1.1.1)

def feweste_j1 (N : Nat) (rec : (((List (Int × (Int × Bool))) × ((List (Int × (Int × Int))) × Int))) → Int → Int → (((List (Int × (Int × Bool))) × ((List (Int × (Int × Int))) × Int))) → Int → (((List (Int × (Int × Bool))) × ((List (Int × (Int × Int))) × Int))) → (List Int) → (List Int) → Option (((List (Int × (Int × Bool))) × ((List (Int × (Int × Int))) × Int)) × Int × ((List (Int × (Int × Bool))) × ((List (Int × (Int × Int))) × Int)) × Int × ((List (Int × (Int × Bool))) × ((List (Int × (Int × Int))) × Int)) × List Int × List Int)) (d : ((List (Int × (Int × Bool))) × ((List (Int × (Int × Int))) × Int))) (from_ : Int) (to : Int) (r : ((List (Int × (Int × Bool))) × ((List (Int × (Int × Int))) × Int))) (r2 : Int) (r3 : ((List (Int × (Int × Bool))) × ((List (Int × (Int × Int))) × Int))) (least : List Int) (next : List Int) : Option (((List (Int × (Int × Bool))) × ((List (Int × (Int × Int))) × Int)) × Int × ((List (Int × (Int × Bool))) × ((List (Int × (Int × Int))) × Int)) × Int × ((List (Int × (Int × Bool))) × ((List (Int × (Int × Int))) × Int)) × List Int × List Int) :=
  chk (to + 1) <|
  rec d from_ (to + 1) r r2 r3 least next
def feweste_l2 (N : Nat) : Nat → (((List (Int × (Int × Bool))) × ((List (Int × (Int × Int))) × Int))) → Int → Int → (((List (Int × (Int × Bool))) × ((List (Int × (Int × Int))) × Int))) → Int → (((List (Int × (Int × Bool))) × ((List (Int × (Int × Int))) × Int))) → (List Int) → (List Int) → Option (((List (Int × (Int × Bool))) × ((List (Int × (Int × Int))) × Int)) × Int × ((List (Int × (Int × Bool))) × ((List (Int × (Int × Int))) × Int)) × Int × ((List (Int × (Int × Bool))) × ((List (Int × (Int × Int))) × Int)) × List Int × List Int)
  | 0, _, _, _, _, _, _, _, _ => none
  | n_ + 1, d, from_, to, r, r2, r3, least, next =>
    (end__S N d).bind fun x_2 =>
    br (decide (to ≤ x_2))
      ((end__S N d).bind fun x_3 =>
      br (decide (to < x_3))
        (rng to 13 <|
        get next to.toNat fun x_4 =>
        br (decide (x_4 = 0))
          (feweste_j1 N (feweste_l2 N n_) d from_ to r r2 r3 least next)
          ((even1_S N from_ to r r2 r3).bind fun x_5 =>
          br (!x_5)
            (feweste_j1 N (feweste_l2 N n_) d from_ to r r2 r3 least next)
            (rng from_ 13 <|
            get next from_.toNat fun x_6 =>
            br (decide (x_6 = 0))
              (rng to 13 <|
              get least to.toNat fun x_7 =>
              chk (x_7 + 1) <|
              rng from_ 13 <|
              get least from_.toNat fun _ =>
              rng from_ 13 <|
              get next from_.toNat fun _ =>
              feweste_j1 N (feweste_l2 N n_) d from_ to r r2 r3 (least.set from_.toNat (x_7 + 1)) (next.set from_.toNat to))
              (rng to 13 <|
              get least to.toNat fun x_10 =>
              chk (x_10 + 1) <|
              rng from_ 13 <|
              get least from_.toNat fun x_11 =>
              br (decide ((x_10 + 1) < x_11))
                (rng to 13 <|
                get least to.toNat fun x_12 =>
                chk (x_12 + 1) <|
                rng from_ 13 <|
                get least from_.toNat fun _ =>
                rng from_ 13 <|
                get next from_.toNat fun _ =>
                feweste_j1 N (feweste_l2 N n_) d from_ to r r2 r3 (least.set from_.toNat (x_12 + 1)) (next.set from_.toNat to))
                (feweste_j1 N (feweste_l2 N n_) d from_ to r r2 r3 least next)))))
        ((even1_S N from_ to r r2 r3).bind fun x_15 =>
        br (!x_15)
          (feweste_j1 N (feweste_l2 N n_) d from_ to r r2 r3 least next)
          (rng from_ 13 <|
          get next from_.toNat fun x_16 =>
          br (decide (x_16 = 0))
            (rng to 13 <|
            get least to.toNat fun x_17 =>
            chk (x_17 + 1) <|
            rng from_ 13 <|
            get least from_.toNat fun _ =>
            rng from_ 13 <|
            get next from_.toNat fun _ =>
            feweste_j1 N (feweste_l2 N n_) d from_ to r r2 r3 (least.set from_.toNat (x_17 + 1)) (next.set from_.toNat to))
            (rng to 13 <|
            get least to.toNat fun x_20 =>
            chk (x_20 + 1) <|
            rng from_ 13 <|
            get least from_.toNat fun x_21 =>
            br (decide ((x_20 + 1) < x_21))
              (rng to 13 <|
              get least to.toNat fun x_22 =>
              chk (x_22 + 1) <|
              rng from_ 13 <|
              get least from_.toNat fun _ =>
              rng from_ 13 <|
              get next from_.toNat fun _ =>
              feweste_j1 N (feweste_l2 N n_) d from_ to r r2 r3 (least.set from_.toNat (x_22 + 1)) (next.set from_.toNat to))
              (feweste_j1 N (feweste_l2 N n_) d from_ to r r2 r3 least next)))))
      (some ((d, from_, r, r2, r3, least, next)))
def feweste_l1 (N : Nat) : Nat → (((List (Int × (Int × Bool))) × ((List (Int × (Int × Int))) × Int))) → Int → (((List (Int × (Int × Bool))) × ((List (Int × (Int × Int))) × Int))) → Int → (((List (Int × (Int × Bool))) × ((List (Int × (Int × Int))) × Int))) → (List Int) → (List Int) → Option (((List (Int × (Int × Bool))) × ((List (Int × (Int × Int))) × Int)) × List Int)
  | 0, _, _, _, _, _, _, _ => none
  | n_ + 1, d, from_, r, r2, r3, least, next =>
    br (decide (0 ≤ from_))
      (chk (from_ + 1) <|
      (feweste_l2 N N d from_ (from_ + 1) r r2 r3 least next).bind fun (d_25, from__26, r_27, r2_28, r3_29, least_30, next_31) =>
      chk (from__26 - 1) <|
      feweste_l1 N n_ d_25 (from__26 - 1) r_27 r2_28 r3_29 least_30 next_31)
      (some ((d, next)))
def feweste_l3 (N : Nat) : Nat → (((List (Int × (Int × Bool))) × ((List (Int × (Int × Int))) × Int))) → Int → (List Int) → (List Int) → Option (List Int)
  | 0, _, _, _, _ => none
  | n_ + 1, d, at_, next, out =>
    (end__S N d).bind fun x_35 =>
    br (decide (at_ < x_35))
      (rng at_ 13 <|
      get next at_.toNat fun x_36 =>
      chk (x_36 - at_) <|
      lim (out.length + [(x_36 - at_)].length) <|
      rng at_ 13 <|
      get next at_.toNat fun x_37 =>
      feweste_l3 N n_ d x_37 next (out ++ [(x_36 - at_)]))
      (some (out))
def feweste_S (N : Nat) (r : ((List (Int × (Int × Bool))) × ((List (Int × (Int × Int))) × Int))) (r2 : Int) (r3 : ((List (Int × (Int × Bool))) × ((List (Int × (Int × Int))) × Int))) (d : ((List (Int × (Int × Bool))) × ((List (Int × (Int × Int))) × Int))) : Option (List Int × Bool) :=
  (end__S N d).bind fun x_1 =>
  chk (x_1 - 1) <|
  (feweste_l1 N N d (x_1 - 1) r r2 r3 (List.replicate 13 (0 : Int)) (List.replicate 13 (0 : Int))).bind fun (d_32, next_33) =>
  get next_33 0 fun x_34 =>
  br (decide (x_34 = 0))
    (some ([], false))
    ((feweste_l3 N N d_32 0 next_33 []).bind fun out_38 =>
    some (out_38, true))
noncomputable def feweste_sp (N : Nat) : List Spec := [sp_end_ N, sp_even1 N]
theorem feweste_all (N : Nat) : AllP (SpecOK Try.prog) (feweste_sp N) := ⟨sp_end__ok N, sp_even1_ok N, trivial⟩
noncomputable def feweste_c : Code := (Try.f88.body).getD .skip
noncomputable abbrev feweste_B : Body := { c := feweste_c, n := 87, res := [.tmp 4, .tmp 5], outs := [⟨[.sl (.int .i64), .b], []⟩], m0 := 0 }
abbrev feweste_rt : altD feweste_B.outs → Option (List Int × Bool) := fun r => some (r.1.1, r.1.2.1)
abbrev feweste_l2_at : List PI := [.c [1, 1, 0, 1, 0, 0, 1, 0, 0, 1, 0, 0, 0, 0], .c [1, 1, 0, 1, 0, 0, 1, 0, 0, 1, 0, 0, 0, 1], .c [1, 1, 0, 1, 0, 0, 1, 0, 0, 1, 0, 0, 1], .l [1, 1, 0, 1, 0, 0, 1, 0, 0, 1, 0, 0], .b 2, .b 1, .c [1, 1, 0, 1, 0, 0, 1, 1], .l [1, 1, 0, 1, 0, 0], .b 0, .c [1, 1, 1]]
abbrev feweste_l2_st : Sta := ⟨[1, 2, 6, 7, 8, 9], ⟨[.fe (.pair (.sl (.pair (.int .i64) (.pair (.int .i64) .bool))) (.pair (.sl (.pair (.int .i64) (.pair (.int .i64) (.int .i64)))) (.int .i64))), .own 0 0, .own 1 0, .own 2 0, .i .i64, .i .i64], [.segs [.fn 115 [] [.fe (.ptr (.pair (.sl (.pair (.int .i64) (.pair (.int .i64) .bool))) (.pair (.sl (.pair (.int .i64) (.pair (.int .i64) (.int .i64)))) (.int .i64)))), .fe (.int .i64), .fz [.fn 87 [.fe (.pair (.sl (.pair (.int .i64) (.pair (.int .i64) .bool))) (.pair (.sl (.pair (.int .i64) (.pair (.int .i64) (.int .i64)))) (.int .i64)))] []]]], .segs [.arr (.int .i64) 13], .segs [.arr (.int .i64) 13]]⟩⟩
abbrev feweste_l2_h (rec : (((List (Int × (Int × Bool))) × ((List (Int × (Int × Int))) × Int))) → Int → Int → (((List (Int × (Int × Bool))) × ((List (Int × (Int × Int))) × Int))) → Int → (((List (Int × (Int × Bool))) × ((List (Int × (Int × Int))) × Int))) → (List Int) → (List Int) → Option (((List (Int × (Int × Bool))) × ((List (Int × (Int × Int))) × Int)) × Int × ((List (Int × (Int × Bool))) × ((List (Int × (Int × Int))) × Int)) × Int × ((List (Int × (Int × Bool))) × ((List (Int × (Int × Int))) × Int)) × List Int × List Int)) : Leaf (((List (Int × (Int × Bool))) × ((List (Int × (Int × Int))) × Int)) × Int × ((List (Int × (Int × Bool))) × ((List (Int × (Int × Int))) × Int)) × Int × ((List (Int × (Int × Bool))) × ((List (Int × (Int × Int))) × Int)) × List Int × List Int) := ⟨feweste_l2_at, feweste_l2_st, fun p => rec p.1.1 p.1.2.2.2.2.1 p.1.2.2.2.2.2.1 p.2.1.1.2.1 p.2.1.1.2.2.1 p.2.1.1.2.2.2.1.1.1.1 p.2.2.1.1 p.2.2.2.1.1⟩
abbrev feweste_l2_e0 : Leaf (((List (Int × (Int × Bool))) × ((List (Int × (Int × Int))) × Int)) × Int × ((List (Int × (Int × Bool))) × ((List (Int × (Int × Int))) × Int)) × Int × ((List (Int × (Int × Bool))) × ((List (Int × (Int × Int))) × Int)) × List Int × List Int) := ⟨[.c [1, 1, 0, 1, 0, 0, 1, 1], .l [1, 1, 0, 1, 0, 0], .b 0, .c [1, 1, 1]], ⟨[1, 2, 6, 7, 8], ⟨[.fe (.pair (.sl (.pair (.int .i64) (.pair (.int .i64) .bool))) (.pair (.sl (.pair (.int .i64) (.pair (.int .i64) (.int .i64)))) (.int .i64))), .own 0 0, .own 1 0, .own 2 0, .i .i64], [.segs [.fn 115 [] [.fe (.ptr (.pair (.sl (.pair (.int .i64) (.pair (.int .i64) .bool))) (.pair (.sl (.pair (.int .i64) (.pair (.int .i64) (.int .i64)))) (.int .i64)))), .fe (.int .i64), .fz [.fn 87 [.fe (.pair (.sl (.pair (.int .i64) (.pair (.int .i64) .bool))) (.pair (.sl (.pair (.int .i64) (.pair (.int .i64) (.int .i64)))) (.int .i64)))] []]]], .segs [.arr (.int .i64) 13], .segs [.arr (.int .i64) 13]]⟩⟩, fun p => some ((p.1.1, p.1.2.2.2.2.1, p.2.1.1.2.1, p.2.1.1.2.2.1, p.2.1.1.2.2.2.1.1.1.1, p.2.2.1.1, p.2.2.2.1.1))⟩
abbrev feweste_j1_at : List PI := [.c [1, 1, 0, 1, 0, 0, 1, 0, 0, 1, 0, 0, 1, 1], .l [1, 1, 0, 1, 0, 0, 1, 0, 0, 1, 0, 0], .b 2, .b 1, .c [1, 1, 0, 1, 0, 0, 1, 1], .l [1, 1, 0, 1, 0, 0], .b 0, .c [1, 1, 1]]
abbrev feweste_j1_st : Sta := ⟨[1, 2, 6, 7, 8, 9], ⟨[.fe (.pair (.sl (.pair (.int .i64) (.pair (.int .i64) .bool))) (.pair (.sl (.pair (.int .i64) (.pair (.int .i64) (.int .i64)))) (.int .i64))), .own 0 0, .own 1 0, .own 2 0, .i .i64, .i .i64], [.segs [.fn 115 [] [.fe (.ptr (.pair (.sl (.pair (.int .i64) (.pair (.int .i64) .bool))) (.pair (.sl (.pair (.int .i64) (.pair (.int .i64) (.int .i64)))) (.int .i64)))), .fe (.int .i64), .fz [.fn 87 [.fe (.pair (.sl (.pair (.int .i64) (.pair (.int .i64) .bool))) (.pair (.sl (.pair (.int .i64) (.pair (.int .i64) (.int .i64)))) (.int .i64)))] []]]], .segs [.arr (.int .i64) 13], .segs [.arr (.int .i64) 13]]⟩⟩
abbrev feweste_j1_k (N : Nat) (rec : (((List (Int × (Int × Bool))) × ((List (Int × (Int × Int))) × Int))) → Int → Int → (((List (Int × (Int × Bool))) × ((List (Int × (Int × Int))) × Int))) → Int → (((List (Int × (Int × Bool))) × ((List (Int × (Int × Int))) × Int))) → (List Int) → (List Int) → Option (((List (Int × (Int × Bool))) × ((List (Int × (Int × Int))) × Int)) × Int × ((List (Int × (Int × Bool))) × ((List (Int × (Int × Int))) × Int)) × Int × ((List (Int × (Int × Bool))) × ((List (Int × (Int × Int))) × Int)) × List Int × List Int)) : Leaf (((List (Int × (Int × Bool))) × ((List (Int × (Int × Int))) × Int)) × Int × ((List (Int × (Int × Bool))) × ((List (Int × (Int × Int))) × Int)) × Int × ((List (Int × (Int × Bool))) × ((List (Int × (Int × Int))) × Int)) × List Int × List Int) := ⟨feweste_j1_at, feweste_j1_st, fun p => feweste_j1 N rec p.1.1 p.1.2.2.2.2.1 p.1.2.2.2.2.2.1 p.2.1.1.2.1 p.2.1.1.2.2.1 p.2.1.1.2.2.2.1.1.1.1 p.2.2.1.1 p.2.2.2.1.1⟩
theorem feweste_j1_eq (N : Nat) (rec : (((List (Int × (Int × Bool))) × ((List (Int × (Int × Int))) × Int))) → Int → Int → (((List (Int × (Int × Bool))) × ((List (Int × (Int × Int))) × Int))) → Int → (((List (Int × (Int × Bool))) × ((List (Int × (Int × Int))) × Int))) → (List Int) → (List Int) → Option (((List (Int × (Int × Bool))) × ((List (Int × (Int × Int))) × Int)) × Int × ((List (Int × (Int × Bool))) × ((List (Int × (Int × Int))) × Int)) × Int × ((List (Int × (Int × Bool))) × ((List (Int × (Int × Int))) × Int)) × List Int × List Int)) (d : ((List (Int × (Int × Bool))) × ((List (Int × (Int × Int))) × Int))) (from_ : Int) (to : Int) (r : ((List (Int × (Int × Bool))) × ((List (Int × (Int × Int))) × Int))) (r2 : Int) (r3 : ((List (Int × (Int × Bool))) × ((List (Int × (Int × Int))) × Int))) (least : List Int) (next : List Int) : ev (Z := ((List (Int × (Int × Bool))) × ((List (Int × (Int × Int))) × Int)) × Int × ((List (Int × (Int × Bool))) × ((List (Int × (Int × Int))) × Int)) × Int × ((List (Int × (Int × Bool))) × ((List (Int × (Int × Int))) × Int)) × List Int × List Int) Try.prog (feweste_sp N) feweste_B [] [feweste_l2_h rec, feweste_l2_e0] none 400 true feweste_j1_at (stL feweste_j1_st ((d, (), (), (), from_, to, ()), ((((), (r, r2, (((r3, ()), ()), ()), ())), ()), (least, ()), (next, ()), ()))) (stH feweste_j1_st ((d, (), (), (), from_, to, ()), ((((), (r, r2, (((r3, ()), ()), ()), ())), ()), (least, ()), (next, ()), ()))) = feweste_j1 N rec d from_ to r r2 r3 least next := by kernel_rfl
theorem feweste_j1_lf (N : Nat) (rec : (((List (Int × (Int × Bool))) × ((List (Int × (Int × Int))) × Int))) → Int → Int → (((List (Int × (Int × Bool))) × ((List (Int × (Int × Int))) × Int))) → Int → (((List (Int × (Int × Bool))) × ((List (Int × (Int × Int))) × Int))) → (List Int) → (List Int) → Option (((List (Int × (Int × Bool))) × ((List (Int × (Int × Int))) × Int)) × Int × ((List (Int × (Int × Bool))) × ((List (Int × (Int × Int))) × Int)) × Int × ((List (Int × (Int × Bool))) × ((List (Int × (Int × Int))) × Int)) × List Int × List Int)) {z : ((List (Int × (Int × Bool))) × ((List (Int × (Int × Int))) × Int)) × Int × ((List (Int × (Int × Bool))) × ((List (Int × (Int × Int))) × Int)) × Int × ((List (Int × (Int × Bool))) × ((List (Int × (Int × Int))) × Int)) × List Int × List Int} {top : Bool} {E : EE} {Xc : Ctx} (hE : EOK feweste_B.m0 E) (hX : CxOK top Xc) (hrec : LeafOK Try.prog feweste_B.c feweste_B.n feweste_B.m0 E Xc z (feweste_l2_h rec)) (h0 : LeafOK Try.prog feweste_B.c feweste_B.n feweste_B.m0 E Xc z feweste_l2_e0) : LeafOK Try.prog feweste_B.c feweste_B.n feweste_B.m0 E Xc z (feweste_j1_k N rec) := leaf_of_ev (B := feweste_B) (loops := []) (leaves := [feweste_l2_h rec, feweste_l2_e0]) (feweste_all N) mixed trivial hE hX ⟨hrec, h0, trivial⟩ RetOK.no (fun p => feweste_j1_eq N rec p.1.1 p.1.2.2.2.2.1 p.1.2.2.2.2.2.1 p.2.1.1.2.1 p.2.1.1.2.2.1 p.2.1.1.2.2.2.1.1.1.1 p.2.2.1.1 p.2.2.2.1.1)
noncomputable def feweste_l2_L (N : Nat) : LoopS := { at_ := feweste_l2_at, sta := feweste_l2_st, exits := [([.c [1, 1, 0, 1, 0, 0, 1, 1], .l [1, 1, 0, 1, 0, 0], .b 0, .c [1, 1, 1]], ⟨[1, 2, 6, 7, 8], ⟨[.fe (.pair (.sl (.pair (.int .i64) (.pair (.int .i64) .bool))) (.pair (.sl (.pair (.int .i64) (.pair (.int .i64) (.int .i64)))) (.int .i64))), .own 0 0, .own 1 0, .own 2 0, .i .i64], [.segs [.fn 115 [] [.fe (.ptr (.pair (.sl (.pair (.int .i64) (.pair (.int .i64) .bool))) (.pair (.sl (.pair (.int .i64) (.pair (.int .i64) (.int .i64)))) (.int .i64)))), .fe (.int .i64), .fz [.fn 87 [.fe (.pair (.sl (.pair (.int .i64) (.pair (.int .i64) .bool))) (.pair (.sl (.pair (.int .i64) (.pair (.int .i64) (.int .i64)))) (.int .i64)))] []]]], .segs [.arr (.int .i64) 13], .segs [.arr (.int .i64) 13]]⟩⟩)], run := fun p k => (feweste_l2 N N p.1.1 p.1.2.2.2.2.1 p.1.2.2.2.2.2.1 p.2.1.1.2.1 p.2.1.1.2.2.1 p.2.1.1.2.2.2.1.1.1.1 p.2.2.1.1 p.2.2.2.1.1).bind fun e => k (.inl ((e.1, (), (), (), e.2.1, ()), ((((), (e.2.2.1, e.2.2.2.1, (((e.2.2.2.2.1, ()), ()), ()), ())), ()), (e.2.2.2.2.2.1, ()), (e.2.2.2.2.2.2, ()), ()))) }
theorem feweste_l2_eq (N n_ : Nat) (d : ((List (Int × (Int × Bool))) × ((List (Int × (Int × Int))) × Int))) (from_ : Int) (to : Int) (r : ((List (Int × (Int × Bool))) × ((List (Int × (Int × Int))) × Int))) (r2 : Int) (r3 : ((List (Int × (Int × Bool))) × ((List (Int × (Int × Int))) × Int))) (least : List Int) (next : List Int) : ev (Z := ((List (Int × (Int × Bool))) × ((List (Int × (Int × Int))) × Int)) × Int × ((List (Int × (Int × Bool))) × ((List (Int × (Int × Int))) × Int)) × Int × ((List (Int × (Int × Bool))) × ((List (Int × (Int × Int))) × Int)) × List Int × List Int) Try.prog (feweste_sp N) feweste_B [] [feweste_l2_h (feweste_l2 N n_), feweste_l2_e0, feweste_j1_k N (feweste_l2 N n_)] none 400 true feweste_l2_at (stL feweste_l2_st ((d, (), (), (), from_, to, ()), ((((), (r, r2, (((r3, ()), ()), ()), ())), ()), (least, ()), (next, ()), ()))) (stH feweste_l2_st ((d, (), (), (), from_, to, ()), ((((), (r, r2, (((r3, ()), ()), ()), ())), ()), (least, ()), (next, ()), ()))) = feweste_l2 N (n_ + 1) d from_ to r r2 r3 least next := by kernel_rfl
theorem feweste_l2_ok (N : Nat) {top : Bool} : LoopOK Try.prog feweste_B.c feweste_B.n feweste_B.m0 top (feweste_l2_L N) := loop_of_ev (Z := ((List (Int × (Int × Bool))) × ((List (Int × (Int × Int))) × Int)) × Int × ((List (Int × (Int × Bool))) × ((List (Int × (Int × Int))) × Int)) × Int × ((List (Int × (Int × Bool))) × ((List (Int × (Int × Int))) × Int)) × List Int × List Int) (N := N) (fun m p => feweste_l2 N m p.1.1 p.1.2.2.2.2.1 p.1.2.2.2.2.2.1 p.2.1.1.2.1 p.2.1.1.2.2.1 p.2.1.1.2.2.2.1.1.1.1 p.2.2.1.1 p.2.2.2.1.1) (fun e => .inl ((e.1, (), (), (), e.2.1, ()), ((((), (e.2.2.1, e.2.2.2.1, (((e.2.2.2.2.1, ()), ()), ()), ())), ()), (e.2.2.2.2.2.1, ()), (e.2.2.2.2.2.2, ()), ()))) (fun _ _ _ => rfl) (fun _ => rfl) (fun m z E Xc hE hX hrec hx => leaf_of_ev (B := feweste_B) (loops := []) (leaves := [feweste_l2_h (feweste_l2 N m), feweste_l2_e0, feweste_j1_k N (feweste_l2 N m)]) (feweste_all N) mixed trivial hE hX ⟨hrec, (fun p hp => by obtain rfl := Option.some.inj hp; exact hx), feweste_j1_lf N _ hE hX hrec (fun p hp => by obtain rfl := Option.some.inj hp; exact hx), trivial⟩ RetOK.no (fun p => feweste_l2_eq N m p.1.1 p.1.2.2.2.2.1 p.1.2.2.2.2.2.1 p.2.1.1.2.1 p.2.1.1.2.2.1 p.2.1.1.2.2.2.1.1.1.1 p.2.2.1.1 p.2.2.2.1.1))
abbrev feweste_l1_at : List PI := [.c [1, 1, 0, 1, 0, 0, 0, 0], .c [1, 1, 0, 1, 0, 0, 0, 1], .c [1, 1, 0, 1, 0, 0, 1], .l [1, 1, 0, 1, 0, 0], .b 0, .c [1, 1, 1]]
abbrev feweste_l1_st : Sta := ⟨[1, 2, 6, 7, 8], ⟨[.fe (.pair (.sl (.pair (.int .i64) (.pair (.int .i64) .bool))) (.pair (.sl (.pair (.int .i64) (.pair (.int .i64) (.int .i64)))) (.int .i64))), .own 0 0, .own 1 0, .own 2 0, .i .i64], [.segs [.fn 115 [] [.fe (.ptr (.pair (.sl (.pair (.int .i64) (.pair (.int .i64) .bool))) (.pair (.sl (.pair (.int .i64) (.pair (.int .i64) (.int .i64)))) (.int .i64)))), .fe (.int .i64), .fz [.fn 87 [.fe (.pair (.sl (.pair (.int .i64) (.pair (.int .i64) .bool))) (.pair (.sl (.pair (.int .i64) (.pair (.int .i64) (.int .i64)))) (.int .i64)))] []]]], .segs [.arr (.int .i64) 13], .segs [.arr (.int .i64) 13]]⟩⟩
abbrev feweste_l1_h (rec : (((List (Int × (Int × Bool))) × ((List (Int × (Int × Int))) × Int))) → Int → (((List (Int × (Int × Bool))) × ((List (Int × (Int × Int))) × Int))) → Int → (((List (Int × (Int × Bool))) × ((List (Int × (Int × Int))) × Int))) → (List Int) → (List Int) → Option (((List (Int × (Int × Bool))) × ((List (Int × (Int × Int))) × Int)) × List Int)) : Leaf (((List (Int × (Int × Bool))) × ((List (Int × (Int × Int))) × Int)) × List Int) := ⟨feweste_l1_at, feweste_l1_st, fun p => rec p.1.1 p.1.2.2.2.2.1 p.2.1.1.2.1 p.2.1.1.2.2.1 p.2.1.1.2.2.2.1.1.1.1 p.2.2.1.1 p.2.2.2.1.1⟩
abbrev feweste_l1_e0 : Leaf (((List (Int × (Int × Bool))) × ((List (Int × (Int × Int))) × Int)) × List Int) := ⟨[.c [1, 1, 1, 0, 0], .c [1, 1, 1, 0, 1], .c [1, 1, 1, 1]], ⟨[1, 7], ⟨[.fe (.pair (.sl (.pair (.int .i64) (.pair (.int .i64) .bool))) (.pair (.sl (.pair (.int .i64) (.pair (.int .i64) (.int .i64)))) (.int .i64))), .own 0 0], [.segs [.arr (.int .i64) 13]]⟩⟩, fun p => some ((p.1.1, p.2.1.1))⟩
noncomputable def feweste_l1_L (N : Nat) : LoopS := { at_ := feweste_l1_at, sta := feweste_l1_st, exits := [([.c [1, 1, 1, 0, 0], .c [1, 1, 1, 0, 1], .c [1, 1, 1, 1]], ⟨[1, 7], ⟨[.fe (.pair (.sl (.pair (.int .i64) (.pair (.int .i64) .bool))) (.pair (.sl (.pair (.int .i64) (.pair (.int .i64) (.int .i64)))) (.int .i64))), .own 0 0], [.segs [.arr (.int .i64) 13]]⟩⟩)], run := fun p k => (feweste_l1 N N p.1.1 p.1.2.2.2.2.1 p.2.1.1.2.1 p.2.1.1.2.2.1 p.2.1.1.2.2.2.1.1.1.1 p.2.2.1.1 p.2.2.2.1.1).bind fun e => k (.inl ((e.1, (), ()), ((e.2, ()), ()))) }
theorem feweste_l1_eq (N n_ : Nat) (d : ((List (Int × (Int × Bool))) × ((List (Int × (Int × Int))) × Int))) (from_ : Int) (r : ((List (Int × (Int × Bool))) × ((List (Int × (Int × Int))) × Int))) (r2 : Int) (r3 : ((List (Int × (Int × Bool))) × ((List (Int × (Int × Int))) × Int))) (least : List Int) (next : List Int) : ev (Z := ((List (Int × (Int × Bool))) × ((List (Int × (Int × Int))) × Int)) × List Int) Try.prog (feweste_sp N) feweste_B [feweste_l2_L N] [feweste_l1_h (feweste_l1 N n_), feweste_l1_e0] none 400 true feweste_l1_at (stL feweste_l1_st ((d, (), (), (), from_, ()), ((((), (r, r2, (((r3, ()), ()), ()), ())), ()), (least, ()), (next, ()), ()))) (stH feweste_l1_st ((d, (), (), (), from_, ()), ((((), (r, r2, (((r3, ()), ()), ()), ())), ()), (least, ()), (next, ()), ()))) = feweste_l1 N (n_ + 1) d from_ r r2 r3 least next := by kernel_rfl
theorem feweste_l1_ok (N : Nat) {top : Bool} : LoopOK Try.prog feweste_B.c feweste_B.n feweste_B.m0 top (feweste_l1_L N) := loop_of_ev (Z := ((List (Int × (Int × Bool))) × ((List (Int × (Int × Int))) × Int)) × List Int) (N := N) (fun m p => feweste_l1 N m p.1.1 p.1.2.2.2.2.1 p.2.1.1.2.1 p.2.1.1.2.2.1 p.2.1.1.2.2.2.1.1.1.1 p.2.2.1.1 p.2.2.2.1.1) (fun e => .inl ((e.1, (), ()), ((e.2, ()), ()))) (fun _ _ _ => rfl) (fun _ => rfl) (fun m z E Xc hE hX hrec hx => leaf_of_ev (B := feweste_B) (loops := [feweste_l2_L N]) (leaves := [feweste_l1_h (feweste_l1 N m), feweste_l1_e0]) (feweste_all N) mixed ⟨feweste_l2_ok N, trivial⟩ hE hX ⟨hrec, (fun p hp => by obtain rfl := Option.some.inj hp; exact hx), trivial⟩ RetOK.no (fun p => feweste_l1_eq N m p.1.1 p.1.2.2.2.2.1 p.2.1.1.2.1 p.2.1.1.2.2.1 p.2.1.1.2.2.2.1.1.1.1 p.2.2.1.1 p.2.2.2.1.1))
abbrev feweste_l3_at : List PI := [.c [1, 1, 1, 1, 1, 0, 1, 0, 0, 0, 0], .c [1, 1, 1, 1, 1, 0, 1, 0, 0, 0, 1], .c [1, 1, 1, 1, 1, 0, 1, 0, 0, 1], .l [1, 1, 1, 1, 1, 0, 1, 0, 0], .b 4, .c [1, 1, 1, 1, 1, 1]]
abbrev feweste_l3_st : Sta := ⟨[1, 7, 10, 11], ⟨[.fe (.pair (.sl (.pair (.int .i64) (.pair (.int .i64) .bool))) (.pair (.sl (.pair (.int .i64) (.pair (.int .i64) (.int .i64)))) (.int .i64))), .own 0 0, .ols 1, .i .i64], [.segs [.arr (.int .i64) 13], .lst (.int .i64)]⟩⟩
abbrev feweste_l3_h (rec : (((List (Int × (Int × Bool))) × ((List (Int × (Int × Int))) × Int))) → Int → (List Int) → (List Int) → Option (List Int)) : Leaf (List Int) := ⟨feweste_l3_at, feweste_l3_st, fun p => rec p.1.1 p.1.2.2.2.1 p.2.1.1 p.2.2.1⟩
abbrev feweste_l3_e0 : Leaf (List Int) := ⟨[.c [1, 1, 1, 1, 1, 1, 0], .c [1, 1, 1, 1, 1, 1, 1]], ⟨[10], ⟨[.ols 0], [.lst (.int .i64)]⟩⟩, fun p => some (p.2.1)⟩
noncomputable def feweste_l3_L (N : Nat) : LoopS := { at_ := feweste_l3_at, sta := feweste_l3_st, exits := [([.c [1, 1, 1, 1, 1, 1, 0], .c [1, 1, 1, 1, 1, 1, 1]], ⟨[10], ⟨[.ols 0], [.lst (.int .i64)]⟩⟩)], run := fun p k => (feweste_l3 N N p.1.1 p.1.2.2.2.1 p.2.1.1 p.2.2.1).bind fun e => k (.inl (((), ()), (e, ()))) }
theorem feweste_l3_eq (N n_ : Nat) (d : ((List (Int × (Int × Bool))) × ((List (Int × (Int × Int))) × Int))) (at_ : Int) (next : List Int) (out : List Int) : ev (Z := List Int) Try.prog (feweste_sp N) feweste_B [feweste_l2_L N, feweste_l1_L N] [feweste_l3_h (feweste_l3 N n_), feweste_l3_e0] none 400 true feweste_l3_at (stL feweste_l3_st ((d, (), (), at_, ()), ((next, ()), out, ()))) (stH feweste_l3_st ((d, (), (), at_, ()), ((next, ()), out, ()))) = feweste_l3 N (n_ + 1) d at_ next out := by kernel_rfl
theorem feweste_l3_ok (N : Nat) {top : Bool} : LoopOK Try.prog feweste_B.c feweste_B.n feweste_B.m0 top (feweste_l3_L N) := loop_of_ev (Z := List Int) (N := N) (fun m p => feweste_l3 N m p.1.1 p.1.2.2.2.1 p.2.1.1 p.2.2.1) (fun e => .inl (((), ()), (e, ()))) (fun _ _ _ => rfl) (fun _ => rfl) (fun m z E Xc hE hX hrec hx => leaf_of_ev (B := feweste_B) (loops := [feweste_l2_L N, feweste_l1_L N]) (leaves := [feweste_l3_h (feweste_l3 N m), feweste_l3_e0]) (feweste_all N) mixed ⟨feweste_l2_ok N, feweste_l1_ok N, trivial⟩ hE hX ⟨hrec, (fun p hp => by obtain rfl := Option.some.inj hp; exact hx), trivial⟩ RetOK.no (fun p => feweste_l3_eq N m p.1.1 p.1.2.2.2.1 p.2.1.1 p.2.2.1))
abbrev feweste_st : Sta := ⟨[0, 1], ⟨[.agg [.fn 115 [] [.fe (.ptr (.pair (.sl (.pair (.int .i64) (.pair (.int .i64) .bool))) (.pair (.sl (.pair (.int .i64) (.pair (.int .i64) (.int .i64)))) (.int .i64)))), .fe (.int .i64), .fz [.fn 87 [.fe (.pair (.sl (.pair (.int .i64) (.pair (.int .i64) .bool))) (.pair (.sl (.pair (.int .i64) (.pair (.int .i64) (.int .i64)))) (.int .i64)))] []]]], .fe (.pair (.sl (.pair (.int .i64) (.pair (.int .i64) .bool))) (.pair (.sl (.pair (.int .i64) (.pair (.int .i64) (.int .i64)))) (.int .i64)))], []⟩⟩
theorem feweste_eq (N : Nat) (r : ((List (Int × (Int × Bool))) × ((List (Int × (Int × Int))) × Int))) (r2 : Int) (r3 : ((List (Int × (Int × Bool))) × ((List (Int × (Int × Int))) × Int))) (d : ((List (Int × (Int × Bool))) × ((List (Int × (Int × Int))) × Int))) : ev (Z := List Int × Bool) Try.prog (feweste_sp N) feweste_B [feweste_l2_L N, feweste_l1_L N, feweste_l3_L N] [] (some feweste_rt) 400 false [.c [0], .c [1]] (stL feweste_st (((((), (r, r2, (((r3, ()), ()), ()), ())), ()), d, ()), ())) (stH feweste_st (((((), (r, r2, (((r3, ()), ()), ()), ())), ()), d, ()), ())) = feweste_S N r r2 r3 d := by kernel_rfl
noncomputable def sp_feweste (N : Nat) : Spec := { f := 88, ins := ⟨[.agg [.fn 115 [] [.fe (.ptr (.pair (.sl (.pair (.int .i64) (.pair (.int .i64) .bool))) (.pair (.sl (.pair (.int .i64) (.pair (.int .i64) (.int .i64)))) (.int .i64)))), .fe (.int .i64), .fz [.fn 87 [.fe (.pair (.sl (.pair (.int .i64) (.pair (.int .i64) .bool))) (.pair (.sl (.pair (.int .i64) (.pair (.int .i64) (.int .i64)))) (.int .i64)))] []]]], .fe (.pair (.sl (.pair (.int .i64) (.pair (.int .i64) .bool))) (.pair (.sl (.pair (.int .i64) (.pair (.int .i64) (.int .i64)))) (.int .i64)))], []⟩, outs := [⟨[.sl (.int .i64), .b], []⟩], run := fun p k => (feweste_S N p.1.1.1.2.1 p.1.1.1.2.2.1 p.1.1.1.2.2.2.1.1.1.1 p.1.2.1).bind fun r => k ((r.1, r.2, ()), ()) }
theorem sp_feweste_ok (N : Nat) : SpecOK Try.prog (sp_feweste N) := fn_sound (B := feweste_B) (loops := [feweste_l2_L N, feweste_l1_L N, feweste_l3_L N]) (leaves := []) (fun p => feweste_S N p.1.1.1.2.1 p.1.1.1.2.2.1 p.1.1.1.2.2.2.1.1.1.1 p.1.2.1) (fun r => ((r.1, r.2, ()), ())) feweste_rt (fun _ _ _ => rfl) (fun r z h => by cases h; rfl) Try.func88 (by kernel_rfl) (by kernel_rfl) (by kernel_rfl) rfl rfl (by kernel_rfl) (fun args w => Sem.pv_run _ _ _ (by kernel_rfl) w) (feweste_all N) mixed ⟨feweste_l2_ok N, feweste_l1_ok N, feweste_l3_ok N, trivial⟩ (fun z E Xc hE hX hret => trivial) (fun p => feweste_eq N p.1.1.1.2.1 p.1.1.1.2.2.1 p.1.1.1.2.2.2.1.1.1.1 p.1.2.1)

def even_l1 (N : Nat) : Nat → (((List (Int × (Int × Bool))) × ((List (Int × (Int × Int))) × Int))) → (((List (Int × (Int × Bool))) × ((List (Int × (Int × Int))) × Int))) → Int → Int → Option ((Int × List Int) ⊕ (Unit))
  | 0, _, _, _, _ => none
  | n_ + 1, d, right, u, u2 =>
    br (decide (u2 < u))
      ((feweste_S N d u2 right d).bind fun (x_3, y_4) =>
      br y_4
        (some (.inl (u2, x_3)))
        (chk (u2 + 1) <|
        even_l1 N n_ d right u (u2 + 1)))
      (some (.inr ()))
def even_S (N : Nat) (t : List (Int × (Int × Bool))) (t2 : List (Int × (Int × Int))) (t3 : Int) : Option (List Int × Int × Int) :=
  ((opened_S N t t2 t3).bind fun e => match e with
  | .inl (x_1, y_2) =>
    (br (!decide (y_2 = 0))
      (some ([], 0, y_2))
      ((even_l1 N N x_1 x_1 t3 0).bind fun e => match e with
      | .inl (most_5, l_6) =>
        chk (most_5 + 1) <|
        some (l_6, (most_5 + 1), 0)
      | .inr _ =>
        some ([], 0, 6)))
  | .inr x_7 =>
    (br (!decide (x_7 = 0))
      (some ([], 0, x_7))
      (none)))
noncomputable def even_sp (N : Nat) : List Spec := [sp_opened N, sp_feweste N]
theorem even_all (N : Nat) : AllP (SpecOK Try.prog) (even_sp N) := ⟨sp_opened_ok N, sp_feweste_ok N, trivial⟩
noncomputable def even_c : Code := (Try.f50.body).getD .skip
noncomputable abbrev even_B : Body := { c := even_c, n := 40, res := [.tmp 2, .tmp 3, .tmp 4], outs := [⟨[.sl (.int .i64), .i .i64, .i .i64], []⟩], m0 := 0 }
abbrev even_rt : altD even_B.outs → Option (List Int × Int × Int) := fun r => some (r.1.1, r.1.2.1, r.1.2.2.1)
abbrev even_l1_at : List PI := [.c [1, 1, 1, 1, 0, 1, 0, 0, 0], .c [1, 1, 1, 1, 0, 1, 0, 0, 1], .l [1, 1, 1, 1, 0, 1, 0, 0], .b 0, .c [1, 1, 1, 1, 1]]
abbrev even_l1_st : Sta := ⟨[5, 7, 23, 24], ⟨[.fe (.ptr (.pair (.sl (.pair (.int .i64) (.pair (.int .i64) .bool))) (.pair (.sl (.pair (.int .i64) (.pair (.int .i64) (.int .i64)))) (.int .i64)))), .fz [.fn 87 [.fe (.pair (.sl (.pair (.int .i64) (.pair (.int .i64) .bool))) (.pair (.sl (.pair (.int .i64) (.pair (.int .i64) (.int .i64)))) (.int .i64)))] []], .i .i64, .i .i64], []⟩⟩
abbrev even_l1_h (rec : (((List (Int × (Int × Bool))) × ((List (Int × (Int × Int))) × Int))) → (((List (Int × (Int × Bool))) × ((List (Int × (Int × Int))) × Int))) → Int → Int → Option ((Int × List Int) ⊕ (Unit))) : Leaf ((Int × List Int) ⊕ (Unit)) := ⟨even_l1_at, even_l1_st, fun p => rec p.1.1 p.1.2.1.1.1.1 p.1.2.2.1 p.1.2.2.2.1⟩
abbrev even_l1_e0 : Leaf ((Int × List Int) ⊕ (Unit)) := ⟨[.c [1, 1, 1, 1, 0, 1, 0, 0, 1, 1, 0, 0, 1, 1, 1, 1, 0, 0], .c [1, 1, 1, 1, 0, 1, 0, 0, 1, 1, 0, 0, 1, 1, 1, 1, 0, 1], .b 1, .c [1, 1, 1, 1, 0, 1, 0, 0, 1, 1, 1], .l [1, 1, 1, 1, 0, 1, 0, 0], .b 0, .c [1, 1, 1, 1, 1]], ⟨[8, 10], ⟨[.fe (.int .i64), .sl (.int .i64)], []⟩⟩, fun p => some (.inl (p.1.1, p.1.2.1))⟩
abbrev even_l1_e1 : Leaf ((Int × List Int) ⊕ (Unit)) := ⟨[.c [1, 1, 1, 1, 1, 0], .c [1, 1, 1, 1, 1, 1]], ⟨[], ⟨[], []⟩⟩, fun p => some (.inr ())⟩
noncomputable def even_l1_L (N : Nat) : LoopS := { at_ := even_l1_at, sta := even_l1_st, exits := [([.c [1, 1, 1, 1, 0, 1, 0, 0, 1, 1, 0, 0, 1, 1, 1, 1, 0, 0], .c [1, 1, 1, 1, 0, 1, 0, 0, 1, 1, 0, 0, 1, 1, 1, 1, 0, 1], .b 1, .c [1, 1, 1, 1, 0, 1, 0, 0, 1, 1, 1], .l [1, 1, 1, 1, 0, 1, 0, 0], .b 0, .c [1, 1, 1, 1, 1]], ⟨[8, 10], ⟨[.fe (.int .i64), .sl (.int .i64)], []⟩⟩), ([.c [1, 1, 1, 1, 1, 0], .c [1, 1, 1, 1, 1, 1]], ⟨[], ⟨[], []⟩⟩)], run := fun p k => (even_l1 N N p.1.1 p.1.2.1.1.1.1 p.1.2.2.1 p.1.2.2.2.1).bind fun e => match e with | .inl x => k (.inl ((x.1, x.2, ()), ())) | .inr x => k (.inr (.inl ((), ()))) }
theorem even_l1_eq (N n_ : Nat) (d : ((List (Int × (Int × Bool))) × ((List (Int × (Int × Int))) × Int))) (right : ((List (Int × (Int × Bool))) × ((List (Int × (Int × Int))) × Int))) (u : Int) (u2 : Int) : ev (Z := (Int × List Int) ⊕ (Unit)) Try.prog (even_sp N) even_B [] [even_l1_h (even_l1 N n_), even_l1_e0, even_l1_e1] none 400 true even_l1_at (stL even_l1_st ((d, (((right, ()), ()), ()), u, u2, ()), ())) (stH even_l1_st ((d, (((right, ()), ()), ()), u, u2, ()), ())) = even_l1 N (n_ + 1) d right u u2 := by kernel_rfl
theorem even_l1_ok (N : Nat) {top : Bool} : LoopOK Try.prog even_B.c even_B.n even_B.m0 top (even_l1_L N) := loop_of_ev (Z := (Int × List Int) ⊕ (Unit)) (N := N) (fun m p => even_l1 N m p.1.1 p.1.2.1.1.1.1 p.1.2.2.1 p.1.2.2.2.1) (fun e => match e with | .inl x => .inl ((x.1, x.2, ()), ()) | .inr x => .inr (.inl ((), ()))) (fun _ p k => bind_congr_ (even_l1 N N p.1.1 p.1.2.1.1.1.1 p.1.2.2.1 p.1.2.2.2.1) _ _ (fun e => by rcases e with x | x <;> rfl)) (fun _ => rfl) (fun m z E Xc hE hX hrec hx => leaf_of_ev (B := even_B) (loops := []) (leaves := [even_l1_h (even_l1 N m), even_l1_e0, even_l1_e1]) (even_all N) mixed trivial hE hX ⟨hrec, (fun p hp => by obtain rfl := Option.some.inj hp; exact hx), (fun p hp => by obtain rfl := Option.some.inj hp; exact hx), trivial⟩ RetOK.no (fun p => even_l1_eq N m p.1.1 p.1.2.1.1.1.1 p.1.2.2.1 p.1.2.2.2.1))
abbrev even_st : Sta := ⟨[0], ⟨[.agg [.sl (.pair (.int .i64) (.pair (.int .i64) .bool)), .sl (.pair (.int .i64) (.pair (.int .i64) (.int .i64))), .i .i64]], []⟩⟩
theorem even_eq (N : Nat) (t : List (Int × (Int × Bool))) (t2 : List (Int × (Int × Int))) (t3 : Int) : ev (Z := List Int × Int × Int) Try.prog (even_sp N) even_B [even_l1_L N] [] (some even_rt) 400 false [.c [0], .c [1]] (stL even_st (((t, t2, t3, ()), ()), ())) (stH even_st (((t, t2, t3, ()), ()), ())) = even_S N t t2 t3 := by kernel_rfl
noncomputable def sp_even (N : Nat) : Spec := { f := 50, ins := ⟨[.agg [.sl (.pair (.int .i64) (.pair (.int .i64) .bool)), .sl (.pair (.int .i64) (.pair (.int .i64) (.int .i64))), .i .i64]], []⟩, outs := [⟨[.sl (.int .i64), .i .i64, .i .i64], []⟩], run := fun p k => (even_S N p.1.1.1 p.1.1.2.1 p.1.1.2.2.1).bind fun r => k ((r.1, r.2.1, r.2.2, ()), ()) }
theorem sp_even_ok (N : Nat) : SpecOK Try.prog (sp_even N) := fn_sound (B := even_B) (loops := [even_l1_L N]) (leaves := []) (fun p => even_S N p.1.1.1 p.1.1.2.1 p.1.1.2.2.1) (fun r => ((r.1, r.2.1, r.2.2, ()), ())) even_rt (fun _ _ _ => rfl) (fun r z h => by cases h; rfl) Try.func50 (by kernel_rfl) (by kernel_rfl) (by kernel_rfl) rfl rfl (by kernel_rfl) (fun args w => Sem.pv_run _ _ _ (by kernel_rfl) w) (even_all N) mixed ⟨even_l1_ok N, trivial⟩ (fun z E Xc hE hX hret => trivial) (fun p => even_eq N p.1.1.1 p.1.1.2.1 p.1.1.2.2.1)

def parted1_S (N : Nat) (x : Int) (x2 : Int) (x3 : Int) (u : Int) : Option Bool :=
  br (decide (x < u))
    (br (decide (u ≤ x2))
      (some true)
      (br (decide (x3 < u))
        (some (decide (u ≤ x)))
        (some false)))
    (br (decide (x3 < u))
      (some (decide (u ≤ x)))
      (some false))
def ixfpa_l1 (N : Nat) : Nat → (List (Int × (Int × Int))) → Int → Int → Int → Option ((Int) ⊕ (Unit))
  | 0, _, _, _, _ => none
  | n_ + 1, s, f, u, u2 =>
    br (decide (u2 < u))
      (idx s u2 fun x_1 =>
      (parted1_S N x_1.1 x_1.2.1 x_1.2.2 f).bind fun x_2 =>
      br x_2
        (some (.inl u2))
        (chk (u2 + 1) <|
        ixfpa_l1 N n_ s f u (u2 + 1)))
      (some (.inr ()))
def ixfpa_S (N : Nat) (s : List (Int × (Int × Int))) (f : Int) : Option Int :=
  (ixfpa_l1 N N s f (s.length : Int) 0).bind fun e => match e with
  | .inl i_3 =>
    some i_3
  | .inr _ =>
    some (-1)
def cofpa_S (N : Nat) (s : List (Int × (Int × Int))) (f : Int) : Option Bool :=
  (ixfpa_S N s f).bind fun x_1 =>
  some (decide (0 ≤ x_1))
def parted_S (N : Nat) (d : ((List (Int × (Int × Bool))) × ((List (Int × (Int × Int))) × Int))) (place : Int) : Option Bool :=
  (cofpa_S N d.2.1 place).bind fun x_1 =>
  some x_1
def surest1_S (N : Nat) (from_ : Int) (to : Int) (u : ((List (Int × (Int × Bool))) × ((List (Int × (Int × Int))) × Int))) : Option Bool :=
  (right_S N u from_ to).bind fun x_1 =>
  br x_1
    ((end__S N u).bind fun x_2 =>
    br (decide (to = x_2))
      (some true)
      ((parted_S N u to).bind fun x_3 =>
      some (!x_3)))
    (some false)
def equali_l1 (N : Nat) : Nat → (List Int) → (List Int) → Int → Int → Option ((Unit) ⊕ (Unit))
  | 0, _, _, _, _ => none
  | n_ + 1, s1, s2, u, u2 =>
    br (decide (u2 < u))
      (idx s1 u2 fun x_1 =>
      idx s2 u2 fun x_2 =>
      br (!decide (x_1 = x_2))
        (some (.inl ()))
        (chk (u2 + 1) <|
        equali_l1 N n_ s1 s2 u (u2 + 1)))
      (some (.inr ()))
def equali_S (N : Nat) (s1 : List Int) (s2 : List Int) : Option Bool :=
  br (!decide ((s1.length : Int) = (s2.length : Int)))
    (some false)
    ((equali_l1 N N s1 s2 (s1.length : Int) 0).bind fun e => match e with
    | .inl _ =>
      some false
    | .inr _ =>
      some true)
noncomputable def equali_sp (N : Nat) : List Spec := []
theorem equali_all (N : Nat) : AllP (SpecOK Try.prog) (equali_sp N) := trivial
noncomputable def equali_c : Code := (Try.f97.body).getD .skip
noncomputable abbrev equali_B : Body := { c := equali_c, n := 26, res := [.tmp 4], outs := [⟨[.b], []⟩], m0 := 0 }
abbrev equali_rt : altD equali_B.outs → Option Bool := fun r => some r.1.1
abbrev equali_l1_at : List PI := [.c [1, 1, 0, 1, 0, 0, 0], .c [1, 1, 0, 1, 0, 0, 1], .l [1, 1, 0, 1, 0, 0], .b 0, .c [1, 1, 1]]
abbrev equali_l1_st : Sta := ⟨[0, 1, 12, 13], ⟨[.sl (.int .i64), .sl (.int .i64), .i .i64, .i .i64], []⟩⟩
abbrev equali_l1_h (rec : (List Int) → (List Int) → Int → Int → Option ((Unit) ⊕ (Unit))) : Leaf ((Unit) ⊕ (Unit)) := ⟨equali_l1_at, equali_l1_st, fun p => rec p.1.1 p.1.2.1 p.1.2.2.1 p.1.2.2.2.1⟩
abbrev equali_l1_e0 : Leaf ((Unit) ⊕ (Unit)) := ⟨[.c [1, 1, 0, 1, 0, 0, 1, 1, 0, 0, 1, 1, 0, 0], .c [1, 1, 0, 1, 0, 0, 1, 1, 0, 0, 1, 1, 0, 1], .b 1, .c [1, 1, 0, 1, 0, 0, 1, 1, 1], .l [1, 1, 0, 1, 0, 0], .b 0, .c [1, 1, 1]], ⟨[], ⟨[], []⟩⟩, fun p => some (.inl ())⟩
abbrev equali_l1_e1 : Leaf ((Unit) ⊕ (Unit)) := ⟨[.c [1, 1, 1, 0], .c [1, 1, 1, 1]], ⟨[], ⟨[], []⟩⟩, fun p => some (.inr ())⟩
noncomputable def equali_l1_L (N : Nat) : LoopS := { at_ := equali_l1_at, sta := equali_l1_st, exits := [([.c [1, 1, 0, 1, 0, 0, 1, 1, 0, 0, 1, 1, 0, 0], .c [1, 1, 0, 1, 0, 0, 1, 1, 0, 0, 1, 1, 0, 1], .b 1, .c [1, 1, 0, 1, 0, 0, 1, 1, 1], .l [1, 1, 0, 1, 0, 0], .b 0, .c [1, 1, 1]], ⟨[], ⟨[], []⟩⟩), ([.c [1, 1, 1, 0], .c [1, 1, 1, 1]], ⟨[], ⟨[], []⟩⟩)], run := fun p k => (equali_l1 N N p.1.1 p.1.2.1 p.1.2.2.1 p.1.2.2.2.1).bind fun e => match e with | .inl x => k (.inl ((), ())) | .inr x => k (.inr (.inl ((), ()))) }
theorem equali_l1_eq (N n_ : Nat) (s1 : List Int) (s2 : List Int) (u : Int) (u2 : Int) : ev (Z := (Unit) ⊕ (Unit)) Try.prog (equali_sp N) equali_B [] [equali_l1_h (equali_l1 N n_), equali_l1_e0, equali_l1_e1] none 400 true equali_l1_at (stL equali_l1_st ((s1, s2, u, u2, ()), ())) (stH equali_l1_st ((s1, s2, u, u2, ()), ())) = equali_l1 N (n_ + 1) s1 s2 u u2 := by kernel_rfl
theorem equali_l1_ok (N : Nat) {top : Bool} : LoopOK Try.prog equali_B.c equali_B.n equali_B.m0 top (equali_l1_L N) := loop_of_ev (Z := (Unit) ⊕ (Unit)) (N := N) (fun m p => equali_l1 N m p.1.1 p.1.2.1 p.1.2.2.1 p.1.2.2.2.1) (fun e => match e with | .inl x => .inl ((), ()) | .inr x => .inr (.inl ((), ()))) (fun _ p k => bind_congr_ (equali_l1 N N p.1.1 p.1.2.1 p.1.2.2.1 p.1.2.2.2.1) _ _ (fun e => by rcases e with x | x <;> rfl)) (fun _ => rfl) (fun m z E Xc hE hX hrec hx => leaf_of_ev (B := equali_B) (loops := []) (leaves := [equali_l1_h (equali_l1 N m), equali_l1_e0, equali_l1_e1]) (equali_all N) mixed trivial hE hX ⟨hrec, (fun p hp => by obtain rfl := Option.some.inj hp; exact hx), (fun p hp => by obtain rfl := Option.some.inj hp; exact hx), trivial⟩ RetOK.no (fun p => equali_l1_eq N m p.1.1 p.1.2.1 p.1.2.2.1 p.1.2.2.2.1))
abbrev equali_st : Sta := ⟨[0, 1], ⟨[.sl (.int .i64), .sl (.int .i64)], []⟩⟩
theorem equali_eq (N : Nat) (s1 : List Int) (s2 : List Int) : ev (Z := Bool) Try.prog (equali_sp N) equali_B [equali_l1_L N] [] (some equali_rt) 400 false [.c [0], .c [1]] (stL equali_st ((s1, s2, ()), ())) (stH equali_st ((s1, s2, ()), ())) = equali_S N s1 s2 := by kernel_rfl
noncomputable def sp_equali (N : Nat) : Spec := { f := 97, ins := ⟨[.sl (.int .i64), .sl (.int .i64)], []⟩, outs := [⟨[.b], []⟩], run := fun p k => (equali_S N p.1.1 p.1.2.1).bind fun r => k ((r, ()), ()) }
theorem sp_equali_ok (N : Nat) : SpecOK Try.prog (sp_equali N) := fn_sound (B := equali_B) (loops := [equali_l1_L N]) (leaves := []) (fun p => equali_S N p.1.1 p.1.2.1) (fun r => ((r, ()), ())) equali_rt (fun _ _ _ => rfl) (fun r z h => by cases h; rfl) Try.func97 (by kernel_rfl) (by kernel_rfl) (by kernel_rfl) rfl rfl (by kernel_rfl) (fun args w => Sem.pv_run _ _ _ (by kernel_rfl) w) (equali_all N) mixed ⟨equali_l1_ok N, trivial⟩ (fun z E Xc hE hX hret => trivial) (fun p => equali_eq N p.1.1 p.1.2.1)

def likei_S (N : Nat) (a : List Int) (b : List Int) : Option Bool :=
  (equali_S N a b).bind fun x_1 =>
  some x_1
noncomputable def likei_sp (N : Nat) : List Spec := [sp_equali N]
theorem likei_all (N : Nat) : AllP (SpecOK Try.prog) (likei_sp N) := ⟨sp_equali_ok N, trivial⟩
noncomputable def likei_c : Code := (Try.f30.body).getD .skip
noncomputable abbrev likei_B : Body := { c := likei_c, n := 8, res := [.tmp 4], outs := [⟨[.b], []⟩], m0 := 0 }
abbrev likei_rt : altD likei_B.outs → Option Bool := fun r => some r.1.1
abbrev likei_st : Sta := ⟨[0, 1], ⟨[.sl (.int .i64), .sl (.int .i64)], []⟩⟩
theorem likei_eq (N : Nat) (a : List Int) (b : List Int) : ev (Z := Bool) Try.prog (likei_sp N) likei_B [] [] (some likei_rt) 400 false [.c [0], .c [1]] (stL likei_st ((a, b, ()), ())) (stH likei_st ((a, b, ()), ())) = likei_S N a b := by kernel_rfl
noncomputable def sp_likei (N : Nat) : Spec := { f := 30, ins := ⟨[.sl (.int .i64), .sl (.int .i64)], []⟩, outs := [⟨[.b], []⟩], run := fun p k => (likei_S N p.1.1 p.1.2.1).bind fun r => k ((r, ()), ()) }
theorem sp_likei_ok (N : Nat) : SpecOK Try.prog (sp_likei N) := fn_sound (B := likei_B) (loops := []) (leaves := []) (fun p => likei_S N p.1.1 p.1.2.1) (fun r => ((r, ()), ())) likei_rt (fun _ _ _ => rfl) (fun r z h => by cases h; rfl) Try.func30 (by kernel_rfl) (by kernel_rfl) (by kernel_rfl) rfl rfl (by kernel_rfl) (fun args w => Sem.pv_run _ _ _ (by kernel_rfl) w) (likei_all N) mixed trivial (fun z E Xc hE hX hret => trivial) (fun p => likei_eq N p.1.1 p.1.2.1)

def word__S (N : Nat) (weight : Int) (stop : Bool) : Option (Int × Int × Bool) :=
  some (1, weight, stop)
noncomputable def word__sp (N : Nat) : List Spec := []
theorem word__all (N : Nat) : AllP (SpecOK Try.prog) (word__sp N) := trivial
noncomputable def word__c : Code := (Try.f141.body).getD .skip
noncomputable abbrev word__B : Body := { c := word__c, n := 8, res := [.cell 4 81], outs := [⟨[.agg [.i .i64, .i .i64, .b]], []⟩], m0 := 0 }
abbrev word__rt : altD word__B.outs → Option (Int × Int × Bool) := fun r => some (r.1.1.1, r.1.1.2.1, r.1.1.2.2.1)
abbrev word__st : Sta := ⟨[0, 1], ⟨[.i .i64, .b], []⟩⟩
theorem word__eq (N : Nat) (weight : Int) (stop : Bool) : ev (Z := Int × Int × Bool) Try.prog (word__sp N) word__B [] [] (some word__rt) 400 false [.c [0], .c [1]] (stL word__st ((weight, stop, ()), ())) (stH word__st ((weight, stop, ()), ())) = word__S N weight stop := by kernel_rfl
noncomputable def sp_word_ (N : Nat) : Spec := { f := 141, ins := ⟨[.i .i64, .b], []⟩, outs := [⟨[.agg [.i .i64, .i .i64, .b]], []⟩], run := fun p k => (word__S N p.1.1 p.1.2.1).bind fun r => k (((r.1, r.2.1, r.2.2, ()), ()), ()) }
theorem sp_word__ok (N : Nat) : SpecOK Try.prog (sp_word_ N) := fn_sound (B := word__B) (loops := []) (leaves := []) (fun p => word__S N p.1.1 p.1.2.1) (fun r => (((r.1, r.2.1, r.2.2, ()), ()), ())) word__rt (fun _ _ _ => rfl) (fun r z h => by cases h; rfl) Try.func141 (by kernel_rfl) (by kernel_rfl) (by kernel_rfl) rfl rfl (by kernel_rfl) (fun args w => Sem.pv_run _ _ _ (by kernel_rfl) w) (word__all N) mixed trivial (fun z E Xc hE hX hret => trivial) (fun p => word__eq N p.1.1 p.1.2.1)

def gate_S (N : Nat) (last : Int) : Option ((List (Int × (Int × Bool))) × (List (Int × (Int × Int))) × Int) :=
  (word__S N 0 false).bind fun (x_1, y_2, y_3) =>
  (word__S N 4 true).bind fun (x_4, y_5, y_6) =>
  (word__S N 0 false).bind fun (x_7, y_8, y_9) =>
  (word__S N 3 true).bind fun (x_10, y_11, y_12) =>
  (word__S N 3 false).bind fun (x_13, y_14, y_15) =>
  (word__S N 3 true).bind fun (x_16, y_17, y_18) =>
  (word__S N 0 false).bind fun (x_19, y_20, y_21) =>
  (word__S N 2 true).bind fun (x_22, y_23, y_24) =>
  some ([(x_1, y_2, y_3), (x_4, y_5, y_6), (x_7, y_8, y_9), (x_10, y_11, y_12), (x_13, y_14, y_15), (x_16, y_17, y_18), (x_19, y_20, y_21), (x_22, y_23, y_24)], [(3, 4, last)], 5)
noncomputable def gate_sp (N : Nat) : List Spec := [sp_word_ N]
theorem gate_all (N : Nat) : AllP (SpecOK Try.prog) (gate_sp N) := ⟨sp_word__ok N, trivial⟩
noncomputable def gate_c : Code := (Try.f83.body).getD .skip
noncomputable abbrev gate_B : Body := { c := gate_c, n := 17, res := [.cell 2 25], outs := [⟨[.agg [.sl (.pair (.int .i64) (.pair (.int .i64) .bool)), .sl (.pair (.int .i64) (.pair (.int .i64) (.int .i64))), .i .i64]], []⟩], m0 := 0 }
abbrev gate_rt : altD gate_B.outs → Option ((List (Int × (Int × Bool))) × (List (Int × (Int × Int))) × Int) := fun r => some (r.1.1.1, r.1.1.2.1, r.1.1.2.2.1)
abbrev gate_st : Sta := ⟨[0], ⟨[.i .i64], []⟩⟩
theorem gate_eq (N : Nat) (last : Int) : ev (Z := (List (Int × (Int × Bool))) × (List (Int × (Int × Int))) × Int) Try.prog (gate_sp N) gate_B [] [] (some gate_rt) 400 false [.c [0], .c [1]] (stL gate_st ((last, ()), ())) (stH gate_st ((last, ()), ())) = gate_S N last := by kernel_rfl
noncomputable def sp_gate (N : Nat) : Spec := { f := 83, ins := ⟨[.i .i64], []⟩, outs := [⟨[.agg [.sl (.pair (.int .i64) (.pair (.int .i64) .bool)), .sl (.pair (.int .i64) (.pair (.int .i64) (.int .i64))), .i .i64]], []⟩], run := fun p k => (gate_S N p.1.1).bind fun r => k (((r.1, r.2.1, r.2.2, ()), ()), ()) }
theorem sp_gate_ok (N : Nat) : SpecOK Try.prog (sp_gate N) := fn_sound (B := gate_B) (loops := []) (leaves := []) (fun p => gate_S N p.1.1) (fun r => (((r.1, r.2.1, r.2.2, ()), ()), ())) gate_rt (fun _ _ _ => rfl) (fun r z h => by cases h; rfl) Try.func83 (by kernel_rfl) (by kernel_rfl) (by kernel_rfl) rfl rfl (by kernel_rfl) (fun args w => Sem.pv_run _ _ _ (by kernel_rfl) w) (gate_all N) mixed trivial (fun z E Xc hE hX hret => trivial) (fun p => gate_eq N p.1.1)

def awake_S (N : Nat)  : Option Bool :=
  (gate_S N 5).bind fun (x_1, y_2, y_3) =>
  (fewest_S N x_1 y_2 y_3).bind fun (x_4, y_5) =>
  (gate_S N 5).bind fun (x_6, y_7, y_8) =>
  (count_S N x_6 y_7 y_8).bind fun (x_9, y_10) =>
  (gate_S N 5).bind fun (x_11, y_12, y_13) =>
  (never_S N x_11 y_12 y_13).bind fun (x_14, y_15) =>
  (gate_S N 5).bind fun (x_16, y_17, y_18) =>
  (least_S N x_16 y_17 y_18 7).bind fun (x_19, y_20) =>
  br (!decide (y_5 = 0))
    (some false)
    (br (!decide (y_10 = 0))
      (some false)
      (br (!decide (y_15 = 0))
        (some false)
        (br (!decide (y_20 = 0))
          (some false)
          ((likei_S N x_4 [2, 4, 2]).bind fun x_21 =>
          br (!x_21)
            (some false)
            (br (!decide (x_9 = 1))
              (some false)
              ((likei_S N x_14 [1, 3, 4, 5, 7]).bind fun x_22 =>
              br (!x_22)
                (some false)
                ((likei_S N x_19 [1, 3]).bind fun x_23 =>
                br (!x_23)
                  (some false)
                  ((gate_S N 5).bind fun (x_24, y_25, y_26) =>
                  (lwrong_S N x_24 y_25 y_26 [4, 4]).bind fun (x_27, y_28, y_29) =>
                  (gate_S N 7).bind fun (x_30, y_31, y_32) =>
                  (astray_S N x_30 y_31 y_32 [4, 2, 2]).bind fun (x_33, y_34, y_35, y_36) =>
                  (gate_S N 5).bind fun (x_37, y_38, y_39) =>
                  (shows_S N x_37 y_38 y_39 [0, 1, 1, 1, 1, 1, 2, 2, 3]).bind fun (x_40, y_41) =>
                  (gate_S N 5).bind fun (x_42, y_43, y_44) =>
                  (astray_S N x_42 y_43 y_44 [2, 4, 2]).bind fun (x_45, y_46, y_47, y_48) =>
                  br (decide (y_29 = 0))
                    (br (decide (y_36 = 0))
                      (br (decide (y_41 = 0))
                        (br (decide (y_48 = 6))
                          (br (decide (x_27 = 1))
                            (br (decide (y_28 = 2))
                              (br (decide (x_33 = 0))
                                (br (decide (y_34 = 1) && decide (y_35 = 2))
                                  (some (decide (x_40 = 3)))
                                  (some false))
                                (some false))
                              (some false))
                            (some false))
                          (some false))
                        (some false))
                      (some false))
                    (some false)))))))))
noncomputable def awake_sp (N : Nat) : List Spec := [sp_lwrong N, sp_astray N, sp_fewest N, sp_count N, sp_never N, sp_shows N, sp_least N, sp_likei N, sp_gate N]
theorem awake_all (N : Nat) : AllP (SpecOK Try.prog) (awake_sp N) := ⟨sp_lwrong_ok N, sp_astray_ok N, sp_fewest_ok N, sp_count_ok N, sp_never_ok N, sp_shows_ok N, sp_least_ok N, sp_likei_ok N, sp_gate_ok N, trivial⟩
noncomputable def awake_c : Code := (Try.f19.body).getD .skip
noncomputable abbrev awake_B : Body := { c := awake_c, n := 132, res := [.tmp 0], outs := [⟨[.b], []⟩], m0 := 0 }
abbrev awake_rt : altD awake_B.outs → Option Bool := fun r => some r.1.1
abbrev awake_st : Sta := ⟨[], ⟨[], []⟩⟩
theorem awake_eq (N : Nat)  : ev (Z := Bool) Try.prog (awake_sp N) awake_B [] [] (some awake_rt) 400 false [.c [0], .c [1]] (stL awake_st ((), ())) (stH awake_st ((), ())) = awake_S N := by kernel_rfl
noncomputable def sp_awake (N : Nat) : Spec := { f := 19, ins := ⟨[], []⟩, outs := [⟨[.b], []⟩], run := fun p k => (awake_S N).bind fun r => k ((r, ()), ()) }
theorem sp_awake_ok (N : Nat) : SpecOK Try.prog (sp_awake N) := fn_sound (B := awake_B) (loops := []) (leaves := []) (fun p => awake_S N ) (fun r => ((r, ()), ())) awake_rt (fun _ _ _ => rfl) (fun r z h => by cases h; rfl) Try.func19 (by kernel_rfl) (by kernel_rfl) (by kernel_rfl) rfl rfl (by kernel_rfl) (fun args w => Sem.pv_run _ _ _ (by kernel_rfl) w) (awake_all N) mixed trivial (fun z E Xc hE hX hret => trivial) (fun p => awake_eq N )

end Go.Proofs.Ytfamlpbdhhikdaa

namespace Go.Proofs.Ytfamlpbdhhikdaa
set_option linter.all false
open Go

def has_l1 (N : Nat) : Nat → (List Int) → Int → Int → Option ((Unit) ⊕ (Unit))
  | 0, _, _, _ => none
  | n_ + 1, l, n, i =>
    br (decide (i < (l.length : Int)))
      (idx l i fun x_1 =>
      br (decide (x_1 = n))
        (some (.inl ()))
        (chk (i + 1) <|
        has_l1 N n_ l n (i + 1)))
      (some (.inr ()))
def has_S (N : Nat) (l : List Int) (n : Int) : Option Bool :=
  (has_l1 N N l n 0).bind fun e => match e with
  | .inl _ =>
    some true
  | .inr _ =>
    some false
def otherwise_l1 (N : Nat) : Nat → (List Int) → Int → Int → Int → Int → Option ((Unit) ⊕ (List Int × Int × Int × Int))
  | 0, _, _, _, _, _ => none
  | n_ + 1, l, w, x, x2, x3 =>
    br (decide (w ≤ x3))
      ((has_S N l w).bind fun x_1 =>
      br (!x_1)
        (some (.inl ()))
        (chk (w + 1) <|
        otherwise_l1 N n_ l (w + 1) x x2 x3))
      (some (.inr (l, x, x2, x3)))
def otherwise_S (N : Nat) (x : Int) (x2 : Int) (x3 : Int) (l : List Int) : Option Bool :=
  (otherwise_l1 N N l x2 x x2 x3).bind fun e => match e with
  | .inl _ =>
    some false
  | .inr (l_2, x_3, x2_4, x3_5) =>
    (has_S N l_2 x_3).bind fun x_6 =>
    some (!x_6)
def said_j1 (N : Nat) (rec : (List Int) → Int → (List (Int × (Int × Bool))) → (List (Int × (Int × Int))) → Int → (List Int) → Option (List Int)) (l : List Int) (i : Int) (t : List (Int × (Int × Bool))) (t2 : List (Int × (Int × Int))) (t3 : Int) (out : List Int) : Option (List Int) :=
  chk (i + 1) <|
  rec l (i + 1) t t2 t3 out
def said_l1 (N : Nat) : Nat → (List Int) → Int → (List (Int × (Int × Bool))) → (List (Int × (Int × Int))) → Int → (List Int) → Option (List Int)
  | 0, _, _, _, _, _, _ => none
  | n_ + 1, l, i, t, t2, t3, out =>
    br (decide (i < (t2.length : Int)))
      (idx t2 i fun x_1 =>
      (otherwise_S N x_1.1 x_1.2.1 x_1.2.2 l).bind fun x_2 =>
      br x_2
        (lim (out.length + [i].length) <|
        said_j1 N (said_l1 N n_) l i t t2 t3 (out ++ [i]))
        (said_j1 N (said_l1 N n_) l i t t2 t3 out))
      (some (out))
def said_S (N : Nat) (t : List (Int × (Int × Bool))) (t2 : List (Int × (Int × Int))) (t3 : Int) (l : List Int) : Option (List Int) :=
  (said_l1 N N l 0 t t2 t3 []).bind fun out_3 =>
  some out_3
end Go.Proofs.Ytfamlpbdhhikdaa

namespace Go.Proofs.Ytfamlpbdhhikdaa
set_option linter.all false
open Go
theorem awake_v : awake_S 1100 = some true := by kernel_rfl
end Go.Proofs.Ytfamlpbdhhikdaa

namespace Go.Proofs.Ytfamlpbdhhikdaa
set_option linter.all false
open Go

/-! ### All elements -/
theorem every_gen {α : Type} {f : α → Option Bool} {p : α → Bool} {s : List α} {N : Nat} (hf : ∀ x ∈ s, f x = some (p x)) (hs : s.length ≤ 1000000) (hN : s.length < N) :
    (((ixS (fun x => (f x).bind fun c => some (!c)) N s).bind fun x => some (decide (0 ≤ x))).bind fun x => some (!x)) = some (s.all p) := by
  rw [ixS_any (p := fun x => !p x) (fun x hx => by rw [hf x hx]; rfl) hs hN]
  simp only [Option.bind_some, any_not]
section
variable (N : Nat)
theorem ixfw_gen : ∀ (n : Nat) (s : List Wd) (u u2 : Int), ixfw_l1 N n s u u2 = ixL (fun x => every1w_S N x.1 x.2.1 x.2.2) n s u u2
  | 0, _, _, _ => rfl
  | n + 1, s, u, u2 => by unfold ixfw_l1 ixL; simp only [ixfw_gen n]
theorem ixft3_gen : ∀ (n : Nat) (s : List Tn) (u u2 : Int), ixft3_l1 N n s u u2 = ixL (fun x => every1t3_S N x.1 x.2.1 x.2.2) n s u u2
  | 0, _, _, _ => rfl
  | n + 1, s, u, u2 => by unfold ixft3_l1 ixL; simp only [ixft3_gen n]
theorem ixft4_gen : ∀ (n : Nat) (s : List Tn) (u u2 : Int), ixft4_l1 N n s u u2 = ixL (fun x => every1t4_S N x.1 x.2.1 x.2.2) n s u u2
  | 0, _, _, _ => rfl
  | n + 1, s, u, u2 => by unfold ixft4_l1 ixL; simp only [ixft4_gen n]
end
def okw (w : Wd) : Bool := decide (1 ≤ w.1 ∧ w.1 ≤ 9) && decide (0 ≤ w.2.1 ∧ w.2.1 ≤ 20)
def inT (n : Nat) (x : Int) : Bool := decide (0 ≤ x ∧ x ≤ (n : Int) - 1)
def ok2 (n : Nat) (x : Tn) : Bool := inT n x.1 && (inT n x.2.1 && inT n x.2.2)
def ok3 (x : Tn) : Bool := decide (x.2.1 ≤ x.2.2)
def ok4 (x : Tn) : Bool := !decide (x.2.1 ≤ x.1 ∧ x.1 ≤ x.2.2)
section
variable {N : Nat} {ws : List Wd} {ts : List Tn} {br_ : Int}
theorem everyw_v (h : ws.length ≤ 1000000) (hN : ws.length < N) : everyw_S N ws = some (ws.all okw) := by
  unfold everyw_S cofw_S ixfw_S
  rw [← every_gen (f := fun x : Wd => check1_S N x.1 x.2.1 x.2.2) (p := okw) (s := ws) (N := N) (fun x _ => ?_) h hN]
  · unfold ixS
    rw [ixfw_gen]
    rfl
  · unfold check1_S okw
    rw [in_v, in_v]
    by_cases h : 1 ≤ x.1 ∧ x.1 ≤ 9 <;> simp [br, h]
theorem everyt3_v (h : ts.length ≤ 1000000) (hN : ts.length < N) : everyt3_S N ts = some (ts.all ok3) := by
  unfold everyt3_S coft3_S ixft3_S
  rw [← every_gen (f := fun x : Tn => check3_S N x.1 x.2.1 x.2.2) (p := ok3) (s := ts) (N := N) (fun x _ => ?_) h hN]
  · unfold ixS
    rw [ixft3_gen]
    rfl
  · rfl
theorem everyt4_v (h : ts.length ≤ 1000000) (hN : ts.length < N) : everyt4_S N ts = some (ts.all ok4) := by
  unfold everyt4_S coft4_S ixft4_S
  rw [← every_gen (f := fun x : Tn => check4_S N x.1 x.2.1 x.2.2) (p := ok4) (s := ts) (N := N) (fun x _ => ?_) h hN]
  · unfold ixS
    rw [ixft4_gen]
    rfl
  · unfold check4_S ok4
    rw [in_v]; rfl
theorem word_v (h : ws.length ≤ 1000000) (n : Int) : word_S N ws ts br_ n = some (inT ws.length n) := by
  unfold word_S
  rw [chk_eq (by omega), in_v]; rfl
theorem check2_v (h : ws.length ≤ 1000000) (x : Tn) : check2_S N x.1 x.2.1 x.2.2 (ws, ts, br_) = some (ok2 ws.length x) := by
  unfold check2_S ok2
  simp only [word_v h, Option.bind_some]
  cases inT ws.length x.1 <;> cases inT ws.length x.2.1 <;> cases inT ws.length x.2.2 <;> rfl
theorem ixft2_gen (h : ws.length ≤ 1000000) : ∀ (n : Nat) (s : List Tn) (u u2 : Int), ixft2_l1 N n s u u2 (ws, ts, br_) = (ixL (fun x => some (!ok2 ws.length x)) n s u u2).map fun r => match r with | .inl i => .inl (i, (ws, ts, br_)) | .inr _ => .inr (ws, ts, br_)
  | 0, _, _, _ => rfl
  | n + 1, s, u, u2 => by
    unfold ixft2_l1 ixL every1t2_S
    simp only [check2_v h, Option.bind_some, ixft2_gen h n]
    unfold br
    split
    · unfold idx
      split
      · cases s[u2.toNat]? with
        | none => rfl
        | some a =>
          dsimp only
          cases ok2 ws.length a
          · rfl
          · simp only [Bool.not_true, Bool.false_eq_true, if_false]
            unfold chk
            split <;> rfl
      · rfl
    · rfl
theorem everyt2_v (hw : ws.length ≤ 1000000) (h : ts.length ≤ 1000000) (hN : ts.length < N) : everyt2_S N ts (ws, ts, br_) = some (ts.all (ok2 ws.length)) := by
  unfold everyt2_S coft2_S ixft2_S
  rw [← every_gen (f := fun x : Tn => some (ok2 ws.length x)) (p := ok2 ws.length) (s := ts) (N := N) (fun x _ => rfl) h hN]
  unfold ixS
  rw [ixft2_gen hw]
  simp only [Option.bind_some]
  cases ixL (fun x => some (!ok2 ws.length x)) N ts ts.length 0 with
  | none => rfl
  | some r => cases r <;> rfl
end
/-- The error of a text. -/
def checkT (ws : List Wd) (ts : List Tn) (br_ : Int) : Int :=
  if ¬ (1 ≤ (ws.length : Int) ∧ (ws.length : Int) ≤ 12) then 2 else if 6 < (ts.length : Int) then 2 else if ¬ (1 ≤ br_ ∧ br_ ≤ 40) then 3 else if ws.all okw = false then 3 else
  if ts.all (ok2 ws.length) = false then 1 else if ts.all ok3 = false then 4 else if ts.all ok4 = false then 7 else 0
section
variable {N : Nat} {ws : List Wd} {ts : List Tn} {br_ : Int}
theorem check_v (hN : 20 ≤ N) (hw : ws.length ≤ 1000000) (ht : ts.length ≤ 1000000) : check_S N ws ts br_ = some (checkT ws ts br_) := by
  unfold check_S checkT
  rw [in_v]
  simp only [Option.bind_some]
  by_cases c1 : 1 ≤ (ws.length : Int) ∧ (ws.length : Int) ≤ 12
  rotate_left
  · rw [br_nnd c1, if_pos c1]
  rw [br_nd c1, if_neg (by simpa using c1)]
  by_cases c2 : 6 < (ts.length : Int)
  · rw [br_dec c2, if_pos c2]
  rw [br_ndec c2, if_neg c2, in_v]
  simp only [Option.bind_some]
  by_cases c3 : 1 ≤ br_ ∧ br_ ≤ 40
  rotate_left
  · rw [br_nnd c3, if_pos c3]
  rw [br_nd c3, if_neg (by simpa using c3), everyw_v hw (by omega), everyt2_v hw ht (by omega), everyt3_v ht (by omega), everyt4_v ht (by omega)]
  simp only [Option.bind_some]
  cases ws.all okw <;> cases ts.all (ok2 ws.length) <;> cases ts.all ok3 <;> cases ts.all ok4 <;> rfl
/-! ### Copies, comparisons -/
end
end Go.Proofs.Ytfamlpbdhhikdaa

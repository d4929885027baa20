/-
  Parts of a proof, put together: PED, PF1.
  Conditions: none.
-/
import Derived.Test.YtgeijboidfadaaaZe
import Derived.Test.YtgeijboidfadaaaZf
namespace Go.Proofs.Ytgeijboidfadaaa
set_option linter.all false
open Go

/-- A run ends well, with a result of which Q speaks. -/
def Ok {α : Type} (o : Option α) (Q : α → Prop) : Prop := ∃ x, o = some x ∧ Q x
section
variable {α β Z : Type} {Q : Z → Prop} {x y : Option Z}
theorem Ok.some {z : Z} (h : Q z) : Ok (some z) Q := ⟨z, rfl, h⟩
theorem Ok.bind {o : Option α} {P : α → Prop} {f : α → Option Z} (h : Ok o P) (k : ∀ a, P a → Ok (f a) Q) : Ok (o.bind f) Q := by
  obtain ⟨a, rfl, ha⟩ := h
  exact k a ha
theorem Ok.eqb {o : Option α} {a : α} {f : α → Option Z} (h : o = Option.some a) (k : Ok (f a) Q) : Ok (o.bind f) Q := by subst h; exact k
theorem Ok.mono {P : Z → Prop} (h : Ok x P) (k : ∀ a, P a → Q a) : Ok x Q := let ⟨a, e, p⟩ := h; ⟨a, e, k a p⟩
theorem Ok.br {c : Bool} (h1 : c = true → Ok x Q) (h2 : c = false → Ok y Q) : Ok (br c x y) Q := by
  cases c
  · exact h2 rfl
  · exact h1 rfl
theorem Ok.brd {p : Prop} [Decidable p] (h1 : p → Ok x Q) (h2 : ¬ p → Ok y Q) : Ok (Proofs.Ytgeijboidfadaaa.br (decide p) x y) Q := by
  by_cases h : p
  · simpa [h, Proofs.Ytgeijboidfadaaa.br] using h1 h
  · simpa [h, Proofs.Ytgeijboidfadaaa.br] using h2 h
theorem chk_eq {n : Int} (hn : -9223372036854775808 ≤ n ∧ n ≤ 9223372036854775807) : chk n x = x := by unfold chk; rw [okI_iff.2 hn]
theorem Ok.chk {n : Int} (hn : -9223372036854775808 ≤ n ∧ n ≤ 9223372036854775807) (h : Ok x Q) : Ok (chk n x) Q := by rw [chk_eq hn]; exact h
theorem grd_eq {c : Bool} (hc : c = true) : grd c x = x := by subst hc; rfl
theorem Ok.grd {c : Bool} (hc : c = true) (h : Ok x Q) : Ok (grd c x) Q := by subst hc; exact h
theorem rng_eq {i : Int} {n : Nat} (hi : 0 ≤ i ∧ i < n) : rng i n x = x := by unfold rng; rw [if_pos hi]
theorem Ok.rng {i : Int} {n : Nat} (hi : 0 ≤ i ∧ i < n) (h : Ok x Q) : Ok (rng i n x) Q := by rw [rng_eq hi]; exact h
theorem lim_eq {n : Nat} (hn : n ≤ 1000000) : lim n x = x := by unfold lim; rw [if_pos hn]
theorem Ok.lim {n : Nat} (hn : n ≤ 1000000) (h : Ok x Q) : Ok (lim n x) Q := by rw [lim_eq hn]; exact h
theorem idx_eq {l : List α} {i : Int} {f : α → Option Z} {a : α} (h0 : 0 ≤ i) (h : l[i.toNat]? = Option.some a) : idx l i f = f a := by unfold idx; rw [if_pos h0, h]
theorem idx_get {l : List α} {i : Int} {f : α → Option Z} (d : α) (h0 : 0 ≤ i) (h : i < l.length) : idx l i f = f (l.getD i.toNat d) := by
  refine idx_eq h0 ?_
  have : i.toNat < l.length := by omega
  simp [List.getD, this]
theorem Ok.idx {l : List α} {i : Int} {f : α → Option Z} (h0 : 0 ≤ i) (h : i < l.length) (k : ∀ a, l[i.toNat]? = Option.some a → a ∈ l → Ok (f a) Q) : Ok (idx l i f) Q := by
  have hlt : i.toNat < l.length := by omega
  have e : l[i.toNat]? = Option.some l[i.toNat] := List.getElem?_eq_getElem hlt
  rw [idx_eq h0 e]
  exact k _ e (List.getElem_mem hlt)
theorem get_eq {l : List α} {k : Nat} {f : α → Option Z} {a : α} (h : l[k]? = Option.some a) : get l k f = f a := by unfold get; rw [h]
theorem Ok.get {l : List α} {k : Nat} {f : α → Option Z} (h : k < l.length) (c : ∀ a, l[k]? = Option.some a → a ∈ l → Ok (f a) Q) : Ok (get l k f) Q := by
  have e : l[k]? = Option.some l[k] := List.getElem?_eq_getElem h
  rw [get_eq e]
  exact c _ e (List.getElem_mem h)
theorem br_true : br true x y = x := rfl
theorem br_false : br false x y = y := rfl
theorem br_dec {p : Prop} [Decidable p] (h : p) : br (decide p) x y = x := by simp [h, br]
theorem br_ndec {p : Prop} [Decidable p] (h : ¬ p) : br (decide p) x y = y := by simp [h, br]
theorem br_nd {p : Prop} [Decidable p] (h : p) : br (!decide p) x y = y := by simp [h, br]
theorem br_nnd {p : Prop} [Decidable p] (h : ¬ p) : br (!decide p) x y = x := by simp [h, br]
end
/-- A list of numbers from lo to hi. -/
def InR (lo hi : Int) (l : List Int) : Prop := ∀ x ∈ l, lo ≤ x ∧ x ≤ hi
theorem InR.drop {lo hi : Int} {l : List Int} (h : InR lo hi l) (n : Nat) : InR lo hi (l.drop n) := fun x hx => h x (List.mem_of_mem_drop hx)
theorem InR.nil {lo hi : Int} : InR lo hi [] := fun _ h => by cases h
theorem InR.mono {lo hi lo' hi' : Int} {l : List Int} (h : InR lo hi l) (h1 : lo' ≤ lo) (h2 : hi ≤ hi') : InR lo' hi' l := fun x hx => by have := h x hx; omega

end Go.Proofs.Ytgeijboidfadaaa
namespace Go.Proofs.Ytgeijboidfadaaa
set_option linter.all false
open Go

def ixL {α : Type} (f : α → Option Bool) : Nat → List α → Int → Int → Option (Int ⊕ Unit)
  | 0, _, _, _ => none
  | n + 1, s, u, u2 => br (decide (u2 < u)) (idx s u2 fun x => (f x).bind fun c => br c (some (.inl u2)) (chk (u2 + 1) <| ixL f n s u (u2 + 1))) (some (.inr ()))
def ixS {α : Type} (f : α → Option Bool) (N : Nat) (s : List α) : Option Int := (ixL f N s (s.length : Int) 0).bind fun e => match e with
  | .inl i => some i
  | .inr _ => some (-1)
theorem ixL_ok {α : Type} {f : α → Option Bool} {p : α → Bool} {s : List α} (hf : ∀ x ∈ s, f x = some (p x)) (hs : s.length ≤ 1000000) : ∀ (n k : Nat), s.length < n + k → k ≤ s.length →
    Ok (ixL f n s (s.length : Int) (k : Int)) fun r => match r with | .inl i => (0 ≤ i ∧ i < s.length) ∧ (s.drop k).any p = true | .inr _ => (s.drop k).any p = false
  | 0, k, h, hk => by omega
  | n + 1, k, h, hk => by
    unfold ixL
    refine Ok.brd (fun h1 => ?_) (fun h1 => Ok.some ?_)
    · have hlt : k < s.length := by omega
      refine Ok.idx (by omega) h1 (fun a ha hm => ?_)
      have hd : s.drop k = a :: s.drop (k + 1) := by
        rw [List.drop_eq_getElem_cons hlt]
        have : s[k]? = some a := by simpa using ha
        rw [List.getElem?_eq_getElem hlt] at this
        simp only [Option.some.injEq] at this
        rw [this]
      refine Ok.eqb (hf a hm) (Ok.br (fun hp => Ok.some ?_) (fun hp => Ok.chk (by omega) ?_))
      · exact ⟨⟨by omega, by omega⟩, by rw [hd]; simp [hp]⟩
      · have := ixL_ok hf hs n (k + 1) (by omega) (by omega)
        rw [show ((k + 1 : Nat) : Int) = (k : Int) + 1 by omega] at this
        refine this.mono (fun r hr => ?_)
        rw [hd]
        cases r <;> simpa [hp] using hr
    · have : s.drop k = [] := List.drop_of_length_le (by omega)
      simp [this]
theorem ixS_any {α : Type} {f : α → Option Bool} {p : α → Bool} {s : List α} {N : Nat} (hf : ∀ x ∈ s, f x = some (p x)) (hs : s.length ≤ 1000000) (hN : s.length < N) : ((ixS f N s).bind fun x => some (decide (0 ≤ x))) = some (s.any p) := by
  obtain ⟨r, h1, h2⟩ := ixL_ok hf hs N 0 (by omega) (by omega)
  unfold ixS
  rw [show ((0 : Nat) : Int) = 0 from rfl] at h1
  rw [h1]
  cases r with
  | inl i => simp only [List.drop_zero] at h2; simp [h2.1.1, h2.2]
  | inr u => simp only [List.drop_zero] at h2; simp [h2]

theorem in_v (N : Nat) (n lo hi : Int) : in__S N n lo hi = some (decide (lo ≤ n ∧ n ≤ hi)) := by
  unfold in__S
  by_cases h : lo ≤ n <;> simp [h, br]
theorem any_not {α : Type} (p : α → Bool) (s : List α) : (!(s.any fun x => !p x)) = s.all p := by
  induction s with
  | nil => rfl
  | cons a s ih => simp only [List.any_cons, List.all_cons, Bool.not_or, Bool.not_not, ih]
def okW (w : Int) : Bool := decide (0 ≤ w ∧ w ≤ 9)
theorem ixfi_gen (N : Nat) : ∀ (n : Nat) (s : List Int) (u u2 : Int), ixfi_l1 N n s u u2 = ixL (every1i_S N) n s u u2
  | 0, _, _, _ => rfl
  | n + 1, s, u, u2 => by simp only [ixfi_l1, ixL, ixfi_gen N n]
theorem ixfa_gen (N : Nat) : ∀ (n : Nat) (s : List (List Int)) (u u2 : Int), ixfa_l1 N n s u u2 = ixL (every1a_S N) n s u u2
  | 0, _, _, _ => rfl
  | n + 1, s, u, u2 => by simp only [ixfa_l1, ixL, ixfa_gen N n]
theorem ixfb_gen (N : Nat) : ∀ (n : Nat) (s : List (List Int)) (u u2 : Int), ixfb_l1 N n s u u2 = ixL (every1b_S N) n s u u2
  | 0, _, _, _ => rfl
  | n + 1, s, u, u2 => by simp only [ixfb_l1, ixL, ixfb_gen N n]
theorem everyi_v (N : Nat) {l : List Int} (h : l.length ≤ 1000000) (hN : l.length < N) : everyi_S N l = some (l.all okW) := by
  have := ixS_any (f := every1i_S N) (p := fun x => !okW x) (s := l) (N := N) (fun x _ => by simp [every1i_S, check11_S, in_v, okW]) h hN
  unfold everyi_S cofi_S
  have e : ixfi_S N l = ixS (every1i_S N) N l := by
    unfold ixfi_S ixS
    rw [ixfi_gen] <;> rfl
  rw [e, this]
  simp [any_not]
theorem everya_v (N : Nat) {l : List (List Int)} (h : l.length ≤ 1000000) (hN : l.length < N) (hl : ∀ x ∈ l, x.length ≤ 1000000 ∧ x.length < N) : everya_S N l = some (l.all fun x => x.all okW) := by
  have := ixS_any (f := every1a_S N) (p := fun x => !(x.all okW)) (s := l) (N := N) (fun x hx => by simp [every1a_S, check1_S, everyi_v N (hl x hx).1 (hl x hx).2]) h hN
  unfold everya_S cofa_S
  have e : ixfa_S N l = ixS (every1a_S N) N l := by
    unfold ixfa_S ixS
    rw [ixfa_gen] <;> rfl
  rw [e, this]
  simp [any_not]
def okL (x : List Int) : Bool := decide (1 ≤ (x.length : Int) ∧ (x.length : Int) ≤ 6)
theorem everyb_v (N : Nat) {l : List (List Int)} (h : l.length ≤ 1000000) (hN : l.length < N) : everyb_S N l = some (l.all okL) := by
  have := ixS_any (f := every1b_S N) (p := fun x => !okL x) (s := l) (N := N) (fun x _ => by simp [every1b_S, check2_S, in_v, okL]) h hN
  unfold everyb_S cofb_S
  have e : ixfb_S N l = ixS (every1b_S N) N l := by
    unfold ixfb_S ixS
    rw [ixfb_gen] <;> rfl
  rw [e, this]
  simp [any_not]

def checkE (T : List (List Int)) (H : List Int) (f : Int) : Int :=
  if ¬ (1 ≤ T.length ∧ T.length ≤ 5) then 2 else if 10 < H.length then 2 else if ¬ T.all okL then 2 else if ¬ T.all (fun x => x.all okW) then 3 else if ¬ H.all okW then 3 else if ¬ (0 ≤ f ∧ f ≤ 8) then 3 else 0
theorem check_v {N : Nat} (hN : 20 ≤ N) (T : List (List Int)) (H : List Int) (f : Int) : check_S N T H f = some (checkE T H f) := by
  unfold check_S checkE
  rw [in_v]
  simp only [Option.bind_some]
  by_cases h1 : 1 ≤ T.length ∧ T.length ≤ 5
  · rw [show decide (1 ≤ (T.length : Int) ∧ (T.length : Int) ≤ 5) = true by simpa using (by omega), if_neg (by simpa using h1)]
    simp only [Bool.not_true, br_false]
    by_cases h2 : 10 < H.length
    · rw [br_dec (by omega), if_pos h2]
    · rw [br_ndec (by omega), if_neg h2, everyb_v N (by omega) (by omega)]
      simp only [Option.bind_some]
      cases hb : T.all okL with
      | false => simp [br]
      | true =>
        simp only [Bool.not_true, br_false]
        rw [if_neg (by simp)]
        have hl : ∀ x ∈ T, x.length ≤ 6 := fun x hx => by
          have := List.all_eq_true.1 hb x hx
          simp only [okL, decide_eq_true_eq] at this; omega
        rw [everya_v N (by omega) (by omega) (fun x hx => by have := hl x hx; omega)]
        simp only [Option.bind_some]
        cases ha : T.all fun x => x.all okW with
        | false => simp [br]
        | true =>
          simp only [Bool.not_true, br_false]
          rw [if_neg (by simp), show check1_S N H = some (H.all okW) by simp [check1_S, everyi_v N (l := H) (by omega) (by omega)]]
          simp only [Option.bind_some]
          cases hh : H.all okW with
          | false => simp [br]
          | true =>
            simp only [Bool.not_true, br_false]
            rw [if_neg (by simp), in_v]
            simp only [Option.bind_some]
            by_cases h3 : 0 ≤ f ∧ f ≤ 8 <;> simp [h3, br]
  · rw [show decide (1 ≤ (T.length : Int) ∧ (T.length : Int) ≤ 5) = false by simpa using (by omega), if_pos (by simpa using h1)]
    rfl
/-- An echo without an error. -/
structure Fine (T : List (List Int)) (H : List Int) (f : Int) : Prop where
  n : 1 ≤ T.length ∧ T.length ≤ 5
  h : H.length ≤ 10
  l : ∀ x ∈ T, 1 ≤ x.length ∧ x.length ≤ 6
  w : ∀ x ∈ T, InR 0 9 x
  hw : InR 0 9 H
  f : 0 ≤ f ∧ f ≤ 8
theorem okW_all {x : List Int} : x.all okW = true ↔ InR 0 9 x := by simp [okW, InR]
theorem Fine.check {T : List (List Int)} {H : List Int} {f : Int} (h : Fine T H f) : checkE T H f = 0 := by
  unfold checkE
  have h1 : T.all okL = true := List.all_eq_true.2 fun x hx => by
    have := h.l x hx
    simp only [okL, decide_eq_true_eq]; omega
  have h2 : (T.all fun x => x.all okW) = true := List.all_eq_true.2 fun x hx => okW_all.2 (h.w x hx)
  rw [if_neg (by simpa using h.n), if_neg (by have := h.h; omega), if_neg (by rw [h1]; simp), if_neg (by rw [h2]; simp), if_neg (by rw [okW_all.2 h.hw]; simp), if_neg (by simpa using h.f)]
theorem fine_of {T : List (List Int)} {H : List Int} {f : Int} (h : checkE T H f = 0) : Fine T H f := by
  unfold checkE at h
  split at h; · simp at h
  split at h; · simp at h
  split at h; · simp at h
  split at h; · simp at h
  split at h; · simp at h
  split at h; · simp at h
  rename_i h1 h2 h3 h4 h5 h6
  simp only [Decidable.not_not, Bool.not_eq_true, Bool.not_eq_false, List.all_eq_true (l := T)] at *
  refine ⟨h1, by omega, fun x hx => ?_, fun x hx => okW_all.1 (h4 x hx), okW_all.1 h5, h6⟩
  have := h3 x hx
  simp only [okL, decide_eq_true_eq] at this; omega
theorem text_v (N : Nat) {T : List (List Int)} (H : List Int) (f n : Int) (hT : T.length ≤ 1000000) : text_S N T H f n = some (decide (0 ≤ n ∧ n < T.length)) := by
  unfold text_S
  rw [chk_eq (by omega), in_v]
  simp only [Option.bind_some, Option.some.injEq]
  congr 1
  apply propext; omega
/-- An echo at work, or the error. -/
def openE (T : List (List Int)) (H : List Int) (f a b : Int) : Int := if checkE T H f ≠ 0 then checkE T H f else if ¬ (0 ≤ a ∧ a < T.length) ∨ ¬ (0 ≤ b ∧ b < T.length) then 1 else 0
theorem opened_good {N : Nat} (hN : 20 ≤ N) {T : List (List Int)} {H : List Int} {f a b : Int} (h : openE T H f a b = 0) : Fine T H f ∧ (0 ≤ a ∧ a < T.length) ∧ (0 ≤ b ∧ b < T.length) ∧ opened_S N T H f a b = some (.inl ((T, H, f, T.getD a.toNat [], T.getD b.toNat []), 0)) := by
  unfold openE at h
  unfold opened_S
  rw [check_v hN]
  simp only [Option.bind_some]
  by_cases hc : checkE T H f = 0
  · have hF := fine_of hc
    rw [if_neg (by simpa using hc)] at h
    have hT := hF.n
    by_cases ha : 0 ≤ a ∧ a < T.length
    · by_cases hb : 0 ≤ b ∧ b < T.length
      · refine ⟨hF, ha, hb, ?_⟩
        simp only [hc, decide_true, Bool.not_true, br_false]
        rw [text_v N H f a (by omega), text_v N H f b (by omega)]
        simp only [Option.bind_some, ha, hb, and_self, decide_true, Bool.not_true, br_false]
        rw [idx_get [] ha.1 ha.2, idx_get [] hb.1 hb.2]
      · rw [if_pos (.inr hb)] at h; simp at h
    · rw [if_pos (.inl ha)] at h; simp at h
  · rw [if_pos hc] at h; exact absurd h hc
theorem Fine.open {T : List (List Int)} {H : List Int} {f a b : Int} (h : Fine T H f) (ha : 0 ≤ a ∧ a < T.length) (hb : 0 ≤ b ∧ b < T.length) : openE T H f a b = 0 := by
  unfold openE
  rw [if_neg (by simpa using h.check), if_neg (by simp only [not_or, Decidable.not_not]; exact ⟨ha, hb⟩)]
end Go.Proofs.Ytgeijboidfadaaa
namespace Go.Proofs.Ytgeijboidfadaaa
set_option linter.all false
open Go

/-- How many words two lists have in common at most. -/
def lc : List Int → List Int → Nat
  | [], _ => 0
  | _ :: _, [] => 0
  | x :: xs, y :: ys => if x = y then max (max (lc xs (y :: ys)) (lc (x :: xs) ys)) (lc xs ys + 1) else max (lc xs (y :: ys)) (lc (x :: xs) ys)
termination_by a b => a.length + b.length
theorem lc_nil_right (a : List Int) : lc a [] = 0 := by cases a <;> simp [lc]
theorem drop_cons {a : List Int} {i : Nat} (h : i < a.length) : a.drop i = a.getD i 0 :: a.drop (i + 1) := by
  rw [List.drop_eq_getElem_cons h]; simp [List.getD, h]
/-- What the table of common words holds so far: rows behind i, and in row i places behind k. -/
def GridTo (a b : List Int) (l : List Int) (i k : Int) : Prop :=
  l.length = 49 ∧ a.length ≤ 6 ∧ b.length ≤ 6 ∧ ∀ i' k' : Nat, i' ≤ a.length → k' ≤ b.length → (i' = a.length ∨ k' = b.length ∨ i < i' ∨ (i = i' ∧ k < k')) → l[i' * 7 + k']? = some ((lc (a.drop i') (b.drop k') : Nat) : Int)
theorem GridTo.start (a b : List Int) (ha : a.length ≤ 6) (hb : b.length ≤ 6) : GridTo a b (List.replicate 49 (0 : Int)) ((a.length : Int) - 1) b.length := by
  refine ⟨by simp, ha, hb, fun i' k' hi hk h => ?_⟩
  have : lc (a.drop i') (b.drop k') = 0 := by
    rcases h with h | h | h | h
    · rw [h, List.drop_length]; simp [lc]
    · rw [h, List.drop_length, lc_nil_right]
    · have : i' = a.length := by omega
      rw [this, List.drop_length]; simp [lc]
    · omega
  rw [this, List.getElem?_replicate, if_pos (by omega)]; rfl
theorem GridTo.row {a b : List Int} {l : List Int} {i : Int} (h : GridTo a b l i b.length) : GridTo a b l i ((b.length : Int) - 1) :=
  ⟨h.1, h.2.1, h.2.2.1, fun i' k' hi hk hh => h.2.2.2 i' k' hi hk (by omega)⟩
theorem GridTo.next {a b : List Int} {l : List Int} {i : Int} (h : GridTo a b l i (-1)) : GridTo a b l (i - 1) b.length :=
  ⟨h.1, h.2.1, h.2.2.1, fun i' k' hi hk hh => h.2.2.2 i' k' hi hk (by omega)⟩
theorem GridTo.get {a b : List Int} {l : List Int} {i k : Int} (h : GridTo a b l i k) (i' k' : Nat) (hi : i' ≤ a.length) (hk : k' ≤ b.length) (hh : i' = a.length ∨ k' = b.length ∨ i < i' ∨ (i = i' ∧ k < k')) :
    l[i' * 7 + k']? = some ((lc (a.drop i') (b.drop k') : Nat) : Int) := h.2.2.2 i' k' hi hk hh
theorem GridTo.lt {a b : List Int} {l : List Int} {i k : Int} (h : GridTo a b l i k) (i' k' : Nat) (hi : i' ≤ a.length) (hk : k' ≤ b.length) : i' * 7 + k' < l.length := by
  have := h.1; have := h.2.1; have := h.2.2.1; omega
theorem GridTo.set {a b : List Int} {l : List Int} {i k : Int} (h : GridTo a b l i k) (h0 : 0 ≤ i) (h1 : i < a.length) (h2 : 0 ≤ k) (h3 : k < b.length) (v : Int) : GridTo a b (l.set (i.toNat * 7 + k.toNat) v) i k := by
  refine ⟨by simp [h.1], h.2.1, h.2.2.1, fun i' k' hi hk hh => ?_⟩
  have hla := h.2.1; have hlb := h.2.2.1
  rw [List.getElem?_set_ne (by omega)]
  exact h.get i' k' hi hk hh
theorem GridTo.step {a b : List Int} {l : List Int} {i k : Int} (h : GridTo a b l i k) (h0 : 0 ≤ i) (h1 : i < a.length) (h2 : 0 ≤ k) (h3 : k < b.length) (hv : l[i.toNat * 7 + k.toNat]? = some ((lc (a.drop i.toNat) (b.drop k.toNat) : Nat) : Int)) : GridTo a b l i (k - 1) := by
  refine ⟨h.1, h.2.1, h.2.2.1, fun i' k' hi hk hh => ?_⟩
  by_cases e : i' = i.toNat ∧ k' = k.toNat
  · obtain ⟨rfl, rfl⟩ := e; exact hv
  · exact h.get i' k' hi hk (by omega)
theorem GridTo.self {a b : List Int} {l : List Int} {i k : Int} (h : GridTo a b l i k) (h0 : 0 ≤ i) (h1 : i < a.length) (h2 : 0 ≤ k) (h3 : k < b.length) (v : Int) : (l.set (i.toNat * 7 + k.toNat) v)[i.toNat * 7 + k.toNat]? = some v := by
  rw [List.getElem?_set_self (h.lt _ _ (by omega) (by omega))]
end Go.Proofs.Ytgeijboidfadaaa
namespace Go.Proofs.Ytgeijboidfadaaa
set_option linter.all false
open Go

theorem getD_mem {α : Type} {l : List α} {i : Nat} {d : α} (h : i < l.length) : l.getD i d ∈ l := by
  simp [List.getD, h]
theorem most_v {N : Nat} (hN : 2 ≤ N) (x y : Int) : most_S N x [y] = some (max x y) := by
  obtain ⟨n, rfl⟩ : ∃ n, N = n + 2 := ⟨N - 2, by omega⟩
  simp [most_S, most_l1, br, idx, chk, okI]
end Go.Proofs.Ytgeijboidfadaaa
namespace Go.Proofs.Ytgeijboidfadaaa
set_option linter.all false
open Go

def wT (side w : Int) : Int := if 0 ≤ w ∧ side ≠ 3 then w + 1 else w
theorem wT_bnd {side w n : Int} (h : -1 ≤ w ∧ w ≤ n) : -1 ≤ wT side w ∧ wT side w ≤ n + 1 := by unfold wT; split <;> omega
def stepT (may : Nat → Int × Int → Bool) (h : Nat) (t : At3 → Int × Int) (best : Int × Int) (m : Mv) : Int × Int :=
  if may h m.1 = true then (if best.1 < wT m.1.1 (t m.2).1 then (wT m.1.1 (t m.2).1, (t m.2).2) else if wT m.1.1 (t m.2).1 = best.1 then (best.1, best.2 + (t m.2).2) else best) else best
def tvx (may : Nat → Int × Int → Bool) (H A B : List Int) : Nat → At3 → Int × Int
  | 0, _ => (0, 1)
  | n + 1, x => (movesL A B (H.getD x.1 0) x).foldl (stepT may x.1 (tvx may H A B n)) (-1, 0)
def tv (may : Nat → Int × Int → Bool) (H A B : List Int) (x : At3) : Int × Int := tvx may H A B (H.length - x.1) x
theorem standsL_len (l : List Int) (w : Int) (k : Nat) : (standsL l w k).length ≤ l.length := by
  unfold standsL
  have := List.length_filter_le (fun j => l.getD j 0 == w) (List.range' k (l.length - k))
  rw [List.length_range'] at this
  omega
theorem movesL_len (A B : List Int) (w : Int) (x : At3) : (movesL A B w x).length ≤ 1 + A.length + B.length := by
  simp only [movesL, List.length_cons, List.length_append, List.length_map]
  have := standsL_len A w x.2.1
  have := standsL_len B w x.2.2
  omega
theorem movesL_ok {A B : List Int} {w : Int} {x : At3} (ha : x.2.1 ≤ A.length) (hb : x.2.2 ≤ B.length) {m : Mv} (h : m ∈ movesL A B w x) : m.2.1 = x.1 + 1 ∧ m.2.2.1 ≤ A.length ∧ m.2.2.2 ≤ B.length := by
  simp only [movesL, List.mem_cons, List.mem_append, List.mem_map] at h
  rcases h with rfl | ⟨j, hj, rfl⟩ | ⟨j, hj, rfl⟩
  · exact ⟨rfl, ha, hb⟩
  · have := mem_standsL.1 hj; exact ⟨rfl, by dsimp only; omega, hb⟩
  · have := mem_standsL.1 hj; exact ⟨rfl, ha, by dsimp only; omega⟩
/-- How great they can be. -/
def Bnd13 (n : Nat) (v : Int × Int) : Prop := -1 ≤ v.1 ∧ v.1 ≤ n ∧ 0 ≤ v.2 ∧ v.2 ≤ ((13 ^ n : Nat) : Int)
def Bst (n c : Nat) (v : Int × Int) : Prop := -1 ≤ v.1 ∧ v.1 ≤ ((n + 1 : Nat) : Int) ∧ 0 ≤ v.2 ∧ v.2 ≤ ((c * 13 ^ n : Nat) : Int)
theorem stepT_bnd {may : Nat → Int × Int → Bool} {h n c : Nat} {t : At3 → Int × Int} {m : Mv} {best : Int × Int} (ht : Bnd13 n (t m.2)) (hb : Bst n c best) : Bst n (c + 1) (stepT may h t best m) := by
  obtain ⟨h1, h2, h3, h4⟩ := ht
  obtain ⟨b1, b2, b3, b4⟩ := hb
  have e : (((c + 1) * 13 ^ n : Nat) : Int) = ((c * 13 ^ n : Nat) : Int) + ((13 ^ n : Nat) : Int) := by rw [Nat.succ_mul]; simp
  have p1 : (0 : Int) ≤ ((c * 13 ^ n : Nat) : Int) := Int.natCast_nonneg _
  unfold Bst
  rw [e]
  have hw := wT_bnd (side := m.1.1) ⟨h1, h2⟩
  unfold stepT
  generalize ((c * 13 ^ n : Nat) : Int) = P at *
  generalize ((13 ^ n : Nat) : Int) = R at *
  generalize wT m.1.1 (t m.2).1 = W at *
  by_cases c1 : may h m.1 = true
  · rw [if_pos c1]
    by_cases c2 : best.1 < W
    · rw [if_pos c2]; exact ⟨hw.1, by dsimp only; omega, h3, by dsimp only; omega⟩
    · rw [if_neg c2]
      by_cases c3 : W = best.1
      · rw [if_pos c3]; exact ⟨b1, b2, by dsimp only; omega, by dsimp only; omega⟩
      · rw [if_neg c3]; exact ⟨b1, b2, b3, by omega⟩
  · rw [if_neg c1]; exact ⟨b1, b2, b3, by omega⟩
theorem fold_bnd {may : Nat → Int × Int → Bool} {h n : Nat} {t : At3 → Int × Int} (ht : ∀ y, Bnd13 n (t y)) : ∀ (ms : List Mv) (c : Nat) (best : Int × Int), Bst n c best → Bst n (c + ms.length) (ms.foldl (stepT may h t) best)
  | [], c, best, hb => hb
  | m :: ms, c, best, hb => by
    have := fold_bnd (may := may) (h := h) ht ms (c + 1) _ (stepT_bnd (may := may) (h := h) (m := m) (ht m.2) hb)
    rw [List.length_cons, show c + (ms.length + 1) = c + 1 + ms.length by omega]
    exact this
theorem tvx_bnd (may : Nat → Int × Int → Bool) {H A B : List Int} (hA : A.length ≤ 6) (hB : B.length ≤ 6) : ∀ (n : Nat) (x : At3), Bnd13 n (tvx may H A B n x)
  | 0, x => by simp [tvx, Bnd13]
  | n + 1, x => by
    have := fold_bnd (may := may) (h := x.1) (t := tvx may H A B n) (tvx_bnd may hA hB n) (movesL A B (H.getD x.1 0) x) 0 (-1, 0) (by refine ⟨?_, ?_, ?_, ?_⟩ <;> simp; omega)
    simp only [Nat.zero_add] at this
    obtain ⟨h1, h2, h3, h4⟩ := this
    refine ⟨h1, h2, h3, Int.le_trans h4 ?_⟩
    have := movesL_len A B (H.getD x.1 0) x
    have h5 : (movesL A B (H.getD x.1 0) x).length * 13 ^ n ≤ 13 * 13 ^ n := Nat.mul_le_mul_right _ (by omega)
    rw [Nat.pow_succ, Nat.mul_comm (13 ^ n) 13]
    exact Int.ofNat_le.2 h5
theorem pow13 {n : Nat} (h : n ≤ 10) : 13 ^ n ≤ 137858491849 := Nat.le_trans (Nat.pow_le_pow_right (by decide) h) (by decide)

abbrev Memo := List ((Int × (Int × Int)) × (Int × Int))
abbrev Desk := (List (List Int)) × ((List Int) × (Int × ((List Int) × (List Int))))
def MapOK (may : Nat → Int × Int → Bool) (H A B : List Int) (m : Memo) : Prop := ∀ e ∈ m, ∃ x : At3, e = ((((x.1 : Nat) : Int), ((x.2.1 : Nat) : Int), ((x.2.2 : Nat) : Int)), tv may H A B x)
theorem MapOK.nil (may : Nat → Int × Int → Bool) (H A B : List Int) : MapOK may H A B [] := fun _ h => by cases h
theorem MapOK.cons {may : Nat → Int × Int → Bool} {H A B : List Int} {m : Memo} (h : MapOK may H A B m) (x : At3) : MapOK may H A B (((((x.1 : Nat) : Int), ((x.2.1 : Nat) : Int), ((x.2.2 : Nat) : Int)), tv may H A B x) :: m) := fun e he => by
  rcases List.mem_cons.1 he with rfl | he
  · exact ⟨x, rfl⟩
  · exact h e he
theorem MapOK.find {may : Nat → Int × Int → Bool} {H A B : List Int} {m : Memo} (h : MapOK may H A B m) (x : At3) {e : (Int × (Int × Int)) × (Int × Int)} (he : m.find? (fun y => Ty.beq (.pair (.int .i64) (.pair (.int .i64) (.int .i64))) y.1 (((x.1 : Nat) : Int), ((x.2.1 : Nat) : Int), ((x.2.2 : Nat) : Int))) = some e) : e.2 = tv may H A B x := by
  obtain ⟨y, rfl⟩ := h e (List.mem_of_find?_eq_some he)
  have := List.find?_some he
  have := (beq_iff_ (y := .pair (.int .i64) (.pair (.int .i64) (.int .i64))) rfl).1 this
  simp only [Prod.mk.injEq] at this
  have e : y = x := by
    obtain ⟨a, b, c⟩ := x
    obtain ⟨a', b', c'⟩ := y
    dsimp only at this
    simp only [Prod.mk.injEq]; omega
  rw [e]
end Go.Proofs.Ytgeijboidfadaaa
namespace Go.Proofs.Ytgeijboidfadaaa
set_option linter.all false
open Go

def mayA : Nat → Int × Int → Bool := fun _ _ => true
section
variable {N : Nat} {T : List (List Int)} {H A B : List Int} {f : Int}
theorem resta_l1_p {self : Int → Int → Int → Desk → Desk → Memo → Option (Int × Int × Desk × Memo)} {h n : Nat} (hH : n ≤ 9) (hA : A.length ≤ 6) (hB : B.length ≤ 6) {u : Int × Int × Int} {u2 : Desk} {x x2 x3 g3 g4 : Int}
    (hself : ∀ (y : At3) (m : Memo), y.1 = h + 1 → y.2.1 ≤ A.length → y.2.2 ≤ B.length → MapOK mayA H A B m → ∃ m', self y.1 y.2.1 y.2.2 (T, H, f, A, B) (T, H, f, A, B) m = some ((tvx mayA H A B n y).1, (tvx mayA H A B n y).2, (T, H, f, A, B), m') ∧ MapOK mayA H A B m') :
    ∀ (ms : List Mv) (m : Memo) (c : Nat) (best : Int × Int), (∀ mv ∈ ms, mv.2.1 = h + 1 ∧ mv.2.2.1 ≤ A.length ∧ mv.2.2.2 ≤ B.length) → MapOK mayA H A B m → Bst n c best → c + ms.length ≤ 13 →
      ∃ m', resta_l1 N self (ms.map movP) u u2 (T, H, f, A, B) m x x2 x3 g3 g4 best.1 best.2 = some ((T, H, f, A, B), m', x, x2, x3, g3, g4, (ms.foldl (stepT mayA h (tvx mayA H A B n)) best).1, (ms.foldl (stepT mayA h (tvx mayA H A B n)) best).2) ∧ MapOK mayA H A B m'
  | [], m, c, best, _, hm, _, _ => ⟨m, rfl, hm⟩
  | mv :: ms, m, c, best, hv, hm, hb, hc => by
    obtain ⟨hv1, hv2, hv3⟩ := hv mv (by simp)
    obtain ⟨m1, he, hm1⟩ := hself mv.2 m hv1 hv2 hv3 hm
    have ht := tvx_bnd mayA (H := H) hA hB n mv.2
    have hb' := stepT_bnd (may := mayA) (h := h) (t := tvx mayA H A B n) (m := mv) ht hb
    obtain ⟨m2, h2, hm2⟩ := resta_l1_p (u := u) (u2 := u2) (x := x) (x2 := x2) (x3 := x3) (g3 := g3) (g4 := g4) hH hA hB hself ms m1 (c + 1) _ (fun v hv' => hv v (by simp [hv'])) hm1 hb' (by simp only [List.length_cons] at hc; omega)
    refine ⟨m2, ?_, hm2⟩
    rw [List.map_cons, List.foldl_cons, ← h2]
    have hp := pow13 (n := n) (by omega)
    have hbb : (((c + 1) * 13 ^ n : Nat) : Int) ≤ 13 * 137858491849 := by
      have : (c + 1) * 13 ^ n ≤ 13 * 137858491849 := Nat.mul_le_mul (by simp only [List.length_cons] at hc; omega) hp
      omega
    have hb2 : best.2 + (tvx mayA H A B n mv.2).2 ≤ 13 * 137858491849 := by
      have e : (((c + 1) * 13 ^ n : Nat) : Int) = ((c * 13 ^ n : Nat) : Int) + ((13 ^ n : Nat) : Int) := by rw [Nat.succ_mul]; simp
      have := hb.2.2.2
      have := ht.2.2.2
      omega
    have h0 := hb.2.2.1
    have h1 := ht.2.2.1
    have hn1 := ht.1
    have hn2 := ht.2.1
    simp only [resta_l1, resta_l1_b, movP, all1_S, Option.bind_some, Bool.not_true, br_false]
    rw [he]
    have hst : stepT mayA h (tvx mayA H A B n) best mv = (if best.1 < wT mv.1.1 (tvx mayA H A B n mv.2).1 then (wT mv.1.1 (tvx mayA H A B n mv.2).1, (tvx mayA H A B n mv.2).2) else if wT mv.1.1 (tvx mayA H A B n mv.2).1 = best.1 then (best.1, best.2 + (tvx mayA H A B n mv.2).2) else best) := by
      unfold stepT; exact if_pos rfl
    rw [hst]
    simp only [Option.bind_some, wT]
    clear hst h2 he hb' hself
    generalize tvx mayA H A B n mv.2 = t at *
    obtain ⟨tw, ty⟩ := t
    obtain ⟨bw, by_⟩ := best
    simp only at *
    by_cases c1 : 0 ≤ tw
    · rw [br_dec c1]
      by_cases c2 : mv.1.1 = 3
      · refine (br_nd c2).trans ?_
        have c2' : ¬ (0 ≤ tw ∧ mv.1.1 ≠ 3) := fun h => h.2 c2
        rw [if_neg c2']
        by_cases c3 : bw < tw
        · rw [br_dec c3, if_pos c3]
        · rw [br_ndec c3, if_neg c3]
          by_cases c4 : tw = bw
          · rw [br_dec c4, if_pos c4, chk_eq (by omega)]
          · rw [br_ndec c4, if_neg c4]
      · refine (br_nnd c2).trans ?_
        have c2' : 0 ≤ tw ∧ mv.1.1 ≠ 3 := ⟨c1, c2⟩
        rw [chk_eq (by omega), if_pos c2']
        by_cases c3 : bw < tw + 1
        · rw [br_dec c3, if_pos c3]
        · rw [br_ndec c3, if_neg c3]
          by_cases c4 : tw + 1 = bw
          · rw [br_dec c4, if_pos c4, chk_eq (by omega)]
          · rw [br_ndec c4, if_neg c4]
    · have c2' : ¬ (0 ≤ tw ∧ mv.1.1 ≠ 3) := fun h => c1 h.1
      rw [br_ndec c1, if_neg c2']
      by_cases c3 : bw < tw
      · rw [br_dec c3, if_pos c3]
      · rw [br_ndec c3, if_neg c3]
        by_cases c4 : tw = bw
        · rw [br_dec c4, if_pos c4, chk_eq (by omega)]
        · rw [br_ndec c4, if_neg c4]
theorem resta_R_p (hH : H.length ≤ 10) (hA : A.length ≤ 6) (hB : B.length ≤ 6) : ∀ (fu : Nat) (x : At3) (m : Memo), H.length < fu + x.1 → x.1 ≤ H.length → x.2.1 ≤ A.length → x.2.2 ≤ B.length → MapOK mayA H A B m →
    ∃ m', resta_R N fu x.1 x.2.1 x.2.2 (T, H, f, A, B) (T, H, f, A, B) m = some ((tv mayA H A B x).1, (tv mayA H A B x).2, (T, H, f, A, B), m') ∧ MapOK mayA H A B m'
  | 0, x, m, h, h1, _, _, _ => by omega
  | fu + 1, x, m, h, hx, ha, hb, hm => by
    show ∃ m', resta_S N (resta_R N fu) x.1 x.2.1 x.2.2 (T, H, f, A, B) (T, H, f, A, B) m = _ ∧ _
    unfold resta_S
    by_cases c1 : x.1 = H.length
    · rw [br_dec (by dsimp only; omega)]
      refine ⟨m, ?_, hm⟩
      simp [tv, tvx, c1]
    · rw [br_ndec (by dsimp only; omega)]
      cases hf : m.find? (fun y => Ty.beq (.pair (.int .i64) (.pair (.int .i64) (.int .i64))) y.1 (((x.1 : Nat) : Int), ((x.2.1 : Nat) : Int), ((x.2.2 : Nat) : Int))) with
      | some e =>
        have := hm.find x hf
        refine ⟨m, ?_, hm⟩
        simp [br, this]
      | none =>
        simp only [Option.isSome_none, br_false, next_S, Option.bind_some]
        have hnx : nextR (((x.1 : Nat) : Int), ((x.2.1 : Nat) : Int), ((x.2.2 : Nat) : Int)) (T, H, f, A, B) = some ((movesL A B (H.getD x.1 0) x).map movP) := by
          unfold nextR
          rw [if_pos (by dsimp only; omega)]
          simp only [Int.toNat_natCast]
        rw [hnx]
        simp only [Option.bind_some]
        obtain ⟨n, hn⟩ : ∃ n, H.length - x.1 = n + 1 := ⟨H.length - x.1 - 1, by omega⟩
        obtain ⟨m1, h2, hm1⟩ := resta_l1_p (N := N) (T := T) (f := f) (self := resta_R N fu) (h := x.1) (n := n) (u := (((x.1 : Nat) : Int), ((x.2.1 : Nat) : Int), ((x.2.2 : Nat) : Int))) (u2 := (T, H, f, A, B)) (x := x.1) (x2 := x.2.1) (x3 := x.2.2) (g3 := 0) (g4 := 0) (by omega) hA hB (fun y m' hy hya hyb hm' => by
          have := resta_R_p hH hA hB fu y m' (by omega) (by omega) hya hyb hm'
          rw [show tv mayA H A B y = tvx mayA H A B n y by unfold tv; rw [show H.length - y.1 = n by omega]] at this
          exact this) (movesL A B (H.getD x.1 0) x) m 0 (-1, 0) (fun mv hv => movesL_ok ha hb hv) hm (by refine ⟨?_, ?_, ?_, ?_⟩ <;> simp; omega) (by have := movesL_len A B (H.getD x.1 0) x; omega)
        have e : (movesL A B (H.getD x.1 0) x).foldl (stepT mayA x.1 (tvx mayA H A B n)) (-1, 0) = tv mayA H A B x := by
          unfold tv; rw [hn, tvx]
        rw [e] at h2
        rw [h2]
        exact ⟨_, rfl, hm1.cons x⟩
theorem firsta_v (hN : 12 ≤ N) (hH : H.length ≤ 10) (hA : A.length ≤ 6) (hB : B.length ≤ 6) : firsta_S N (T, H, f, A, B) = some (tv mayA H A B (0, 0, 0)) := by
  unfold firsta_S restsa_S restsa_j1
  obtain ⟨m, h, hm⟩ := resta_R_p (N := N) (T := T) (f := f) hH hA hB N (0, 0, 0) [] (by dsimp only; omega) (by dsimp only; omega) (by dsimp only; omega) (by dsimp only; omega) (MapOK.nil _ _ _ _)
  simp only [Int.natCast_zero] at h
  rw [h]
  simp [Ty.beq]
end
end Go.Proofs.Ytgeijboidfadaaa
namespace Go.Proofs.Ytgeijboidfadaaa
set_option linter.all false
open Go

section
variable {N : Nat} {T : List (List Int)} {H : List Int} {f : Int}
def leastV (H A B : List Int) : Int := (A.length : Int) + B.length + H.length - 2 * (tv mayA H A B (0, 0, 0)).1
theorem tv_bnd (may : Nat → Int × Int → Bool) {H A B : List Int} (hA : A.length ≤ 6) (hB : B.length ≤ 6) : -1 ≤ (tv may H A B (0, 0, 0)).1 ∧ (tv may H A B (0, 0, 0)).1 ≤ H.length := by
  have := tvx_bnd may (H := H) hA hB (H.length - 0) (0, 0, 0)
  exact ⟨this.1, this.2.1⟩
theorem dfaults_v {A B : List Int} {t : Int} (hH : H.length ≤ 10) (hA : A.length ≤ 6) (hB : B.length ≤ 6) (ht : -1 ≤ t ∧ t ≤ 10) : dfaults_S N (T, H, f, A, B) t = some ((A.length : Int) + B.length + H.length - 2 * t) := by
  unfold dfaults_S
  rw [chk_eq (by dsimp only; omega), chk_eq (by dsimp only; omega), chk_eq (by omega), chk_eq (by dsimp only; omega)]
theorem least_v (hN : 20 ≤ N) (h : Fine T H f) {a b : Int} (ha : 0 ≤ a ∧ a < T.length) (hb : 0 ≤ b ∧ b < T.length) : least_S N T H f a b = some (leastV H (T.getD a.toNat []) (T.getD b.toNat []), 0) := by
  unfold least_S
  obtain ⟨_, _, _, e⟩ := opened_good hN (h.open ha hb)
  rw [e]
  have la := h.l (T.getD a.toNat []) (getD_mem (by omega))
  have lb := h.l (T.getD b.toNat []) (getD_mem (by omega))
  have hH := h.h
  simp only [Option.bind_some, decide_true, Bool.not_true, br_false, all_S]
  rw [firsta_v (by omega) h.h la.2 lb.2]
  simp only [Option.bind_some]
  have := tv_bnd mayA (H := H) la.2 lb.2
  rw [dfaults_v h.h la.2 lb.2 (by omega)]
  rfl
end
end Go.Proofs.Ytgeijboidfadaaa
namespace Go.Proofs.Ytgeijboidfadaaa
set_option linter.all false
open Go

theorem stepT_fst (h : Nat) (t : At3 → Int × Int) (best : Int × Int) (m : Mv) : (stepT mayA h t best m).1 = max best.1 (wT m.1.1 (t m.2).1) := by
  have : stepT mayA h t best m = (if best.1 < wT m.1.1 (t m.2).1 then (wT m.1.1 (t m.2).1, (t m.2).2) else if wT m.1.1 (t m.2).1 = best.1 then (best.1, best.2 + (t m.2).2) else best) := by unfold stepT; exact if_pos rfl
  rw [this]
  split
  · first | omega | (dsimp only; omega)
  · split <;> first | omega | (dsimp only; omega)
theorem fold_ge {h : Nat} {t : At3 → Int × Int} : ∀ (ms : List Mv) (best : Int × Int), best.1 ≤ (ms.foldl (stepT mayA h t) best).1 ∧ ∀ m ∈ ms, wT m.1.1 (t m.2).1 ≤ (ms.foldl (stepT mayA h t) best).1
  | [], best => ⟨Int.le_refl _, fun _ h => by cases h⟩
  | m :: ms, best => by
    obtain ⟨h1, h2⟩ := fold_ge (h := h) (t := t) ms (stepT mayA h t best m)
    rw [stepT_fst] at h1
    rw [List.foldl_cons]
    refine ⟨by omega, fun m' hm => ?_⟩
    rcases List.mem_cons.1 hm with rfl | hm
    · omega
    · exact h2 m' hm
inductive Told (H A B : List Int) : Nat → Nat → Nat → Prop
  | done (i k : Nat) : Told H A B H.length i k
  | ta {h i k j : Nat} (hh : h < H.length) (hij : i ≤ j) (hj : j < A.length) (e : A.getD j 0 = H.getD h 0) (t : Told H A B (h + 1) (j + 1) k) : Told H A B h i k
  | tb {h i k j : Nat} (hh : h < H.length) (hij : k ≤ j) (hj : j < B.length) (e : B.getD j 0 = H.getD h 0) (t : Told H A B (h + 1) i (j + 1)) : Told H A B h i k
theorem Told.mono {H A B : List Int} {h i k : Nat} (t : Told H A B h i k) : ∀ (i' k' : Nat), i' ≤ i → k' ≤ k → Told H A B h i' k' := by
  induction t with
  | done i k => intro i' k' _ _; exact .done i' k'
  | ta hh hij hj e _ ih => intro i' k' h1 h2; exact .ta hh (Nat.le_trans h1 hij) hj e (ih _ _ (Nat.le_refl _) h2)
  | tb hh hij hj e _ ih => intro i' k' h1 h2; exact .tb hh (Nat.le_trans h2 hij) hj e (ih _ _ h1 (Nat.le_refl _))
theorem Told.tv {H A B : List Int} {h i k : Nat} (t : Told H A B h i k) : ∀ n, H.length = h + n → (n : Int) ≤ (tvx mayA H A B n (h, i, k)).1 := by
  induction t with
  | done i k => intro n hn; have : n = 0 := by omega
                subst this; simp [tvx]
  | @ta h i k j hh hij hj e t ih =>
    intro n hn
    obtain ⟨n, rfl⟩ : ∃ m, n = m + 1 := ⟨n - 1, by omega⟩
    have := ih n (by omega)
    have g := (fold_ge (h := h) (t := tvx mayA H A B n) (movesL A B (H.getD h 0) (h, i, k)) (-1, 0)).2 ((1, (j : Int)), (h + 1, j + 1, k)) (by
      simp only [movesL, List.mem_cons, List.mem_append, List.mem_map]
      exact .inr (.inl ⟨j, mem_standsL.2 ⟨hij, hj, e⟩, rfl⟩))
    rw [tvx]
    dsimp only
    dsimp only [wT] at g
    rw [if_pos ⟨by omega, by decide⟩] at g
    omega
  | @tb h i k j hh hij hj e t ih =>
    intro n hn
    obtain ⟨n, rfl⟩ : ∃ m, n = m + 1 := ⟨n - 1, by omega⟩
    have := ih n (by omega)
    have g := (fold_ge (h := h) (t := tvx mayA H A B n) (movesL A B (H.getD h 0) (h, i, k)) (-1, 0)).2 ((2, (j : Int)), (h + 1, i, j + 1)) (by
      simp only [movesL, List.mem_cons, List.mem_append, List.mem_map]
      exact .inr (.inr ⟨j, mem_standsL.2 ⟨hij, hj, e⟩, rfl⟩))
    rw [tvx]
    dsimp only
    dsimp only [wT] at g
    rw [if_pos ⟨by omega, by decide⟩] at g
    omega
/-- Two texts run into each other, with words lost. -/
inductive Shuf : List Int → List Int → List Int → Prop
  | nil : Shuf [] [] []
  | skipA {S a b : List Int} (w : Int) (s : Shuf S a b) : Shuf S (w :: a) b
  | skipB {S a b : List Int} (w : Int) (s : Shuf S a b) : Shuf S a (w :: b)
  | takeA {S a b : List Int} (w : Int) (s : Shuf S a b) : Shuf (w :: S) (w :: a) b
  | takeB {S a b : List Int} (w : Int) (s : Shuf S a b) : Shuf (w :: S) a (w :: b)
theorem drop_step {l : List Int} {i : Nat} {w : Int} {r : List Int} (h : l.drop i = w :: r) : i < l.length ∧ l.getD i 0 = w ∧ l.drop (i + 1) = r := by
  have hi : i < l.length := by
    rcases Nat.lt_or_ge i l.length with h1 | h1
    · exact h1
    · rw [List.drop_of_length_le h1] at h; cases h
  rw [drop_cons hi] at h
  simp only [List.cons.injEq] at h
  exact ⟨hi, h.1, h.2⟩
theorem Shuf.told {H A B S a b : List Int} (s : Shuf S a b) : ∀ (h i k : Nat), h ≤ H.length → H.drop h = S → A.drop i = a → B.drop k = b → Told H A B h i k := by
  induction s with
  | nil =>
    intro h i k hh hS _ _
    have : h = H.length := by
      have := congrArg List.length hS
      rw [List.length_drop] at this
      simp at this; omega
    subst this; exact .done i k
  | skipA w s ih => intro h i k hh hS ha hb; obtain ⟨_, _, h3⟩ := drop_step ha; exact (ih h (i + 1) k hh hS h3 hb).mono _ _ (by omega) (Nat.le_refl _)
  | skipB w s ih => intro h i k hh hS ha hb; obtain ⟨_, _, h3⟩ := drop_step hb; exact (ih h i (k + 1) hh hS ha h3).mono _ _ (Nat.le_refl _) (by omega)
  | takeA w s ih =>
    intro h i k hh hS ha hb
    obtain ⟨h1, h2, h3⟩ := drop_step ha
    obtain ⟨g1, g2, g3⟩ := drop_step hS
    exact .ta g1 (Nat.le_refl _) h1 (by rw [h2, g2]) (ih (h + 1) (i + 1) k (by omega) g3 h3 hb)
  | takeB w s ih =>
    intro h i k hh hS ha hb
    obtain ⟨h1, h2, h3⟩ := drop_step hb
    obtain ⟨g1, g2, g3⟩ := drop_step hS
    exact .tb g1 (Nat.le_refl _) h1 (by rw [h2, g2]) (ih (h + 1) i (k + 1) (by omega) g3 ha h3)
end Go.Proofs.Ytgeijboidfadaaa
namespace Go.Proofs.Ytgeijboidfadaaa
set_option linter.all false
open Go

section
variable {N : Nat} {T : List (List Int)} {H : List Int} {f : Int}
end
end Go.Proofs.Ytgeijboidfadaaa
namespace Go.Proofs.Ytgeijboidfadaaa
set_option linter.all false
open Go

/-- Words of two texts are told in what was heard, between noise. -/
inductive Rd : List Int → List Int → List Int → Prop
  | nil : Rd [] [] []
  | noise (w : Int) {H a b : List Int} (s : Rd H a b) : Rd (w :: H) a b
  | ta (w : Int) {H a b : List Int} (s : Rd H a b) : Rd (w :: H) (w :: a) b
  | tb (w : Int) {H a b : List Int} (s : Rd H a b) : Rd (w :: H) a (w :: b)
theorem Rd.none : ∀ H : List Int, Rd H [] []
  | [] => .nil
  | w :: H => .noise w (Rd.none H)
theorem sub_at {A a : List Int} {w : Int} : ∀ (n i : Nat), A.length = i + n → (w :: a).Sublist (A.drop i) → ∃ j, i ≤ j ∧ j < A.length ∧ A.getD j 0 = w ∧ a.Sublist (A.drop (j + 1))
  | 0, i, h, hs => by rw [List.drop_of_length_le (by omega)] at hs; cases hs
  | n + 1, i, h, hs => by
    rw [drop_cons (by omega)] at hs
    cases hs with
    | cons _ h' =>
      obtain ⟨j, h1, h2, h3, h4⟩ := sub_at n (i + 1) (by omega) h'
      exact ⟨j, by omega, h2, h3, h4⟩
    | cons_cons _ h' => exact ⟨i, Nat.le_refl _, by omega, rfl, h'⟩
theorem tvx_ge (H A B : List Int) : ∀ (n h i k : Nat) (a b : List Int), H.length = h + n → Rd (H.drop h) a b → a.Sublist (A.drop i) → b.Sublist (B.drop k) → ((a.length : Int) + b.length) ≤ (tvx mayA H A B n (h, i, k)).1
  | 0, h, i, k, a, b, hn, s, _, _ => by
    rw [List.drop_of_length_le (by omega)] at s
    cases s; simp [tvx]
  | n + 1, h, i, k, a, b, hn, s, ha, hb => by
    rw [drop_cons (by omega)] at s
    have g := (fold_ge (h := h) (t := tvx mayA H A B n) (movesL A B (H.getD h 0) (h, i, k)) (-1, 0)).2
    rw [tvx]
    dsimp only
    cases s with
    | noise _ s =>
      have := tvx_ge H A B n (h + 1) i k a b (by omega) s ha hb
      have g1 := g ((3, 0), (h + 1, i, k)) (by simp [movesL])
      have e : ∀ w : Int, wT 3 w = w := fun w => by simp [wT]
      dsimp only at g1
      rw [e] at g1
      omega
    | ta _ s =>
      obtain ⟨j, h1, h2, h3, h4⟩ := sub_at (A.length - i) i (by have := ha.length_le; simp at this; omega) ha
      have := tvx_ge H A B n (h + 1) (j + 1) k _ b (by omega) s h4 hb
      have g1 := g ((1, (j : Int)), (h + 1, j + 1, k)) (by
        simp only [movesL, List.mem_cons, List.mem_append, List.mem_map]
        exact .inr (.inl ⟨j, mem_standsL.2 ⟨h1, h2, h3⟩, rfl⟩))
      dsimp only [wT] at g1
      rw [if_pos ⟨by omega, by decide⟩] at g1
      simp only [List.length_cons]
      omega
    | tb _ s =>
      obtain ⟨j, h1, h2, h3, h4⟩ := sub_at (B.length - k) k (by have := hb.length_le; simp at this; omega) hb
      have := tvx_ge H A B n (h + 1) i (j + 1) a _ (by omega) s ha h4
      have g1 := g ((2, (j : Int)), (h + 1, i, j + 1)) (by
        simp only [movesL, List.mem_cons, List.mem_append, List.mem_map]
        exact .inr (.inr ⟨j, mem_standsL.2 ⟨h1, h2, h3⟩, rfl⟩))
      dsimp only [wT] at g1
      rw [if_pos ⟨by omega, by decide⟩] at g1
      simp only [List.length_cons]
      omega
theorem fold_has {h : Nat} {t : At3 → Int × Int} : ∀ (ms : List Mv) (best : Int × Int), (ms.foldl (stepT mayA h t) best).1 = best.1 ∨ ∃ m ∈ ms, (ms.foldl (stepT mayA h t) best).1 = wT m.1.1 (t m.2).1
  | [], best => .inl rfl
  | m :: ms, best => by
    rw [List.foldl_cons]
    rcases fold_has (h := h) (t := t) ms (stepT mayA h t best m) with h1 | ⟨m', hm, h1⟩
    · rw [stepT_fst] at h1
      rcases Int.le_total best.1 (wT m.1.1 (t m.2).1) with h2 | h2
      · exact .inr ⟨m, by simp, by omega⟩
      · exact .inl (by omega)
    · exact .inr ⟨m', by simp [hm], h1⟩
theorem tvx_nonneg (H A B : List Int) {n h i k : Nat} (hn : H.length = h + n) : 0 ≤ (tvx mayA H A B n (h, i, k)).1 := by
  have := tvx_ge H A B n h i k [] [] hn (Rd.none _) (List.nil_sublist _) (List.nil_sublist _)
  simpa using this
end Go.Proofs.Ytgeijboidfadaaa
namespace Go.Proofs.Ytgeijboidfadaaa
set_option linter.all false
open Go

section
variable {N : Nat} {T : List (List Int)} {H : List Int} {f : Int}
/-- What is behind when a word that was heard has a place. -/
def stepF (A B : List Int) (w : Int) (x : At3) (q : Int × Int) : Option At3 :=
  if q.1 = 1 then (if (x.2.1 : Int) ≤ q.2 ∧ q.2 < A.length ∧ A.getD q.2.toNat 0 = w then some (x.1 + 1, q.2.toNat + 1, x.2.2) else none)
  else if q.1 = 2 then (if (x.2.2 : Int) ≤ q.2 ∧ q.2 < B.length ∧ B.getD q.2.toNat 0 = w then some (x.1 + 1, x.2.1, q.2.toNat + 1) else none)
  else if q.1 = 3 ∧ q.2 = 0 then some (x.1 + 1, x.2.1, x.2.2) else none
theorem mem_movesL {A B : List Int} {w : Int} {x : At3} {m : Mv} : m ∈ movesL A B w x ↔ stepF A B w x m.1 = some m.2 := by
  obtain ⟨⟨s, p⟩, y⟩ := m
  simp only [movesL, List.mem_cons, List.mem_append, List.mem_map, stepF]
  constructor
  · rintro (h | ⟨j, hj, h⟩ | ⟨j, hj, h⟩)
    · simp only [Prod.mk.injEq] at h
      obtain ⟨⟨rfl, rfl⟩, rfl⟩ := h
      simp
    · simp only [Prod.mk.injEq] at h
      obtain ⟨⟨rfl, rfl⟩, rfl⟩ := h
      obtain ⟨h1, h2, h3⟩ := mem_standsL.1 hj
      rw [if_pos rfl, if_pos ⟨by omega, by omega, by simpa using h3⟩]; simp
    · simp only [Prod.mk.injEq] at h
      obtain ⟨⟨rfl, rfl⟩, rfl⟩ := h
      obtain ⟨h1, h2, h3⟩ := mem_standsL.1 hj
      rw [if_neg (by decide), if_pos rfl, if_pos ⟨by omega, by omega, by simpa using h3⟩]; simp
  · intro h
    by_cases c1 : s = 1
    · rw [if_pos c1] at h
      split at h
      · rename_i hc
        simp only [Option.some.injEq] at h
        refine .inr (.inl ⟨p.toNat, mem_standsL.2 ⟨by omega, by omega, hc.2.2⟩, ?_⟩)
        rw [← h, c1, show ((p.toNat : Nat) : Int) = p by omega]
      · cases h
    · rw [if_neg c1] at h
      by_cases c2 : s = 2
      · rw [if_pos c2] at h
        split at h
        · rename_i hc
          simp only [Option.some.injEq] at h
          refine .inr (.inr ⟨p.toNat, mem_standsL.2 ⟨by omega, by omega, hc.2.2⟩, ?_⟩)
          rw [← h, c2, show ((p.toNat : Nat) : Int) = p by omega]
        · cases h
      · rw [if_neg c2] at h
        split at h
        · rename_i hc
          simp only [Option.some.injEq] at h
          exact .inl (by rw [← h, hc.1, hc.2])
        · cases h
def toldN : List (Int × Int) → Int
  | [] => 0
  | q :: r => (if q.1 = 3 then 0 else 1) + toldN r
theorem toldN_bnd : ∀ l : List (Int × Int), 0 ≤ toldN l ∧ toldN l ≤ l.length
  | [] => by simp [toldN]
  | q :: r => by
    have := toldN_bnd r
    unfold toldN
    simp only [List.length_cons]
    split <;> omega
end
end Go.Proofs.Ytgeijboidfadaaa
namespace Go.Proofs.Ytgeijboidfadaaa
set_option linter.all false
open Go

section
variable {N : Nat} {T : List (List Int)} {H A B : List Int} {f : Int}
/-- All readings of so many words from here on. -/
def rdx (H A B : List Int) : Nat → At3 → List (List (Int × Int))
  | 0, _ => [[]]
  | n + 1, x => (movesL A B (H.getD x.1 0) x).flatMap fun m => (rdx H A B n m.2).map fun r => m.1 :: r
theorem countP_zero {α : Type} {p : α → Bool} : ∀ {l : List α}, (∀ x ∈ l, p x = false) → l.countP p = 0
  | [], _ => rfl
  | a :: l, h => by
    rw [List.countP_cons, countP_zero (fun x hx => h x (by simp [hx])), h a (by simp)]; rfl
/-- So many words are told in the best of these, and there are so many best ones. -/
def BestOf (C : List (List (Int × Int))) (v : Int × Int) : Prop := (∀ r ∈ C, toldN r ≤ v.1) ∧ v.2 = (C.countP fun r => decide (toldN r = v.1) : Nat)
theorem BestOf.add {h n : Nat} {t : At3 → Int × Int} {m : Mv} {C D : List (List (Int × Int))} {best : Int × Int} (hb : BestOf C best) (hd : BestOf D (t m.2)) (h0 : 0 ≤ (t m.2).1) : BestOf (C ++ D.map fun r => m.1 :: r) (stepT mayA h t best m) := by
  have st : stepT mayA h t best m = (if best.1 < wT m.1.1 (t m.2).1 then (wT m.1.1 (t m.2).1, (t m.2).2) else if wT m.1.1 (t m.2).1 = best.1 then (best.1, best.2 + (t m.2).2) else best) := by
    unfold stepT; exact if_pos rfl
  have hw : wT m.1.1 (t m.2).1 = (if m.1.1 = 3 then 0 else 1) + (t m.2).1 := by
    unfold wT
    by_cases c : m.1.1 = 3
    · rw [if_neg (fun h => h.2 c), if_pos c]; omega
    · rw [if_pos ⟨h0, c⟩, if_neg c]; omega
  obtain ⟨b1, b2⟩ := hb
  obtain ⟨d1, d2⟩ := hd
  have tn : ∀ r, toldN (m.1 :: r) = (if m.1.1 = 3 then 0 else 1) + toldN r := fun r => rfl
  rw [st]
  generalize wT m.1.1 (t m.2).1 = W at *
  generalize (if m.1.1 = 3 then (0 : Int) else 1) = e at *
  have c1 : ∀ v : Int, ((D.map fun r => m.1 :: r).countP fun r => decide (toldN r = v)) = D.countP fun r => decide (toldN r = v - e) := by
    intro v
    rw [List.countP_map]
    congr 1
    funext r
    simp only [Function.comp]
    rw [tn]
    apply decide_eq_decide.2
    omega
  have le : ∀ r ∈ D.map (fun r => m.1 :: r), toldN r ≤ W := by
    intro r hr
    obtain ⟨r', hr', rfl⟩ := List.mem_map.1 hr
    rw [tn]; have := d1 r' hr'; omega
  by_cases k1 : best.1 < W
  · rw [if_pos k1]
    refine ⟨fun r hr => ?_, ?_⟩
    · rcases List.mem_append.1 hr with hr | hr
      · have := b1 r hr; dsimp only; omega
      · exact le r hr
    · dsimp only
      rw [List.countP_append, c1, show W - e = (t m.2).1 by omega, countP_zero (l := C) (fun r hr => by have := b1 r hr; simp; omega), d2]
      simp
  · rw [if_neg k1]
    by_cases k2 : W = best.1
    · rw [if_pos k2]
      refine ⟨fun r hr => ?_, ?_⟩
      · rcases List.mem_append.1 hr with hr | hr
        · exact b1 r hr
        · have := le r hr; dsimp only; omega
      · dsimp only
        rw [List.countP_append, c1, show best.1 - e = (t m.2).1 by omega, b2, d2]
        omega
    · rw [if_neg k2]
      refine ⟨fun r hr => ?_, ?_⟩
      · rcases List.mem_append.1 hr with hr | hr
        · exact b1 r hr
        · have := le r hr; omega
      · rw [List.countP_append, c1, countP_zero (l := D) (fun r hr => by have := d1 r hr; simp; omega), b2]
        simp
theorem BestOf.fold {h n : Nat} {t : At3 → Int × Int} (hd : ∀ y, y.1 = h + 1 → BestOf (rdx H A B n y) (t y) ∧ 0 ≤ (t y).1) : ∀ (ms : List Mv) (C : List (List (Int × Int))) (best : Int × Int), (∀ m ∈ ms, m.2.1 = h + 1) → BestOf C best → BestOf (C ++ ms.flatMap fun m => (rdx H A B n m.2).map fun r => m.1 :: r) (ms.foldl (stepT mayA h t) best)
  | [], C, best, _, hb => by simpa using hb
  | m :: ms, C, best, hm, hb => by
    rw [List.flatMap_cons, ← List.append_assoc, List.foldl_cons]
    obtain ⟨d1, d2⟩ := hd m.2 (hm m (by simp))
    exact BestOf.fold hd ms _ _ (fun m' h' => hm m' (by simp [h'])) (BestOf.add (n := n) hb d1 d2)
theorem rdx_best : ∀ (n : Nat) (x : At3), H.length = x.1 + n → BestOf (rdx H A B n x) (tvx mayA H A B n x)
  | 0, x, _ => ⟨fun r hr => by simp [rdx] at hr; subst hr; simp [tvx, toldN], by simp [rdx, tvx, toldN]⟩
  | n + 1, x, hx => by
    have := BestOf.fold (H := H) (A := A) (B := B) (h := x.1) (n := n) (t := tvx mayA H A B n) (fun y hy => ⟨rdx_best n y (by omega), tvx_nonneg H A B (h := y.1) (i := y.2.1) (k := y.2.2) (by omega)⟩) (movesL A B (H.getD x.1 0) x) [] (-1, 0) (fun m hm => by
      have h3 := mem_movesL.1 hm
      unfold stepF at h3
      split at h3
      · split at h3
        · simp only [Option.some.injEq] at h3; rw [← h3]
        · cases h3
      · split at h3
        · split at h3
          · simp only [Option.some.injEq] at h3; rw [← h3]
          · cases h3
        · split at h3
          · simp only [Option.some.injEq] at h3; rw [← h3]
          · cases h3) ⟨(fun r hr => by cases hr), rfl⟩
    exact this
theorem rdx_has : ∀ (n : Nat) (x : At3), H.length = x.1 + n → ∃ r ∈ rdx H A B n x, toldN r = (tvx mayA H A B n x).1
  | 0, x, _ => ⟨[], by simp [rdx], by simp [toldN, tvx]⟩
  | n + 1, x, hx => by
    have nn := tvx_nonneg H A B (h := x.1) (i := x.2.1) (k := x.2.2) hx
    rw [show ((x.1, x.2.1, x.2.2) : At3) = x from rfl, tvx] at nn
    rw [tvx]
    rcases fold_has (h := x.1) (t := tvx mayA H A B n) (movesL A B (H.getD x.1 0) x) (-1, 0) with h1 | ⟨m, hm, h1⟩
    · rw [h1] at nn; exact absurd nn (by decide)
    · have hy : m.2.1 = x.1 + 1 := by
        simp only [movesL, List.mem_cons, List.mem_append, List.mem_map] at hm
        rcases hm with rfl | ⟨j, _, rfl⟩ | ⟨j, _, rfl⟩ <;> rfl
      obtain ⟨r, hr, e⟩ := rdx_has n m.2 (by omega)
      have h0 := tvx_nonneg H A B (h := m.2.1) (i := m.2.2.1) (k := m.2.2.2) (n := n) (by omega)
      refine ⟨m.1 :: r, List.mem_flatMap.2 ⟨m, hm, List.mem_map.2 ⟨r, hr, rfl⟩⟩, ?_⟩
      rw [h1]
      unfold toldN wT
      by_cases c : m.1.1 = 3
      · rw [if_pos c, if_neg (fun h => h.2 c)]; rw [e]; omega
      · rw [if_neg c, if_pos ⟨h0, c⟩]; rw [e]; omega
theorem rdx_length : ∀ (n : Nat) (x : At3), ∀ r ∈ rdx H A B n x, r.length = n
  | 0, x, r, hr => by simp [rdx] at hr; subst hr; rfl
  | n + 1, x, r, hr => by
    obtain ⟨m, _, h⟩ := List.mem_flatMap.1 hr
    obtain ⟨r', hr', rfl⟩ := List.mem_map.1 h
    rw [List.length_cons, rdx_length n m.2 r' hr']
/-- All readings. -/
def rdAll (H A B : List Int) : List (List (Int × Int)) := rdx H A B H.length (0, 0, 0)
theorem rdAll_le : ∀ r ∈ rdAll H A B, toldN r ≤ (tv mayA H A B (0, 0, 0)).1 := (rdx_best (H := H) (A := A) (B := B) H.length (0, 0, 0) (by simp)).1
theorem rdAll_count : (tv mayA H A B (0, 0, 0)).2 = ((rdAll H A B).countP fun r => decide (toldN r = (tv mayA H A B (0, 0, 0)).1) : Nat) := (rdx_best (H := H) (A := A) (B := B) H.length (0, 0, 0) (by simp)).2
theorem rdAll_has : ∃ r ∈ rdAll H A B, toldN r = (tv mayA H A B (0, 0, 0)).1 := rdx_has (H := H) (A := A) (B := B) H.length (0, 0, 0) (by simp)
end
end Go.Proofs.Ytgeijboidfadaaa
namespace Go.Proofs.Ytgeijboidfadaaa
set_option linter.all false
open Go

section
variable {N : Nat} {T : List (List Int)} {H A B : List Int} {f : Int}
abbrev keyT : Ty := .pair (.int .i64) (.pair (.int .i64) (.int .i64))
abbrev keyA (x : At3) : Int × Int × Int := (((x.1 : Nat) : Int), ((x.2.1 : Nat) : Int), ((x.2.2 : Nat) : Int))
/-- Whether a place is remembered. -/
def hasK (m : Memo) (x : At3) : Bool := (m.find? fun y => Ty.beq keyT y.1 (keyA x)).isSome
theorem hasK_cons {m : Memo} {x z : At3} {v : Int × Int} : hasK ((keyA x, v) :: m) z = true ↔ z = x ∨ hasK m z = true := by
  unfold hasK
  rw [List.find?_cons]
  by_cases e : Ty.beq keyT (keyA x) (keyA z) = true
  · rw [e]
    have := (beq_iff_ (y := keyT) rfl).1 e
    simp only [keyA, Prod.mk.injEq] at this
    have : z = x := by
      obtain ⟨a, b, c⟩ := x
      obtain ⟨a', b', c'⟩ := z
      dsimp only at this
      simp only [Prod.mk.injEq]; omega
    simp [this]
  · have e' : Ty.beq keyT (keyA x) (keyA z) = false := by simpa using e
    rw [e']
    constructor
    · exact fun h => .inr h
    · rintro (rfl | h)
      · exact absurd ((beq_iff_ (y := keyT) rfl).2 rfl) e
      · exact h
/-- What is remembered is right, and so is all that it came of. -/
def MOK (H A B : List Int) (m : Memo) : Prop := MapOK mayA H A B m ∧ ∀ x : At3, hasK m x = true → x.1 < H.length → ∀ mv ∈ movesL A B (H.getD x.1 0) x, mv.2.1 < H.length → hasK m mv.2 = true
theorem MOK.cons {m : Memo} (h : MOK H A B m) {x : At3} (hk : ∀ mv ∈ movesL A B (H.getD x.1 0) x, mv.2.1 < H.length → hasK m mv.2 = true) : MOK H A B ((keyA x, tv mayA H A B x) :: m) := by
  refine ⟨h.1.cons x, fun z hz hlt mv hmv hl => hasK_cons.2 (.inr ?_)⟩
  rcases hasK_cons.1 hz with rfl | hz
  · exact hk mv hmv hl
  · exact h.2 z hz hlt mv hmv hl
theorem MOK.nil : MOK H A B [] := ⟨MapOK.nil _ _ _ _, fun x h => by cases h⟩
end
end Go.Proofs.Ytgeijboidfadaaa
namespace Go.Proofs.Ytgeijboidfadaaa
set_option linter.all false
open Go

/-- A word is of a side. -/
def mayS (i : Nat) (s : Int) : Nat → Int × Int → Bool := fun h q => decide (h ≠ i) || decide (q.1 = s)
section
variable {N : Nat} {T : List (List Int)} {H A B : List Int} {f : Int}
theorem sure1_mayS {h i : Nat} {s p p2 : Int} : sure1_S N h p p2 i s = some (mayS i s h (p, p2)) := by
  unfold sure1_S mayS
  by_cases c : h = i
  · rw [br_nd (by omega)]; simp [c]
  · rw [br_nnd (by omega)]; simp [c]
theorem rests_l1_p {self : Int → Int → Int → Desk → Int → Int → Desk → Int → Int → Memo → Option (Int × Int × Desk × Int × Int × Memo)} {h n i : Nat} {s : Int} (hH : n ≤ 9) (hA : A.length ≤ 6) (hB : B.length ≤ 6) {u : Int × Int × Int} {u2 : Desk} {x2 x3 g3 g4 : Int}
    (hself : ∀ (y : At3) (m : Memo), y.1 = h + 1 → y.2.1 ≤ A.length → y.2.2 ≤ B.length → MapOK (mayS i s) H A B m → ∃ m', self y.1 y.2.1 y.2.2 (T, H, f, A, B) i s (T, H, f, A, B) i s m = some ((tvx (mayS i s) H A B n y).1, (tvx (mayS i s) H A B n y).2, (T, H, f, A, B), (i : Int), s, m') ∧ MapOK (mayS i s) H A B m') :
    ∀ (ms : List Mv) (m : Memo) (c : Nat) (best : Int × Int), (∀ mv ∈ ms, mv.2.1 = h + 1 ∧ mv.2.2.1 ≤ A.length ∧ mv.2.2.2 ≤ B.length) → MapOK (mayS i s) H A B m → Bst n c best → c + ms.length ≤ 13 →
      ∃ m', rests_l1 N self (ms.map movP) i s u u2 (T, H, f, A, B) i s m h x2 x3 g3 g4 best.1 best.2 = some ((T, H, f, A, B), (i : Int), s, m', (h : Int), x2, x3, g3, g4, (ms.foldl (stepT (mayS i s) h (tvx (mayS i s) H A B n)) best).1, (ms.foldl (stepT (mayS i s) h (tvx (mayS i s) H A B n)) best).2) ∧ MapOK (mayS i s) H A B m'
  | [], m, c, best, _, hm, _, _ => ⟨m, rfl, hm⟩
  | mv :: ms, m, c, best, hv, hm, hb, hc => by
    obtain ⟨hv1, hv2, hv3⟩ := hv mv (by simp)
    by_cases cm : mayS i s h mv.1 = true
    rotate_left
    · have hst : stepT (mayS i s) h (tvx (mayS i s) H A B n) best mv = best := by
        unfold stepT; exact if_neg cm
      have hb' := stepT_bnd (may := mayS i s) (h := h) (t := tvx (mayS i s) H A B n) (m := mv) (tvx_bnd (mayS i s) (H := H) hA hB n mv.2) hb
      rw [hst] at hb'
      obtain ⟨m2, h2, hm2⟩ := rests_l1_p (u := u) (u2 := u2) (x2 := x2) (x3 := x3) (g3 := g3) (g4 := g4) hH hA hB hself ms m (c + 1) _ (fun v hv' => hv v (by simp [hv'])) hm hb' (by simp only [List.length_cons] at hc; omega)
      refine ⟨m2, ?_, hm2⟩
      rw [List.map_cons, List.foldl_cons, hst, ← h2]
      rw [Bool.not_eq_true] at cm
      simp only [rests_l1, rests_l1_b, movP, sure1_mayS, Option.bind_some]
      rw [cm]; rfl
    obtain ⟨m1, he, hm1⟩ := hself mv.2 m hv1 hv2 hv3 hm
    have ht := tvx_bnd (mayS i s) (H := H) hA hB n mv.2
    have hb' := stepT_bnd (may := (mayS i s)) (h := h) (t := tvx (mayS i s) H A B n) (m := mv) ht hb
    obtain ⟨m2, h2, hm2⟩ := rests_l1_p (u := u) (u2 := u2) (x2 := x2) (x3 := x3) (g3 := g3) (g4 := g4) hH hA hB hself ms m1 (c + 1) _ (fun v hv' => hv v (by simp [hv'])) hm1 hb' (by simp only [List.length_cons] at hc; omega)
    refine ⟨m2, ?_, hm2⟩
    rw [List.map_cons, List.foldl_cons, ← h2]
    have hp := pow13 (n := n) (by omega)
    have hbb : (((c + 1) * 13 ^ n : Nat) : Int) ≤ 13 * 137858491849 := by
      have : (c + 1) * 13 ^ n ≤ 13 * 137858491849 := Nat.mul_le_mul (by simp only [List.length_cons] at hc; omega) hp
      omega
    have hb2 : best.2 + (tvx (mayS i s) H A B n mv.2).2 ≤ 13 * 137858491849 := by
      have e : (((c + 1) * 13 ^ n : Nat) : Int) = ((c * 13 ^ n : Nat) : Int) + ((13 ^ n : Nat) : Int) := by rw [Nat.succ_mul]; simp
      have := hb.2.2.2
      have := ht.2.2.2
      omega
    have h0 := hb.2.2.1
    have h1 := ht.2.2.1
    have hn1 := ht.1
    have hn2 := ht.2.1
    simp only [rests_l1, rests_l1_b, movP, sure1_mayS, Option.bind_some]
    rw [cm]
    simp only [Bool.not_true, br_false]
    rw [he]
    have hst : stepT (mayS i s) h (tvx (mayS i s) H A B n) best mv = (if best.1 < wT mv.1.1 (tvx (mayS i s) H A B n mv.2).1 then (wT mv.1.1 (tvx (mayS i s) H A B n mv.2).1, (tvx (mayS i s) H A B n mv.2).2) else if wT mv.1.1 (tvx (mayS i s) H A B n mv.2).1 = best.1 then (best.1, best.2 + (tvx (mayS i s) H A B n mv.2).2) else best) := by
      unfold stepT; exact if_pos cm
    rw [hst]
    simp only [Option.bind_some, wT]
    clear hst h2 he hb' hself
    generalize tvx (mayS i s) H A B n mv.2 = t at *
    obtain ⟨tw, ty⟩ := t
    obtain ⟨bw, by_⟩ := best
    simp only at *
    by_cases c1 : 0 ≤ tw
    · rw [br_dec c1]
      by_cases c2 : mv.1.1 = 3
      · refine (br_nd c2).trans ?_
        have c2' : ¬ (0 ≤ tw ∧ mv.1.1 ≠ 3) := fun h => h.2 c2
        rw [if_neg c2']
        by_cases c3 : bw < tw
        · rw [br_dec c3, if_pos c3]
        · rw [br_ndec c3, if_neg c3]
          by_cases c4 : tw = bw
          · rw [br_dec c4, if_pos c4, chk_eq (by omega)]
          · rw [br_ndec c4, if_neg c4]
      · refine (br_nnd c2).trans ?_
        have c2' : 0 ≤ tw ∧ mv.1.1 ≠ 3 := ⟨c1, c2⟩
        rw [chk_eq (by omega), if_pos c2']
        by_cases c3 : bw < tw + 1
        · rw [br_dec c3, if_pos c3]
        · rw [br_ndec c3, if_neg c3]
          by_cases c4 : tw + 1 = bw
          · rw [br_dec c4, if_pos c4, chk_eq (by omega)]
          · rw [br_ndec c4, if_neg c4]
    · have c2' : ¬ (0 ≤ tw ∧ mv.1.1 ≠ 3) := fun h => c1 h.1
      rw [br_ndec c1, if_neg c2']
      by_cases c3 : bw < tw
      · rw [br_dec c3, if_pos c3]
      · rw [br_ndec c3, if_neg c3]
        by_cases c4 : tw = bw
        · rw [br_dec c4, if_pos c4, chk_eq (by omega)]
        · rw [br_ndec c4, if_neg c4]
theorem rests_R_p {i : Nat} {s : Int} (hH : H.length ≤ 10) (hA : A.length ≤ 6) (hB : B.length ≤ 6) : ∀ (fu : Nat) (x : At3) (m : Memo), H.length < fu + x.1 → x.1 ≤ H.length → x.2.1 ≤ A.length → x.2.2 ≤ B.length → MapOK (mayS i s) H A B m →
    ∃ m', rests_R N fu x.1 x.2.1 x.2.2 (T, H, f, A, B) i s (T, H, f, A, B) i s m = some ((tv (mayS i s) H A B x).1, (tv (mayS i s) H A B x).2, (T, H, f, A, B), (i : Int), s, m') ∧ MapOK (mayS i s) H A B m'
  | 0, x, m, h, h1, _, _, _ => by omega
  | fu + 1, x, m, h, hx, ha, hb, hm => by
    show ∃ m', rests_S N (rests_R N fu) x.1 x.2.1 x.2.2 (T, H, f, A, B) i s (T, H, f, A, B) i s m = _ ∧ _
    unfold rests_S
    by_cases c1 : x.1 = H.length
    · rw [br_dec (by dsimp only; omega)]
      refine ⟨m, ?_, hm⟩
      simp [tv, tvx, c1]
    · rw [br_ndec (by dsimp only; omega)]
      cases hf : m.find? (fun y => Ty.beq (.pair (.int .i64) (.pair (.int .i64) (.int .i64))) y.1 (((x.1 : Nat) : Int), ((x.2.1 : Nat) : Int), ((x.2.2 : Nat) : Int))) with
      | some e =>
        have := hm.find x hf
        refine ⟨m, ?_, hm⟩
        simp [br, this]
      | none =>
        simp only [Option.isSome_none, br_false, next_S, Option.bind_some]
        have hnx : nextR (((x.1 : Nat) : Int), ((x.2.1 : Nat) : Int), ((x.2.2 : Nat) : Int)) (T, H, f, A, B) = some ((movesL A B (H.getD x.1 0) x).map movP) := by
          unfold nextR
          rw [if_pos (by dsimp only; omega)]
          simp only [Int.toNat_natCast]
        rw [hnx]
        simp only [Option.bind_some]
        obtain ⟨n, hn⟩ : ∃ n, H.length - x.1 = n + 1 := ⟨H.length - x.1 - 1, by omega⟩
        obtain ⟨m1, h2, hm1⟩ := rests_l1_p (N := N) (T := T) (f := f) (self := rests_R N fu) (h := x.1) (n := n) (i := i) (s := s) (u := (((x.1 : Nat) : Int), ((x.2.1 : Nat) : Int), ((x.2.2 : Nat) : Int))) (u2 := (T, H, f, A, B)) (x2 := x.2.1) (x3 := x.2.2) (g3 := 0) (g4 := 0) (by omega) hA hB (fun y m' hy hya hyb hm' => by
          have := rests_R_p hH hA hB fu y m' (by omega) (by omega) hya hyb hm'
          rw [show tv (mayS i s) H A B y = tvx (mayS i s) H A B n y by unfold tv; rw [show H.length - y.1 = n by omega]] at this
          exact this) (movesL A B (H.getD x.1 0) x) m 0 (-1, 0) (fun mv hv => movesL_ok ha hb hv) hm (by refine ⟨?_, ?_, ?_, ?_⟩ <;> simp; omega) (by have := movesL_len A B (H.getD x.1 0) x; omega)
        have e : (movesL A B (H.getD x.1 0) x).foldl (stepT (mayS i s) x.1 (tvx (mayS i s) H A B n)) (-1, 0) = tv (mayS i s) H A B x := by
          unfold tv; rw [hn, tvx]
        rw [e] at h2
        rw [h2]
        exact ⟨_, rfl, hm1.cons x⟩
theorem firsts_v {i : Nat} {s : Int} (hN : 12 ≤ N) (hH : H.length ≤ 10) (hA : A.length ≤ 6) (hB : B.length ≤ 6) : firsts_S N (T, H, f, A, B) i s = some (tv (mayS i s) H A B (0, 0, 0)) := by
  unfold firsts_S restss_S restss_j1
  obtain ⟨m, h, hm⟩ := rests_R_p (N := N) (T := T) (f := f) (i := i) (s := s) hH hA hB N (0, 0, 0) [] (by dsimp only; omega) (by dsimp only; omega) (by dsimp only; omega) (by dsimp only; omega) (MapOK.nil _ _ _ _)
  simp only [Int.natCast_zero] at h
  rw [h]
  simp [Ty.beq]
end
end Go.Proofs.Ytgeijboidfadaaa
namespace Go.Proofs.Ytgeijboidfadaaa
set_option linter.all false
open Go

section
variable {N : Nat} {T : List (List Int)} {H A B : List Int} {f a b : Int}
/-- Whether places may be. -/
def mayR (may : Nat → Int × Int → Bool) : Nat → List (Int × Int) → Bool
  | _, [] => true
  | h, q :: r => may h q && mayR may (h + 1) r
/-- As many words are told in the best of these, of which there are so many, if there is one. -/
def Gd (C : List (List (Int × Int))) (v : Int × Int) : Prop := BestOf C v ∧ (C = [] ∧ v.1 = -1 ∨ ∃ r ∈ C, toldN r = v.1)
theorem Gd.ge {C : List (List (Int × Int))} {v : Int × Int} (h : Gd C v) : -1 ≤ v.1 := by
  rcases h.2 with ⟨_, h⟩ | ⟨r, _, h⟩
  · omega
  · have := toldN_bnd r; omega
theorem Gd.add {may : Nat → Int × Int → Bool} {h : Nat} {t : At3 → Int × Int} {m : Mv} {C D : List (List (Int × Int))} {best : Int × Int} (hb : Gd C best) (hd : Gd D (t m.2)) : Gd (C ++ if may h m.1 = true then D.map fun r => m.1 :: r else []) (stepT may h t best m) := by
  by_cases c : may h m.1 = true
  · rw [if_pos c]
    have st : stepT may h t best m = stepT mayA h t best m := by
      unfold stepT; rw [if_pos c]; exact (if_pos rfl).symm
    rw [st]
    have st2 : stepT mayA h t best m = (if best.1 < wT m.1.1 (t m.2).1 then (wT m.1.1 (t m.2).1, (t m.2).2) else if wT m.1.1 (t m.2).1 = best.1 then (best.1, best.2 + (t m.2).2) else best) := by
      unfold stepT; exact if_pos rfl
    have hge := hb.ge
    rcases hd.2 with ⟨rfl, hv⟩ | ⟨r, hr, hv⟩
    · have h2 := hd.1.2
      rw [List.countP_nil] at h2
      have hw : wT m.1.1 (t m.2).1 = -1 := by
        unfold wT; rw [hv]; exact if_neg (fun h => absurd h.1 (by decide))
      rw [st2, hw, List.map_nil, List.append_nil, if_neg (by omega)]
      by_cases k : -1 = best.1
      · rw [if_pos k, h2]
        rw [show ((best.1, best.2 + ((0 : Nat) : Int)) : Int × Int) = best by simp]
        exact hb
      · rw [if_neg k]; exact hb
    · have t0 := toldN_bnd r
      have h0 : 0 ≤ (t m.2).1 := by omega
      refine ⟨BestOf.add (n := 0) hb.1 hd.1 h0, .inr ?_⟩
      have hw : toldN (m.1 :: r) = wT m.1.1 (t m.2).1 := by
        unfold wT toldN
        by_cases c : m.1.1 = 3
        · rw [if_pos c, if_neg (fun h => h.2 c)]; omega
        · rw [if_neg c, if_pos ⟨h0, c⟩]; omega
      rw [st2]
      by_cases k1 : best.1 < wT m.1.1 (t m.2).1
      · rw [if_pos k1]
        exact ⟨m.1 :: r, List.mem_append.2 (.inr (List.mem_map.2 ⟨r, hr, rfl⟩)), hw⟩
      · rw [if_neg k1]
        have t1 := toldN_bnd (m.1 :: r)
        rcases hb.2 with ⟨_, e⟩ | ⟨r', hr', e⟩
        · omega
        · refine ⟨r', List.mem_append.2 (.inl hr'), ?_⟩
          split <;> exact e
  · have st : stepT may h t best m = best := by
      unfold stepT; rw [if_neg c]
    rw [if_neg c, st, List.append_nil]
    exact hb
theorem Gd.fold {may : Nat → Int × Int → Bool} {h n : Nat} {t : At3 → Int × Int} (hd : ∀ y, y.1 = h + 1 → Gd ((rdx H A B n y).filter (mayR may (h + 1))) (t y)) : ∀ (ms : List Mv) (C : List (List (Int × Int))) (best : Int × Int), (∀ m ∈ ms, m.2.1 = h + 1) → Gd C best → Gd (C ++ (ms.flatMap fun m => (rdx H A B n m.2).map fun r => m.1 :: r).filter (mayR may h)) (ms.foldl (stepT may h t) best)
  | [], C, best, _, hb => by simpa using hb
  | m :: ms, C, best, hm, hb => by
    rw [List.flatMap_cons, List.filter_append, ← List.append_assoc, List.foldl_cons]
    have e : ((rdx H A B n m.2).map fun r => m.1 :: r).filter (mayR may h) = if may h m.1 = true then ((rdx H A B n m.2).filter (mayR may (h + 1))).map fun r => m.1 :: r else [] := by
      rw [List.filter_map]
      by_cases c : may h m.1 = true
      · rw [if_pos c]
        congr 1
        apply List.filter_congr
        intro r _
        simp [mayR, c]
      · rw [if_neg c]
        rw [Bool.not_eq_true] at c
        rw [List.map_eq_nil_iff, List.filter_eq_nil_iff]
        intro r _
        simp [mayR, c]
    rw [e]
    exact Gd.fold hd ms _ _ (fun m' h' => hm m' (by simp [h'])) (Gd.add hb (hd m.2 (hm m (by simp))))
theorem movesL_next {w : Int} {x : At3} {m : Mv} (h : m ∈ movesL A B w x) : m.2.1 = x.1 + 1 := by
  simp only [movesL, List.mem_cons, List.mem_append, List.mem_map] at h
  rcases h with rfl | ⟨j, _, rfl⟩ | ⟨j, _, rfl⟩ <;> rfl
theorem rdx_gd (may : Nat → Int × Int → Bool) : ∀ (n : Nat) (x : At3), H.length = x.1 + n → Gd ((rdx H A B n x).filter (mayR may x.1)) (tvx may H A B n x)
  | 0, x, _ => by
    have e : (rdx H A B 0 x).filter (mayR may x.1) = [[]] := rfl
    rw [e]
    exact ⟨⟨fun r hr => by simp at hr; subst hr; simp [tvx, toldN], by simp [tvx, toldN]⟩, .inr ⟨[], by simp, by simp [toldN, tvx]⟩⟩
  | n + 1, x, hx => by
    have := Gd.fold (H := H) (A := A) (B := B) (may := may) (h := x.1) (n := n) (t := tvx may H A B n) (fun y hy => by have := rdx_gd may n y (by omega); rw [hy] at this; exact this) (movesL A B (H.getD x.1 0) x) [] (-1, 0) (fun m hm => movesL_next hm) ⟨⟨(fun r hr => by cases hr), rfl⟩, .inl ⟨rfl, rfl⟩⟩
    exact this
theorem mayR_side {i : Nat} {s : Int} : ∀ (r : List (Int × Int)) (h : Nat), mayR (mayS i s) h r = (decide (i < h ∨ h + r.length ≤ i) || decide ((r.getD (i - h) (0, 0)).1 = s))
  | [], h => by
    have : i < h ∨ h + ([] : List (Int × Int)).length ≤ i := by simp; omega
    rw [decide_eq_true this]; rfl
  | q :: r, h => by
    rw [mayR, mayR_side r (h + 1)]
    unfold mayS
    rw [List.length_cons]
    by_cases c : h = i
    · subst c
      rw [decide_eq_true (show h < h + 1 ∨ h + 1 + r.length ≤ h by omega), decide_eq_false (show ¬ (h < h ∨ h + (r.length + 1) ≤ h) by omega)]
      simp
    · rw [decide_eq_true (show h ≠ i from c)]
      by_cases c2 : i < h
      · rw [decide_eq_true (show i < h + 1 ∨ h + 1 + r.length ≤ i by omega), decide_eq_true (show i < h ∨ h + (r.length + 1) ≤ i by omega)]
        rfl
      · rw [show i - h = (i - (h + 1)) + 1 by omega, List.getD_cons_succ]
        rw [show decide (i < h + 1 ∨ h + 1 + r.length ≤ i) = decide (i < h ∨ h + (r.length + 1) ≤ i) by apply decide_eq_decide.2; omega]
        rfl
theorem countP_and {α : Type} {p q : α → Bool} : ∀ {l : List α}, l.countP (fun x => p x && q x) = l.countP p → ∀ x ∈ l, p x = true → q x = true
  | [], _, x, hx, _ => by cases hx
  | y :: l, h, x, hx, hp => by
    rw [List.countP_cons, List.countP_cons] at h
    have le : l.countP (fun x => p x && q x) ≤ l.countP p := List.countP_mono_left (fun x _ hx => by simp only [Bool.and_eq_true] at hx; exact hx.1)
    have h1 : l.countP (fun x => p x && q x) = l.countP p := by
      cases hpy : p y <;> cases hqy : q y <;> simp [hpy, hqy] at h <;> omega
    rcases List.mem_cons.1 hx with rfl | hx
    · cases hq : q x with
      | true => rfl
      | false => rw [hp, hq] at h; simp at h; omega
    · exact countP_and h1 x hx hp
/-- The best readings. -/
def bestR (H A B : List Int) : List (List (Int × Int)) := (rdAll H A B).filter fun r => decide (toldN r = (tv mayA H A B (0, 0, 0)).1)
theorem bestR_ne : ∃ r, r ∈ bestR H A B := by
  obtain ⟨r, hr, e⟩ := rdAll_has (H := H) (A := A) (B := B)
  exact ⟨r, List.mem_filter.2 ⟨hr, by simpa using e⟩⟩
theorem bestR_len {r : List (Int × Int)} (h : r ∈ bestR H A B) : r.length = H.length := rdx_length H.length (0, 0, 0) r (List.mem_filter.1 h).1
/-- Whether a word is of a side in each best reading. -/
def allS (H A B : List Int) (i : Nat) (s : Int) : Bool := (bestR H A B).all fun r => decide ((r.getD i (0, 0)).1 = s)
theorem first_iff {i : Nat} {s : Int} (hi : i < H.length) : tv (mayS i s) H A B (0, 0, 0) = tv mayA H A B (0, 0, 0) ↔ allS H A B i s = true := by
  have gd : Gd ((rdAll H A B).filter (mayR (mayS i s) 0)) (tv (mayS i s) H A B (0, 0, 0)) := rdx_gd (H := H) (A := A) (B := B) (mayS i s) H.length (0, 0, 0) (by simp)
  have sid : ∀ r ∈ rdAll H A B, mayR (mayS i s) 0 r = decide ((r.getD i (0, 0)).1 = s) := fun r hr => by
    have hl : r.length = H.length := rdx_length H.length (0, 0, 0) r hr
    rw [mayR_side, decide_eq_false (by omega)]; simp
  have cnt := rdAll_count (H := H) (A := A) (B := B)
  have le := rdAll_le (H := H) (A := A) (B := B)
  obtain ⟨r0, hr0, e0⟩ := rdAll_has (H := H) (A := A) (B := B)
  generalize tv (mayS i s) H A B (0, 0, 0) = W at gd ⊢
  unfold allS bestR
  generalize tv mayA H A B (0, 0, 0) = V at cnt le e0 ⊢
  have cp : ((rdAll H A B).filter (mayR (mayS i s) 0)).countP (fun r => decide (toldN r = V.1)) = (rdAll H A B).countP fun r => decide (toldN r = V.1) && mayR (mayS i s) 0 r := by
    rw [List.countP_filter]
  rw [List.all_eq_true]
  constructor
  · rintro rfl r hr
    obtain ⟨h1, h2⟩ := List.mem_filter.1 hr
    have := gd.1.2
    rw [cp, cnt] at this
    rw [← sid r h1]
    exact countP_and (Int.ofNat.inj this).symm r h1 h2
  · intro h
    have hs : ∀ r ∈ rdAll H A B, toldN r = V.1 → mayR (mayS i s) 0 r = true := fun r hr e => by
      rw [sid r hr]
      exact h r (List.mem_filter.2 ⟨hr, by simpa using e⟩)
    have m0 : r0 ∈ (rdAll H A B).filter (mayR (mayS i s) 0) := List.mem_filter.2 ⟨hr0, hs r0 hr0 e0⟩
    have l1 := gd.1.1 r0 m0
    have e1 : W.1 = V.1 := by
      rcases gd.2 with ⟨e, _⟩ | ⟨r, hr, e⟩
      · rw [e] at m0; cases m0
      · have := le r (List.mem_filter.1 hr).1
        omega
    have e2 := gd.1.2
    rw [e1, cp] at e2
    have e3 : ((rdAll H A B).countP fun r => decide (toldN r = V.1) && mayR (mayS i s) 0 r) = (rdAll H A B).countP fun r => decide (toldN r = V.1) := by
      apply List.countP_congr
      intro r hr
      simp only [Bool.and_eq_true, decide_eq_true_eq]
      exact ⟨fun h => h.1, fun e => ⟨e, hs r hr e⟩⟩
    rw [e3, ← cnt] at e2
    exact Prod.ext e1 e2
/-- Whose a word surely is. -/
def sureV (H A B : List Int) (i : Nat) : Int := if allS H A B i 1 = true then 1 else if allS H A B i 2 = true then 2 else if allS H A B i 3 = true then 3 else 0
theorem allS_one {i : Nat} {s t : Int} (h1 : allS H A B i s = true) (h2 : allS H A B i t = true) : s = t := by
  obtain ⟨r, hr⟩ := bestR_ne (H := H) (A := A) (B := B)
  have a := List.all_eq_true.1 h1 r hr
  have b := List.all_eq_true.1 h2 r hr
  simp only [decide_eq_true_eq] at a b
  omega
theorem sure_l2_p (hN : 20 ≤ N) (hH : H.length ≤ 10) (hA : A.length ≤ 6) (hB : B.length ≤ 6) {i : Nat} (hi : i < H.length) {u : Int} {out : List Int} (ho : out.length = H.length) (h0 : out.getD i 0 = 0) :
    sure_l2 N N (T, H, f, A, B) u i [1, 2, 3] 0 (tv mayA H A B (0, 0, 0)).1 (tv mayA H A B (0, 0, 0)).2 out i = some ((T, H, f, A, B), u, (i : Int), (tv mayA H A B (0, 0, 0)).1, (tv mayA H A B (0, 0, 0)).2, out.set i (sureV H A B i)) := by
  have step : ∀ (n : Nat) (k s : Int) (o : List Int), 0 ≤ k → k < 3 → [(1 : Int), 2, 3][k.toNat]? = some s → o.length = H.length → sure_l2 N (n + 1) (T, H, f, A, B) u i [1, 2, 3] k (tv mayA H A B (0, 0, 0)).1 (tv mayA H A B (0, 0, 0)).2 o i = sure_l2 N n (T, H, f, A, B) u i [1, 2, 3] (k + 1) (tv mayA H A B (0, 0, 0)).1 (tv mayA H A B (0, 0, 0)).2 (if allS H A B i s = true then o.set i s else o) i := by
    intro n k s o k0 k3 hk hol
    rw [sure_l2, br_dec k3, idx_eq k0 hk, firsts_v (by omega) hH hA hB]
    simp only [Option.bind_some]
    by_cases c : allS H A B i s = true
    · rw [if_pos c, (first_iff hi).2 c]
      simp only [decide_true, Bool.and_self, br_true]
      rw [rng_eq (by omega), get_eq (a := o.getD i 0) (by have : i < o.length := by omega
                                                          simp [List.getD, this])]
      unfold sure_j1
      rw [chk_eq (by omega), Int.toNat_natCast]
    · have hne : ¬ tv (mayS i s) H A B (0, 0, 0) = tv mayA H A B (0, 0, 0) := fun h => c ((first_iff hi).1 h)
      have : (decide ((tv (mayS i s) H A B (0, 0, 0)).1 = (tv mayA H A B (0, 0, 0)).1) && decide ((tv (mayS i s) H A B (0, 0, 0)).2 = (tv mayA H A B (0, 0, 0)).2)) = false := by
        rw [Bool.eq_false_iff]
        intro h
        simp only [Bool.and_eq_true, decide_eq_true_eq] at h
        exact hne (Prod.ext h.1 h.2)
      rw [if_neg c, this, br_false]
      unfold sure_j1
      rw [chk_eq (by omega)]
  obtain ⟨n, hn⟩ : ∃ n, N = n + 1 + 1 + 1 + 1 := ⟨N - 4, by omega⟩
  have last : ∀ o, sure_l2 N (n + 1) (T, H, f, A, B) u i [1, 2, 3] 3 (tv mayA H A B (0, 0, 0)).1 (tv mayA H A B (0, 0, 0)).2 o i = some ((T, H, f, A, B), u, (i : Int), (tv mayA H A B (0, 0, 0)).1, (tv mayA H A B (0, 0, 0)).2, o) := fun o => by
    rw [sure_l2, br_ndec (by decide)]
  have e0 : sure_l2 N N (T, H, f, A, B) u i [1, 2, 3] 0 (tv mayA H A B (0, 0, 0)).1 (tv mayA H A B (0, 0, 0)).2 out i = sure_l2 N (n + 1 + 1 + 1 + 1) (T, H, f, A, B) u i [1, 2, 3] 0 (tv mayA H A B (0, 0, 0)).1 (tv mayA H A B (0, 0, 0)).2 out i := by
    rw [← hn]
  rw [e0, step _ 0 1 out (by decide) (by decide) rfl ho, show (0 : Int) + 1 = 1 from rfl]
  rw [step _ 1 2 _ (by decide) (by decide) rfl (by split <;> simp [ho]), show (1 : Int) + 1 = 2 from rfl]
  rw [step _ 2 3 _ (by decide) (by decide) rfl (by split <;> split <;> simp [ho]), show (2 : Int) + 1 = 3 from rfl, last]
  congr 1
  simp only [Prod.mk.injEq, true_and]
  unfold sureV
  by_cases c1 : allS H A B i 1 = true
  · have c2 : ¬ allS H A B i 2 = true := fun h => absurd (allS_one c1 h) (by decide)
    have c3 : ¬ allS H A B i 3 = true := fun h => absurd (allS_one c1 h) (by decide)
    rw [if_neg c3, if_neg c2, if_pos c1, if_pos c1]
  · by_cases c2 : allS H A B i 2 = true
    · have c3 : ¬ allS H A B i 3 = true := fun h => absurd (allS_one c2 h) (by decide)
      rw [if_neg c3, if_pos c2, if_neg c1, if_neg c1, if_pos c2]
    · by_cases c3 : allS H A B i 3 = true
      · rw [if_pos c3, if_neg c2, if_neg c1, if_neg c1, if_neg c2, if_pos c3]
      · rw [if_neg c3, if_neg c2, if_neg c1, if_neg c1, if_neg c2, if_neg c3]
        have hl : i < out.length := by omega
        apply List.ext_getElem
        · simp
        · intro j h1 h2
          rw [List.getElem_set]
          split
          · next h => subst h; rw [← h0]; simp [List.getD, hl]
          · rfl
/-- So many of the words, and the others not yet. -/
def sureTo (H A B : List Int) (k : Nat) : List Int := (List.range k).map (sureV H A B) ++ List.replicate (H.length - k) 0
theorem sureTo_len {k : Nat} (h : k ≤ H.length) : (sureTo H A B k).length = H.length := by
  unfold sureTo
  simp; omega
theorem sureTo_set {k : Nat} (h : k < H.length) : (sureTo H A B k).set k (sureV H A B k) = sureTo H A B (k + 1) ∧ (sureTo H A B k).getD k 0 = 0 := by
  unfold sureTo
  obtain ⟨m, hm⟩ : ∃ m, H.length - k = m + 1 := ⟨H.length - k - 1, by omega⟩
  rw [hm, show H.length - (k + 1) = m by omega, List.range_succ, List.map_append, List.append_assoc, List.replicate_succ]
  constructor
  · rw [List.set_append_right _ _ (by simp)]
    simp
  · simp [List.getD, List.getElem?_append_right]
theorem sure_l1_p (hN : 20 ≤ N) (hH : H.length ≤ 10) (hA : A.length ≤ 6) (hB : B.length ≤ 6) : ∀ (n k : Nat), H.length < n + k → k ≤ H.length →
    sure_l1 N n (T, H, f, A, B) (H.length : Int) k (tv mayA H A B (0, 0, 0)).1 (tv mayA H A B (0, 0, 0)).2 (sureTo H A B k) = some ((List.range H.length).map (sureV H A B))
  | 0, k, h, _ => by omega
  | n + 1, k, h, hk => by
    unfold sure_l1
    by_cases c : k < H.length
    · have ⟨e1, e2⟩ := sureTo_set (A := A) (B := B) c
      rw [br_dec (by omega), sure_l2_p hN hH hA hB c (sureTo_len hk) e2]
      simp only [Option.bind_some]
      rw [chk_eq (by omega), e1]
      have := sure_l1_p hN hH hA hB n (k + 1) (by omega) (by omega)
      rw [show ((k + 1 : Nat) : Int) = (k : Int) + 1 by omega] at this
      exact this
    · have e : k = H.length := by omega
      rw [br_ndec (by omega), e]
      unfold sureTo
      simp
theorem sure_v (hN : 20 ≤ N) (h : openE T H f a b = 0) : sure_S N T H f a b = some ((List.range H.length).map (sureV H (T.getD a.toNat []) (T.getD b.toNat [])), 0) := by
  obtain ⟨hF, ha, hb, e⟩ := opened_good hN h
  have hH := hF.h
  have lA := hF.l (T.getD a.toNat []) (getD_mem (by omega))
  have lB := hF.l (T.getD b.toNat []) (getD_mem (by omega))
  unfold sure_S
  rw [e]
  simp only [Option.bind_some, decide_true, Bool.not_true, br_false, all_S]
  rw [firsta_v (by omega) hH lA.2 lB.2]
  simp only [Option.bind_some]
  rw [grd_eq (lmI_iff.2 (by omega))]
  have e2 := sure_l1_p (N := N) (T := T) (f := f) hN hH lA.2 lB.2 N 0 (by omega) (by omega)
  rw [show sureTo H (T.getD a.toNat []) (T.getD b.toNat []) 0 = List.replicate H.length 0 by unfold sureTo; simp] at e2
  rw [show ((List.replicate (H.length : Int).toNat (0 : Int)).length : Int) = H.length by simp, show List.replicate (H.length : Int).toNat (0 : Int) = List.replicate H.length 0 by simp]
  rw [show ((0 : Nat) : Int) = 0 from rfl] at e2
  rw [e2]; rfl
end
end Go.Proofs.Ytgeijboidfadaaa
namespace Go.Proofs.Ytgeijboidfadaaa
set_option linter.all false
open Go

section
variable {N : Nat} {T : List (List Int)} {H A B : List Int} {f a b : Int}
theorem rdx_side : ∀ (n : Nat) (x : At3), ∀ r ∈ rdx H A B n x, ∀ q ∈ r, q.1 = 1 ∨ q.1 = 2 ∨ q.1 = 3
  | 0, x, r, hr, q, hq => by simp [rdx] at hr; subst hr; cases hq
  | n + 1, x, r, hr, q, hq => by
    obtain ⟨m, hm, h⟩ := List.mem_flatMap.1 hr
    obtain ⟨r', hr', rfl⟩ := List.mem_map.1 h
    rcases List.mem_cons.1 hq with rfl | hq
    · simp only [movesL, List.mem_cons, List.mem_append, List.mem_map] at hm
      rcases hm with rfl | ⟨j, _, rfl⟩ | ⟨j, _, rfl⟩ <;> simp
    · exact rdx_side n m.2 r' hr' q hq
theorem count_v2 (hN : 20 ≤ N) (h : openE T H f a b = 0) : count_S N T H f a b = some (((bestR H (T.getD a.toNat []) (T.getD b.toNat [])).length : Int), 0) := by
  unfold count_S
  obtain ⟨hF, ha, hb, e⟩ := opened_good hN h
  have hH := hF.h
  have lA := hF.l (T.getD a.toNat []) (getD_mem (by omega))
  have lB := hF.l (T.getD b.toNat []) (getD_mem (by omega))
  rw [e]
  simp only [Option.bind_some, decide_true, Bool.not_true, br_false, all_S]
  rw [firsta_v (by omega) hH lA.2 lB.2]
  simp only [Option.bind_some]
  rw [rdAll_count, List.countP_eq_length_filter]
  rfl
end
end Go.Proofs.Ytgeijboidfadaaa
namespace Go.Proofs.Ytgeijboidfadaaa
set_option linter.all false
open Go

section
variable {N : Nat} {T : List (List Int)} {H : List Int} {f : Int}
end
end Go.Proofs.Ytgeijboidfadaaa

namespace Go.Proofs.Ytgeijboidfadaaa.Fd
set_option linter.all false
open Go

/-- A desk at work. -/
abbrev Dk := List Int × Int × List Qe × List Qe × List Int × List Int × List Int × Unit
def in__S (N : Nat) (n : Int) (lo : Int) (hi : Int) : Option Bool :=
  br (decide (lo ≤ n))
    (some (decide (n ≤ hi)))
    (some false)
noncomputable def in__sp (N : Nat) : List Spec := []
theorem in__all (N : Nat) : AllP (SpecOK Try.prog) (in__sp N) := trivial
noncomputable def in__c : Code := (Try.f69.body).getD .skip
noncomputable abbrev in__B : Body := { c := in__c, n := 15, res := [.tmp 6], outs := [⟨[.b], []⟩], m0 := 0 }
abbrev in__rt : altD in__B.outs → Option Bool := fun r => some r.1.1
abbrev in__st : Sta := ⟨[0, 1, 2], ⟨[.i .i64, .i .i64, .i .i64], []⟩⟩
theorem in__eq (N : Nat) (n : Int) (lo : Int) (hi : Int) : ev (Z := Bool) Try.prog (in__sp N) in__B [] [] (some in__rt) 400 false [.c [0], .c [1]] (stL in__st ((n, lo, hi, ()), ())) (stH in__st ((n, lo, hi, ()), ())) = in__S N n lo hi := by kernel_rfl
noncomputable def sp_in_ (N : Nat) : Spec := { f := 69, ins := ⟨[.i .i64, .i .i64, .i .i64], []⟩, outs := [⟨[.b], []⟩], run := fun p k => (in__S N p.1.1 p.1.2.1 p.1.2.2.1).bind fun r => k ((r, ()), ()) }
theorem sp_in__ok (N : Nat) : SpecOK Try.prog (sp_in_ N) := fn_sound (B := in__B) (loops := []) (leaves := []) (fun p => in__S N p.1.1 p.1.2.1 p.1.2.2.1) (fun r => ((r, ()), ())) in__rt (fun _ _ _ => rfl) (fun r z h => by cases h; rfl) Try.func69 (by kernel_rfl) (by kernel_rfl) (by kernel_rfl) rfl rfl (by kernel_rfl) (fun args w => Sem.pv_run _ _ _ (by kernel_rfl) w) (in__all N) mixed trivial (fun z E Xc hE hX hret => trivial) (fun p => in__eq N p.1.1 p.1.2.1 p.1.2.2.1)

def check1_S (N : Nat) (l : List Int) (u : Qm) : Option Bool :=
  some (decide ((l.length : Int) = (u.1.length : Int)))
noncomputable def check1_sp (N : Nat) : List Spec := []
theorem check1_all (N : Nat) : AllP (SpecOK Try.prog) (check1_sp N) := trivial
noncomputable def check1_c : Code := (Try.f99.body).getD .skip
noncomputable abbrev check1_B : Body := { c := check1_c, n := 10, res := [.tmp 3], outs := [⟨[.b], []⟩], m0 := 0 }
abbrev check1_rt : altD check1_B.outs → Option Bool := fun r => some r.1.1
abbrev check1_st : Sta := ⟨[0, 1], ⟨[.sl (.int .i64), .fe Qn], []⟩⟩
theorem check1_eq (N : Nat) (l : List Int) (u : Qm) : ev (Z := Bool) Try.prog (check1_sp N) check1_B [] [] (some check1_rt) 400 false [.c [0], .c [1]] (stL check1_st ((l, u, ()), ())) (stH check1_st ((l, u, ()), ())) = check1_S N l u := by kernel_rfl
noncomputable def sp_check1 (N : Nat) : Spec := { f := 99, ins := ⟨[.sl (.int .i64), .fe Qn], []⟩, outs := [⟨[.b], []⟩], run := fun p k => (check1_S N p.1.1 p.1.2.1).bind fun r => k ((r, ()), ()) }
theorem sp_check1_ok (N : Nat) : SpecOK Try.prog (sp_check1 N) := fn_sound (B := check1_B) (loops := []) (leaves := []) (fun p => check1_S N p.1.1 p.1.2.1) (fun r => ((r, ()), ())) check1_rt (fun _ _ _ => rfl) (fun r z h => by cases h; rfl) Try.func99 (by kernel_rfl) (by kernel_rfl) (by kernel_rfl) rfl rfl (by kernel_rfl) (fun args w => Sem.pv_run _ _ _ (by kernel_rfl) w) (check1_all N) mixed trivial (fun z E Xc hE hX hret => trivial) (fun p => check1_eq N p.1.1 p.1.2.1)

def check21_S (N : Nat) (n : Int) : Option Bool :=
  (in__S N n (-1) 5).bind fun x_1 =>
  some x_1
noncomputable def check21_sp (N : Nat) : List Spec := [sp_in_ N]
theorem check21_all (N : Nat) : AllP (SpecOK Try.prog) (check21_sp N) := ⟨sp_in__ok N, trivial⟩
noncomputable def check21_c : Code := (Try.f102.body).getD .skip
noncomputable abbrev check21_B : Body := { c := check21_c, n := 5, res := [.tmp 2], outs := [⟨[.b], []⟩], m0 := 0 }
abbrev check21_rt : altD check21_B.outs → Option Bool := fun r => some r.1.1
abbrev check21_st : Sta := ⟨[0], ⟨[.i .i64], []⟩⟩
theorem check21_eq (N : Nat) (n : Int) : ev (Z := Bool) Try.prog (check21_sp N) check21_B [] [] (some check21_rt) 400 false [.c [0], .c [1]] (stL check21_st ((n, ()), ())) (stH check21_st ((n, ()), ())) = check21_S N n := by kernel_rfl
noncomputable def sp_check21 (N : Nat) : Spec := { f := 102, ins := ⟨[.i .i64], []⟩, outs := [⟨[.b], []⟩], run := fun p k => (check21_S N p.1.1).bind fun r => k ((r, ()), ()) }
theorem sp_check21_ok (N : Nat) : SpecOK Try.prog (sp_check21 N) := fn_sound (B := check21_B) (loops := []) (leaves := []) (fun p => check21_S N p.1.1) (fun r => ((r, ()), ())) check21_rt (fun _ _ _ => rfl) (fun r z h => by cases h; rfl) Try.func102 (by kernel_rfl) (by kernel_rfl) (by kernel_rfl) rfl rfl (by kernel_rfl) (fun args w => Sem.pv_run _ _ _ (by kernel_rfl) w) (check21_all N) mixed trivial (fun z E Xc hE hX hret => trivial) (fun p => check21_eq N p.1.1)

def every1v_S (N : Nat) (x : Int) : Option Bool :=
  (check21_S N x).bind fun x_1 =>
  some (!x_1)
noncomputable def every1v_sp (N : Nat) : List Spec := [sp_check21 N]
theorem every1v_all (N : Nat) : AllP (SpecOK Try.prog) (every1v_sp N) := ⟨sp_check21_ok N, trivial⟩
noncomputable def every1v_c : Code := (Try.f130.body).getD .skip
noncomputable abbrev every1v_B : Body := { c := every1v_c, n := 8, res := [.tmp 3], outs := [⟨[.b], [.segs [.fn 102 [] []]]⟩], m0 := 1 }
abbrev every1v_rt : altD every1v_B.outs → Option Bool := fun r => some r.1.1
abbrev every1v_st : Sta := ⟨[0, 1], ⟨[.i .i64, .own 0 0], [.segs [.fn 102 [] []]]⟩⟩
theorem every1v_eq (N : Nat) (x : Int) : ev (Z := Bool) Try.prog (every1v_sp N) every1v_B [] [] (some every1v_rt) 400 false [.c [0], .c [1]] (stL every1v_st ((x, (), ()), ((((), ()), ()), ()))) (stH every1v_st ((x, (), ()), ((((), ()), ()), ()))) = every1v_S N x := by kernel_rfl
noncomputable def sp_every1v (N : Nat) : Spec := { f := 130, ins := ⟨[.i .i64, .own 0 0], [.segs [.fn 102 [] []]]⟩, outs := [⟨[.b], [.segs [.fn 102 [] []]]⟩], run := fun p k => (every1v_S N p.1.1).bind fun r => k ((r, ()), ((((), ()), ()), ())) }
theorem sp_every1v_ok (N : Nat) : SpecOK Try.prog (sp_every1v N) := fn_sound (B := every1v_B) (loops := []) (leaves := []) (fun p => every1v_S N p.1.1) (fun r => ((r, ()), ((((), ()), ()), ()))) every1v_rt (fun _ _ _ => rfl) (fun r z h => by cases h; rfl) Try.func130 (by kernel_rfl) (by kernel_rfl) (by kernel_rfl) rfl rfl (by kernel_rfl) (fun args w => Sem.pv_run _ _ _ (by kernel_rfl) w) (every1v_all N) mixed trivial (fun z E Xc hE hX hret => trivial) (fun p => every1v_eq N p.1.1)

def ixfv_l1 (N : Nat) : Nat → Qe → Int → Int → Option ((Int) ⊕ (Unit))
  | 0, _, _, _ => none
  | n_ + 1, s, u, u2 =>
    br (decide (u2 < u))
      (idx s u2 fun x_1 =>
      (every1v_S N x_1).bind fun x_2 =>
      br x_2
        (some (.inl u2))
        (chk (u2 + 1) <|
        ixfv_l1 N n_ s u (u2 + 1)))
      (some (.inr ()))
def ixfv_S (N : Nat) (s : List Int) : Option Int :=
  (ixfv_l1 N N s (s.length : Int) 0).bind fun e => match e with
  | .inl i_3 =>
    some i_3
  | .inr _ =>
    some (-1)
noncomputable def ixfv_sp (N : Nat) : List Spec := [sp_every1v N]
theorem ixfv_all (N : Nat) : AllP (SpecOK Try.prog) (ixfv_sp N) := ⟨sp_every1v_ok N, trivial⟩
noncomputable def ixfv_c : Code := (Try.f80.body).getD .skip
noncomputable abbrev ixfv_B : Body := { c := ixfv_c, n := 19, res := [.tmp 4], outs := [⟨[.i .i64], [.segs [.fn 102 [] []]]⟩], m0 := 1 }
abbrev ixfv_rt : altD ixfv_B.outs → Option Int := fun r => some r.1.1
abbrev ixfv_l1_at : List PI := [.c [1, 0, 1, 0, 0, 0], .c [1, 0, 1, 0, 0, 1], .l [1, 0, 1, 0, 0], .b 0, .c [1, 1]]
abbrev ixfv_l1_st : Sta := ⟨[0, 1, 7, 8], ⟨[.sl (.int .i64), .fn 130 [] [.own 0 0], .i .i64, .i .i64], [.segs [.fn 102 [] []]]⟩⟩
abbrev ixfv_l1_h (rec : Qe → Int → Int → Option ((Int) ⊕ (Unit))) : Leaf ((Int) ⊕ (Unit)) := ⟨ixfv_l1_at, ixfv_l1_st, fun p => rec p.1.1 p.1.2.2.1 p.1.2.2.2.1⟩
abbrev ixfv_l1_e0 : Leaf ((Int) ⊕ (Unit)) := ⟨[.c [1, 0, 1, 0, 0, 1, 1, 0, 0, 1, 1, 0, 0], .c [1, 0, 1, 0, 0, 1, 1, 0, 0, 1, 1, 0, 1], .b 1, .c [1, 0, 1, 0, 0, 1, 1, 1], .l [1, 0, 1, 0, 0], .b 0, .c [1, 1]], ⟨[5], ⟨[.i .i64], [.segs [.fn 102 [] []]]⟩⟩, fun p => some (.inl p.1.1)⟩
abbrev ixfv_l1_e1 : Leaf ((Int) ⊕ (Unit)) := ⟨[.c [1, 1, 0], .c [1, 1, 1]], ⟨[], ⟨[], [.segs [.fn 102 [] []]]⟩⟩, fun p => some (.inr ())⟩
noncomputable def ixfv_l1_L (N : Nat) : LoopS := { at_ := ixfv_l1_at, sta := ixfv_l1_st, exits := [([.c [1, 0, 1, 0, 0, 1, 1, 0, 0, 1, 1, 0, 0], .c [1, 0, 1, 0, 0, 1, 1, 0, 0, 1, 1, 0, 1], .b 1, .c [1, 0, 1, 0, 0, 1, 1, 1], .l [1, 0, 1, 0, 0], .b 0, .c [1, 1]], ⟨[5], ⟨[.i .i64], [.segs [.fn 102 [] []]]⟩⟩), ([.c [1, 1, 0], .c [1, 1, 1]], ⟨[], ⟨[], [.segs [.fn 102 [] []]]⟩⟩)], run := fun p k => (ixfv_l1 N N p.1.1 p.1.2.2.1 p.1.2.2.2.1).bind fun e => match e with | .inl x => k (.inl ((x, ()), ((((), ()), ()), ()))) | .inr x => k (.inr (.inl ((), ((((), ()), ()), ())))) }
theorem ixfv_l1_eq (N n_ : Nat) (s : List Int) (u : Int) (u2 : Int) : ev (Z := (Int) ⊕ (Unit)) Try.prog (ixfv_sp N) ixfv_B [] [ixfv_l1_h (ixfv_l1 N n_), ixfv_l1_e0, ixfv_l1_e1] none 400 true ixfv_l1_at (stL ixfv_l1_st ((s, ((), ((), ())), u, u2, ()), ((((), ()), ()), ()))) (stH ixfv_l1_st ((s, ((), ((), ())), u, u2, ()), ((((), ()), ()), ()))) = ixfv_l1 N (n_ + 1) s u u2 := by kernel_rfl
theorem ixfv_l1_ok (N : Nat) {top : Bool} : LoopOK Try.prog ixfv_B.c ixfv_B.n ixfv_B.m0 top (ixfv_l1_L N) := loop_of_ev (Z := (Int) ⊕ (Unit)) (N := N) (fun m p => ixfv_l1 N m p.1.1 p.1.2.2.1 p.1.2.2.2.1) (fun e => match e with | .inl x => .inl ((x, ()), ((((), ()), ()), ())) | .inr x => .inr (.inl ((), ((((), ()), ()), ())))) (fun _ p k => bind_congr_ (ixfv_l1 N N p.1.1 p.1.2.2.1 p.1.2.2.2.1) _ _ (fun e => by rcases e with x | x <;> rfl)) (fun _ => rfl) (fun m z E Xc hE hX hrec hx => leaf_of_ev (B := ixfv_B) (loops := []) (leaves := [ixfv_l1_h (ixfv_l1 N m), ixfv_l1_e0, ixfv_l1_e1]) (ixfv_all N) mixed trivial hE hX ⟨hrec, (fun p hp => by obtain rfl := Option.some.inj hp; exact hx), (fun p hp => by obtain rfl := Option.some.inj hp; exact hx), trivial⟩ RetOK.no (fun p => ixfv_l1_eq N m p.1.1 p.1.2.2.1 p.1.2.2.2.1))
abbrev ixfv_st : Sta := ⟨[0, 1], ⟨[.sl (.int .i64), .fn 130 [] [.own 0 0]], [.segs [.fn 102 [] []]]⟩⟩
theorem ixfv_eq (N : Nat) (s : List Int) : ev (Z := Int) Try.prog (ixfv_sp N) ixfv_B [ixfv_l1_L N] [] (some ixfv_rt) 400 false [.c [0], .c [1]] (stL ixfv_st ((s, ((), ((), ())), ()), ((((), ()), ()), ()))) (stH ixfv_st ((s, ((), ((), ())), ()), ((((), ()), ()), ()))) = ixfv_S N s := by kernel_rfl
noncomputable def sp_ixfv (N : Nat) : Spec := { f := 80, ins := ⟨[.sl (.int .i64), .fn 130 [] [.own 0 0]], [.segs [.fn 102 [] []]]⟩, outs := [⟨[.i .i64], [.segs [.fn 102 [] []]]⟩], run := fun p k => (ixfv_S N p.1.1).bind fun r => k ((r, ()), ((((), ()), ()), ())) }
theorem sp_ixfv_ok (N : Nat) : SpecOK Try.prog (sp_ixfv N) := fn_sound (B := ixfv_B) (loops := [ixfv_l1_L N]) (leaves := []) (fun p => ixfv_S N p.1.1) (fun r => ((r, ()), ((((), ()), ()), ()))) ixfv_rt (fun _ _ _ => rfl) (fun r z h => by cases h; rfl) Try.func80 (by kernel_rfl) (by kernel_rfl) (by kernel_rfl) rfl rfl (by kernel_rfl) (fun args w => Sem.pv_run _ _ _ (by kernel_rfl) w) (ixfv_all N) mixed ⟨ixfv_l1_ok N, trivial⟩ (fun z E Xc hE hX hret => trivial) (fun p => ixfv_eq N p.1.1)

def cofv_S (N : Nat) (s : List Int) : Option Bool :=
  (ixfv_S N s).bind fun x_1 =>
  some (decide (0 ≤ x_1))
noncomputable def cofv_sp (N : Nat) : List Spec := [sp_ixfv N]
theorem cofv_all (N : Nat) : AllP (SpecOK Try.prog) (cofv_sp N) := ⟨sp_ixfv_ok N, trivial⟩
noncomputable def cofv_c : Code := (Try.f93.body).getD .skip
noncomputable abbrev cofv_B : Body := { c := cofv_c, n := 9, res := [.tmp 4], outs := [⟨[.b], [.segs [.fn 102 [] []]]⟩], m0 := 1 }
abbrev cofv_rt : altD cofv_B.outs → Option Bool := fun r => some r.1.1
abbrev cofv_st : Sta := ⟨[0, 1], ⟨[.sl (.int .i64), .fn 130 [] [.own 0 0]], [.segs [.fn 102 [] []]]⟩⟩
theorem cofv_eq (N : Nat) (s : List Int) : ev (Z := Bool) Try.prog (cofv_sp N) cofv_B [] [] (some cofv_rt) 400 false [.c [0], .c [1]] (stL cofv_st ((s, ((), ((), ())), ()), ((((), ()), ()), ()))) (stH cofv_st ((s, ((), ((), ())), ()), ((((), ()), ()), ()))) = cofv_S N s := by kernel_rfl
noncomputable def sp_cofv (N : Nat) : Spec := { f := 93, ins := ⟨[.sl (.int .i64), .fn 130 [] [.own 0 0]], [.segs [.fn 102 [] []]]⟩, outs := [⟨[.b], [.segs [.fn 102 [] []]]⟩], run := fun p k => (cofv_S N p.1.1).bind fun r => k ((r, ()), ((((), ()), ()), ())) }
theorem sp_cofv_ok (N : Nat) : SpecOK Try.prog (sp_cofv N) := fn_sound (B := cofv_B) (loops := []) (leaves := []) (fun p => cofv_S N p.1.1) (fun r => ((r, ()), ((((), ()), ()), ()))) cofv_rt (fun _ _ _ => rfl) (fun r z h => by cases h; rfl) Try.func93 (by kernel_rfl) (by kernel_rfl) (by kernel_rfl) rfl rfl (by kernel_rfl) (fun args w => Sem.pv_run _ _ _ (by kernel_rfl) w) (cofv_all N) mixed trivial (fun z E Xc hE hX hret => trivial) (fun p => cofv_eq N p.1.1)

def everyv_S (N : Nat) (l : List Int) : Option Bool :=
  (cofv_S N l).bind fun x_1 =>
  some (!x_1)
noncomputable def everyv_sp (N : Nat) : List Spec := [sp_cofv N]
theorem everyv_all (N : Nat) : AllP (SpecOK Try.prog) (everyv_sp N) := ⟨sp_cofv_ok N, trivial⟩
noncomputable def everyv_c : Code := (Try.f101.body).getD .skip
noncomputable abbrev everyv_B : Body := { c := everyv_c, n := 9, res := [.tmp 4], outs := [⟨[.b], []⟩], m0 := 0 }
abbrev everyv_rt : altD everyv_B.outs → Option Bool := fun r => some r.1.1
abbrev everyv_st : Sta := ⟨[0, 1], ⟨[.sl (.int .i64), .fn 102 [] []], []⟩⟩
theorem everyv_eq (N : Nat) (l : List Int) : ev (Z := Bool) Try.prog (everyv_sp N) everyv_B [] [] (some everyv_rt) 400 false [.c [0], .c [1]] (stL everyv_st ((l, ((), ()), ()), ())) (stH everyv_st ((l, ((), ()), ()), ())) = everyv_S N l := by kernel_rfl
noncomputable def sp_everyv (N : Nat) : Spec := { f := 101, ins := ⟨[.sl (.int .i64), .fn 102 [] []], []⟩, outs := [⟨[.b], []⟩], run := fun p k => (everyv_S N p.1.1).bind fun r => k ((r, ()), ()) }
theorem sp_everyv_ok (N : Nat) : SpecOK Try.prog (sp_everyv N) := fn_sound (B := everyv_B) (loops := []) (leaves := []) (fun p => everyv_S N p.1.1) (fun r => ((r, ()), ())) everyv_rt (fun _ _ _ => rfl) (fun r z h => by cases h; rfl) Try.func101 (by kernel_rfl) (by kernel_rfl) (by kernel_rfl) rfl rfl (by kernel_rfl) (fun args w => Sem.pv_run _ _ _ (by kernel_rfl) w) (everyv_all N) mixed trivial (fun z E Xc hE hX hret => trivial) (fun p => everyv_eq N p.1.1)

def check2_S (N : Nat) (l : List Int) : Option Bool :=
  (everyv_S N l).bind fun x_1 =>
  some x_1
noncomputable def check2_sp (N : Nat) : List Spec := [sp_everyv N]
theorem check2_all (N : Nat) : AllP (SpecOK Try.prog) (check2_sp N) := ⟨sp_everyv_ok N, trivial⟩
noncomputable def check2_c : Code := (Try.f100.body).getD .skip
noncomputable abbrev check2_B : Body := { c := check2_c, n := 5, res := [.tmp 2], outs := [⟨[.b], []⟩], m0 := 0 }
abbrev check2_rt : altD check2_B.outs → Option Bool := fun r => some r.1.1
abbrev check2_st : Sta := ⟨[0], ⟨[.sl (.int .i64)], []⟩⟩
theorem check2_eq (N : Nat) (l : List Int) : ev (Z := Bool) Try.prog (check2_sp N) check2_B [] [] (some check2_rt) 400 false [.c [0], .c [1]] (stL check2_st ((l, ()), ())) (stH check2_st ((l, ()), ())) = check2_S N l := by kernel_rfl
noncomputable def sp_check2 (N : Nat) : Spec := { f := 100, ins := ⟨[.sl (.int .i64)], []⟩, outs := [⟨[.b], []⟩], run := fun p k => (check2_S N p.1.1).bind fun r => k ((r, ()), ()) }
theorem sp_check2_ok (N : Nat) : SpecOK Try.prog (sp_check2 N) := fn_sound (B := check2_B) (loops := []) (leaves := []) (fun p => check2_S N p.1.1) (fun r => ((r, ()), ())) check2_rt (fun _ _ _ => rfl) (fun r z h => by cases h; rfl) Try.func100 (by kernel_rfl) (by kernel_rfl) (by kernel_rfl) rfl rfl (by kernel_rfl) (fun args w => Sem.pv_run _ _ _ (by kernel_rfl) w) (check2_all N) mixed trivial (fun z E Xc hE hX hret => trivial) (fun p => check2_eq N p.1.1)

def every1lo_S (N : Nat) (x : List Int) (g : Qm) : Option (Bool × Qm) :=
  (check1_S N x g).bind fun x_1 =>
  some ((!x_1), g)
noncomputable def every1lo_sp (N : Nat) : List Spec := [sp_check1 N]
theorem every1lo_all (N : Nat) : AllP (SpecOK Try.prog) (every1lo_sp N) := ⟨sp_check1_ok N, trivial⟩
noncomputable def every1lo_c : Code := (Try.f131.body).getD .skip
noncomputable abbrev every1lo_B : Body := { c := every1lo_c, n := 8, res := [.tmp 3], outs := [⟨[.b], [.segs [.fn 99 [] [.fe Qn]]]⟩], m0 := 1 }
abbrev every1lo_rt : altD every1lo_B.outs → Option (Bool × Qm) := fun r => some (r.1.1, r.2.1.1.2.1)
abbrev every1lo_st : Sta := ⟨[0, 1], ⟨[.sl (.int .i64), .own 0 0], [.segs [.fn 99 [] [.fe Qn]]]⟩⟩
theorem every1lo_eq (N : Nat) (x : List Int) (g : Qm) : ev (Z := Bool × Qm) Try.prog (every1lo_sp N) every1lo_B [] [] (some every1lo_rt) 400 false [.c [0], .c [1]] (stL every1lo_st ((x, (), ()), ((((), (g, ())), ()), ()))) (stH every1lo_st ((x, (), ()), ((((), (g, ())), ()), ()))) = every1lo_S N x g := by kernel_rfl
noncomputable def sp_every1lo (N : Nat) : Spec := { f := 131, ins := ⟨[.sl (.int .i64), .own 0 0], [.segs [.fn 99 [] [.fe Qn]]]⟩, outs := [⟨[.b], [.segs [.fn 99 [] [.fe Qn]]]⟩], run := fun p k => (every1lo_S N p.1.1 p.2.1.1.2.1).bind fun r => k ((r.1, ()), ((((), (r.2, ())), ()), ())) }
theorem sp_every1lo_ok (N : Nat) : SpecOK Try.prog (sp_every1lo N) := fn_sound (B := every1lo_B) (loops := []) (leaves := []) (fun p => every1lo_S N p.1.1 p.2.1.1.2.1) (fun r => ((r.1, ()), ((((), (r.2, ())), ()), ()))) every1lo_rt (fun _ _ _ => rfl) (fun r z h => by cases h; rfl) Try.func131 (by kernel_rfl) (by kernel_rfl) (by kernel_rfl) rfl rfl (by kernel_rfl) (fun args w => Sem.pv_run _ _ _ (by kernel_rfl) w) (every1lo_all N) mixed trivial (fun z E Xc hE hX hret => trivial) (fun p => every1lo_eq N p.1.1 p.2.1.1.2.1)

def ixflo_l1 (N : Nat) : Nat → Qw → Int → Int → (Qm) → Option ((Int × Qm) ⊕ (Qm))
  | 0, _, _, _, _ => none
  | n_ + 1, s, u, u2, f =>
    br (decide (u2 < u))
      (idx s u2 fun x_1 =>
      (every1lo_S N x_1 f).bind fun (x_2, y_3) =>
      br x_2
        (some (.inl (u2, y_3)))
        (chk (u2 + 1) <|
        ixflo_l1 N n_ s u (u2 + 1) y_3))
      (some (.inr f))
def ixflo_S (N : Nat) (s : List Qe) (f : Qm) : Option (Int × Qm) :=
  (ixflo_l1 N N s (s.length : Int) 0 f).bind fun e => match e with
  | .inl (i_4, g_5) =>
    some (i_4, g_5)
  | .inr g_6 =>
    some (-1, g_6)
noncomputable def ixflo_sp (N : Nat) : List Spec := [sp_every1lo N]
theorem ixflo_all (N : Nat) : AllP (SpecOK Try.prog) (ixflo_sp N) := ⟨sp_every1lo_ok N, trivial⟩
noncomputable def ixflo_c : Code := (Try.f141.body).getD .skip
noncomputable abbrev ixflo_B : Body := { c := ixflo_c, n := 19, res := [.tmp 4], outs := [⟨[.i .i64], [.segs [.fn 99 [] [.fe Qn]]]⟩], m0 := 1 }
abbrev ixflo_rt : altD ixflo_B.outs → Option (Int × Qm) := fun r => some (r.1.1, r.2.1.1.2.1)
abbrev ixflo_l1_at : List PI := [.c [1, 0, 1, 0, 0, 0], .c [1, 0, 1, 0, 0, 1], .l [1, 0, 1, 0, 0], .b 0, .c [1, 1]]
abbrev ixflo_l1_st : Sta := ⟨[0, 1, 7, 8], ⟨[.sl Qd, .fn 131 [] [.own 0 0], .i .i64, .i .i64], [.segs [.fn 99 [] [.fe Qn]]]⟩⟩
abbrev ixflo_l1_h (rec : Qw → Int → Int → (Qm) → Option ((Int × Qm) ⊕ (Qm))) : Leaf ((Int × Qm) ⊕ (Qm)) := ⟨ixflo_l1_at, ixflo_l1_st, fun p => rec p.1.1 p.1.2.2.1 p.1.2.2.2.1 p.2.1.1.2.1⟩
abbrev ixflo_l1_e0 : Leaf ((Int × Qm) ⊕ (Qm)) := ⟨[.c [1, 0, 1, 0, 0, 1, 1, 0, 0, 1, 1, 0, 0], .c [1, 0, 1, 0, 0, 1, 1, 0, 0, 1, 1, 0, 1], .b 1, .c [1, 0, 1, 0, 0, 1, 1, 1], .l [1, 0, 1, 0, 0], .b 0, .c [1, 1]], ⟨[5], ⟨[.i .i64], [.segs [.fn 99 [] [.fe Qn]]]⟩⟩, fun p => some (.inl (p.1.1, p.2.1.1.2.1))⟩
abbrev ixflo_l1_e1 : Leaf ((Int × Qm) ⊕ (Qm)) := ⟨[.c [1, 1, 0], .c [1, 1, 1]], ⟨[], ⟨[], [.segs [.fn 99 [] [.fe Qn]]]⟩⟩, fun p => some (.inr p.2.1.1.2.1)⟩
noncomputable def ixflo_l1_L (N : Nat) : LoopS := { at_ := ixflo_l1_at, sta := ixflo_l1_st, exits := [([.c [1, 0, 1, 0, 0, 1, 1, 0, 0, 1, 1, 0, 0], .c [1, 0, 1, 0, 0, 1, 1, 0, 0, 1, 1, 0, 1], .b 1, .c [1, 0, 1, 0, 0, 1, 1, 1], .l [1, 0, 1, 0, 0], .b 0, .c [1, 1]], ⟨[5], ⟨[.i .i64], [.segs [.fn 99 [] [.fe Qn]]]⟩⟩), ([.c [1, 1, 0], .c [1, 1, 1]], ⟨[], ⟨[], [.segs [.fn 99 [] [.fe Qn]]]⟩⟩)], run := fun p k => (ixflo_l1 N N p.1.1 p.1.2.2.1 p.1.2.2.2.1 p.2.1.1.2.1).bind fun e => match e with | .inl x => k (.inl ((x.1, ()), ((((), (x.2, ())), ()), ()))) | .inr x => k (.inr (.inl ((), ((((), (x, ())), ()), ())))) }
theorem ixflo_l1_eq (N n_ : Nat) (s : List Qe) (u : Int) (u2 : Int) (f : Qm) : ev (Z := (Int × Qm) ⊕ (Qm)) Try.prog (ixflo_sp N) ixflo_B [] [ixflo_l1_h (ixflo_l1 N n_), ixflo_l1_e0, ixflo_l1_e1] none 400 true ixflo_l1_at (stL ixflo_l1_st ((s, ((), ((), ())), u, u2, ()), ((((), (f, ())), ()), ()))) (stH ixflo_l1_st ((s, ((), ((), ())), u, u2, ()), ((((), (f, ())), ()), ()))) = ixflo_l1 N (n_ + 1) s u u2 f := by kernel_rfl
theorem ixflo_l1_ok (N : Nat) {top : Bool} : LoopOK Try.prog ixflo_B.c ixflo_B.n ixflo_B.m0 top (ixflo_l1_L N) := loop_of_ev (Z := (Int × Qm) ⊕ (Qm)) (N := N) (fun m p => ixflo_l1 N m p.1.1 p.1.2.2.1 p.1.2.2.2.1 p.2.1.1.2.1) (fun e => match e with | .inl x => .inl ((x.1, ()), ((((), (x.2, ())), ()), ())) | .inr x => .inr (.inl ((), ((((), (x, ())), ()), ())))) (fun _ p k => bind_congr_ (ixflo_l1 N N p.1.1 p.1.2.2.1 p.1.2.2.2.1 p.2.1.1.2.1) _ _ (fun e => by rcases e with x | x <;> rfl)) (fun _ => rfl) (fun m z E Xc hE hX hrec hx => leaf_of_ev (B := ixflo_B) (loops := []) (leaves := [ixflo_l1_h (ixflo_l1 N m), ixflo_l1_e0, ixflo_l1_e1]) (ixflo_all N) mixed trivial hE hX ⟨hrec, (fun p hp => by obtain rfl := Option.some.inj hp; exact hx), (fun p hp => by obtain rfl := Option.some.inj hp; exact hx), trivial⟩ RetOK.no (fun p => ixflo_l1_eq N m p.1.1 p.1.2.2.1 p.1.2.2.2.1 p.2.1.1.2.1))
abbrev ixflo_st : Sta := ⟨[0, 1], ⟨[.sl Qd, .fn 131 [] [.own 0 0]], [.segs [.fn 99 [] [.fe Qn]]]⟩⟩
theorem ixflo_eq (N : Nat) (s : List Qe) (f : Qm) : ev (Z := Int × Qm) Try.prog (ixflo_sp N) ixflo_B [ixflo_l1_L N] [] (some ixflo_rt) 400 false [.c [0], .c [1]] (stL ixflo_st ((s, ((), ((), ())), ()), ((((), (f, ())), ()), ()))) (stH ixflo_st ((s, ((), ((), ())), ()), ((((), (f, ())), ()), ()))) = ixflo_S N s f := by kernel_rfl
noncomputable def sp_ixflo (N : Nat) : Spec := { f := 141, ins := ⟨[.sl Qd, .fn 131 [] [.own 0 0]], [.segs [.fn 99 [] [.fe Qn]]]⟩, outs := [⟨[.i .i64], [.segs [.fn 99 [] [.fe Qn]]]⟩], run := fun p k => (ixflo_S N p.1.1 p.2.1.1.2.1).bind fun r => k ((r.1, ()), ((((), (r.2, ())), ()), ())) }
theorem sp_ixflo_ok (N : Nat) : SpecOK Try.prog (sp_ixflo N) := fn_sound (B := ixflo_B) (loops := [ixflo_l1_L N]) (leaves := []) (fun p => ixflo_S N p.1.1 p.2.1.1.2.1) (fun r => ((r.1, ()), ((((), (r.2, ())), ()), ()))) ixflo_rt (fun _ _ _ => rfl) (fun r z h => by cases h; rfl) Try.func141 (by kernel_rfl) (by kernel_rfl) (by kernel_rfl) rfl rfl (by kernel_rfl) (fun args w => Sem.pv_run _ _ _ (by kernel_rfl) w) (ixflo_all N) mixed ⟨ixflo_l1_ok N, trivial⟩ (fun z E Xc hE hX hret => trivial) (fun p => ixflo_eq N p.1.1 p.2.1.1.2.1)

def coflo_S (N : Nat) (s : List Qe) (f : Qm) : Option (Bool × Qm) :=
  (ixflo_S N s f).bind fun (x_1, y_2) =>
  some ((decide (0 ≤ x_1)), y_2)
noncomputable def coflo_sp (N : Nat) : List Spec := [sp_ixflo N]
theorem coflo_all (N : Nat) : AllP (SpecOK Try.prog) (coflo_sp N) := ⟨sp_ixflo_ok N, trivial⟩
noncomputable def coflo_c : Code := (Try.f125.body).getD .skip
noncomputable abbrev coflo_B : Body := { c := coflo_c, n := 9, res := [.tmp 4], outs := [⟨[.b], [.segs [.fn 99 [] [.fe Qn]]]⟩], m0 := 1 }
abbrev coflo_rt : altD coflo_B.outs → Option (Bool × Qm) := fun r => some (r.1.1, r.2.1.1.2.1)
abbrev coflo_st : Sta := ⟨[0, 1], ⟨[.sl Qd, .fn 131 [] [.own 0 0]], [.segs [.fn 99 [] [.fe Qn]]]⟩⟩
theorem coflo_eq (N : Nat) (s : List Qe) (f : Qm) : ev (Z := Bool × Qm) Try.prog (coflo_sp N) coflo_B [] [] (some coflo_rt) 400 false [.c [0], .c [1]] (stL coflo_st ((s, ((), ((), ())), ()), ((((), (f, ())), ()), ()))) (stH coflo_st ((s, ((), ((), ())), ()), ((((), (f, ())), ()), ()))) = coflo_S N s f := by kernel_rfl
noncomputable def sp_coflo (N : Nat) : Spec := { f := 125, ins := ⟨[.sl Qd, .fn 131 [] [.own 0 0]], [.segs [.fn 99 [] [.fe Qn]]]⟩, outs := [⟨[.b], [.segs [.fn 99 [] [.fe Qn]]]⟩], run := fun p k => (coflo_S N p.1.1 p.2.1.1.2.1).bind fun r => k ((r.1, ()), ((((), (r.2, ())), ()), ())) }
theorem sp_coflo_ok (N : Nat) : SpecOK Try.prog (sp_coflo N) := fn_sound (B := coflo_B) (loops := []) (leaves := []) (fun p => coflo_S N p.1.1 p.2.1.1.2.1) (fun r => ((r.1, ()), ((((), (r.2, ())), ()), ()))) coflo_rt (fun _ _ _ => rfl) (fun r z h => by cases h; rfl) Try.func125 (by kernel_rfl) (by kernel_rfl) (by kernel_rfl) rfl rfl (by kernel_rfl) (fun args w => Sem.pv_run _ _ _ (by kernel_rfl) w) (coflo_all N) mixed trivial (fun z E Xc hE hX hret => trivial) (fun p => coflo_eq N p.1.1 p.2.1.1.2.1)

def everylo_S (N : Nat) (l : List Qe) (holds : Qm) : Option Bool :=
  (coflo_S N l holds).bind fun (x_1, y_2) =>
  some (!x_1)
noncomputable def everylo_sp (N : Nat) : List Spec := [sp_coflo N]
theorem everylo_all (N : Nat) : AllP (SpecOK Try.prog) (everylo_sp N) := ⟨sp_coflo_ok N, trivial⟩
noncomputable def everylo_c : Code := (Try.f103.body).getD .skip
noncomputable abbrev everylo_B : Body := { c := everylo_c, n := 9, res := [.tmp 4], outs := [⟨[.b], []⟩], m0 := 0 }
abbrev everylo_rt : altD everylo_B.outs → Option Bool := fun r => some r.1.1
abbrev everylo_st : Sta := ⟨[0, 1], ⟨[.sl Qd, .fn 99 [] [.fe Qn]], []⟩⟩
theorem everylo_eq (N : Nat) (l : List Qe) (holds : Qm) : ev (Z := Bool) Try.prog (everylo_sp N) everylo_B [] [] (some everylo_rt) 400 false [.c [0], .c [1]] (stL everylo_st ((l, ((), (holds, ())), ()), ())) (stH everylo_st ((l, ((), (holds, ())), ()), ())) = everylo_S N l holds := by kernel_rfl
noncomputable def sp_everylo (N : Nat) : Spec := { f := 103, ins := ⟨[.sl Qd, .fn 99 [] [.fe Qn]], []⟩, outs := [⟨[.b], []⟩], run := fun p k => (everylo_S N p.1.1 p.1.2.1.2.1).bind fun r => k ((r, ()), ()) }
theorem sp_everylo_ok (N : Nat) : SpecOK Try.prog (sp_everylo N) := fn_sound (B := everylo_B) (loops := []) (leaves := []) (fun p => everylo_S N p.1.1 p.1.2.1.2.1) (fun r => ((r, ()), ())) everylo_rt (fun _ _ _ => rfl) (fun r z h => by cases h; rfl) Try.func103 (by kernel_rfl) (by kernel_rfl) (by kernel_rfl) rfl rfl (by kernel_rfl) (fun args w => Sem.pv_run _ _ _ (by kernel_rfl) w) (everylo_all N) mixed trivial (fun z E Xc hE hX hret => trivial) (fun p => everylo_eq N p.1.1 p.1.2.1.2.1)

def every1va_S (N : Nat) (x : List Int) : Option Bool :=
  (check2_S N x).bind fun x_1 =>
  some (!x_1)
noncomputable def every1va_sp (N : Nat) : List Spec := [sp_check2 N]
theorem every1va_all (N : Nat) : AllP (SpecOK Try.prog) (every1va_sp N) := ⟨sp_check2_ok N, trivial⟩
noncomputable def every1va_c : Code := (Try.f131.body).getD .skip
noncomputable abbrev every1va_B : Body := { c := every1va_c, n := 8, res := [.tmp 3], outs := [⟨[.b], [.segs [.fn 100 [] []]]⟩], m0 := 1 }
abbrev every1va_rt : altD every1va_B.outs → Option Bool := fun r => some r.1.1
abbrev every1va_st : Sta := ⟨[0, 1], ⟨[.sl (.int .i64), .own 0 0], [.segs [.fn 100 [] []]]⟩⟩
theorem every1va_eq (N : Nat) (x : List Int) : ev (Z := Bool) Try.prog (every1va_sp N) every1va_B [] [] (some every1va_rt) 400 false [.c [0], .c [1]] (stL every1va_st ((x, (), ()), ((((), ()), ()), ()))) (stH every1va_st ((x, (), ()), ((((), ()), ()), ()))) = every1va_S N x := by kernel_rfl
noncomputable def sp_every1va (N : Nat) : Spec := { f := 131, ins := ⟨[.sl (.int .i64), .own 0 0], [.segs [.fn 100 [] []]]⟩, outs := [⟨[.b], [.segs [.fn 100 [] []]]⟩], run := fun p k => (every1va_S N p.1.1).bind fun r => k ((r, ()), ((((), ()), ()), ())) }
theorem sp_every1va_ok (N : Nat) : SpecOK Try.prog (sp_every1va N) := fn_sound (B := every1va_B) (loops := []) (leaves := []) (fun p => every1va_S N p.1.1) (fun r => ((r, ()), ((((), ()), ()), ()))) every1va_rt (fun _ _ _ => rfl) (fun r z h => by cases h; rfl) Try.func131 (by kernel_rfl) (by kernel_rfl) (by kernel_rfl) rfl rfl (by kernel_rfl) (fun args w => Sem.pv_run _ _ _ (by kernel_rfl) w) (every1va_all N) mixed trivial (fun z E Xc hE hX hret => trivial) (fun p => every1va_eq N p.1.1)

def ixfva_l1 (N : Nat) : Nat → Qw → Int → Int → Option ((Int) ⊕ (Unit))
  | 0, _, _, _ => none
  | n_ + 1, s, u, u2 =>
    br (decide (u2 < u))
      (idx s u2 fun x_1 =>
      (every1va_S N x_1).bind fun x_2 =>
      br x_2
        (some (.inl u2))
        (chk (u2 + 1) <|
        ixfva_l1 N n_ s u (u2 + 1)))
      (some (.inr ()))
def ixfva_S (N : Nat) (s : List Qe) : Option Int :=
  (ixfva_l1 N N s (s.length : Int) 0).bind fun e => match e with
  | .inl i_3 =>
    some i_3
  | .inr _ =>
    some (-1)
noncomputable def ixfva_sp (N : Nat) : List Spec := [sp_every1va N]
theorem ixfva_all (N : Nat) : AllP (SpecOK Try.prog) (ixfva_sp N) := ⟨sp_every1va_ok N, trivial⟩
noncomputable def ixfva_c : Code := (Try.f141.body).getD .skip
noncomputable abbrev ixfva_B : Body := { c := ixfva_c, n := 19, res := [.tmp 4], outs := [⟨[.i .i64], [.segs [.fn 100 [] []]]⟩], m0 := 1 }
abbrev ixfva_rt : altD ixfva_B.outs → Option Int := fun r => some r.1.1
abbrev ixfva_l1_at : List PI := [.c [1, 0, 1, 0, 0, 0], .c [1, 0, 1, 0, 0, 1], .l [1, 0, 1, 0, 0], .b 0, .c [1, 1]]
abbrev ixfva_l1_st : Sta := ⟨[0, 1, 7, 8], ⟨[.sl Qd, .fn 131 [] [.own 0 0], .i .i64, .i .i64], [.segs [.fn 100 [] []]]⟩⟩
abbrev ixfva_l1_h (rec : Qw → Int → Int → Option ((Int) ⊕ (Unit))) : Leaf ((Int) ⊕ (Unit)) := ⟨ixfva_l1_at, ixfva_l1_st, fun p => rec p.1.1 p.1.2.2.1 p.1.2.2.2.1⟩
abbrev ixfva_l1_e0 : Leaf ((Int) ⊕ (Unit)) := ⟨[.c [1, 0, 1, 0, 0, 1, 1, 0, 0, 1, 1, 0, 0], .c [1, 0, 1, 0, 0, 1, 1, 0, 0, 1, 1, 0, 1], .b 1, .c [1, 0, 1, 0, 0, 1, 1, 1], .l [1, 0, 1, 0, 0], .b 0, .c [1, 1]], ⟨[5], ⟨[.i .i64], [.segs [.fn 100 [] []]]⟩⟩, fun p => some (.inl p.1.1)⟩
abbrev ixfva_l1_e1 : Leaf ((Int) ⊕ (Unit)) := ⟨[.c [1, 1, 0], .c [1, 1, 1]], ⟨[], ⟨[], [.segs [.fn 100 [] []]]⟩⟩, fun p => some (.inr ())⟩
noncomputable def ixfva_l1_L (N : Nat) : LoopS := { at_ := ixfva_l1_at, sta := ixfva_l1_st, exits := [([.c [1, 0, 1, 0, 0, 1, 1, 0, 0, 1, 1, 0, 0], .c [1, 0, 1, 0, 0, 1, 1, 0, 0, 1, 1, 0, 1], .b 1, .c [1, 0, 1, 0, 0, 1, 1, 1], .l [1, 0, 1, 0, 0], .b 0, .c [1, 1]], ⟨[5], ⟨[.i .i64], [.segs [.fn 100 [] []]]⟩⟩), ([.c [1, 1, 0], .c [1, 1, 1]], ⟨[], ⟨[], [.segs [.fn 100 [] []]]⟩⟩)], run := fun p k => (ixfva_l1 N N p.1.1 p.1.2.2.1 p.1.2.2.2.1).bind fun e => match e with | .inl x => k (.inl ((x, ()), ((((), ()), ()), ()))) | .inr x => k (.inr (.inl ((), ((((), ()), ()), ())))) }
theorem ixfva_l1_eq (N n_ : Nat) (s : List Qe) (u : Int) (u2 : Int) : ev (Z := (Int) ⊕ (Unit)) Try.prog (ixfva_sp N) ixfva_B [] [ixfva_l1_h (ixfva_l1 N n_), ixfva_l1_e0, ixfva_l1_e1] none 400 true ixfva_l1_at (stL ixfva_l1_st ((s, ((), ((), ())), u, u2, ()), ((((), ()), ()), ()))) (stH ixfva_l1_st ((s, ((), ((), ())), u, u2, ()), ((((), ()), ()), ()))) = ixfva_l1 N (n_ + 1) s u u2 := by kernel_rfl
theorem ixfva_l1_ok (N : Nat) {top : Bool} : LoopOK Try.prog ixfva_B.c ixfva_B.n ixfva_B.m0 top (ixfva_l1_L N) := loop_of_ev (Z := (Int) ⊕ (Unit)) (N := N) (fun m p => ixfva_l1 N m p.1.1 p.1.2.2.1 p.1.2.2.2.1) (fun e => match e with | .inl x => .inl ((x, ()), ((((), ()), ()), ())) | .inr x => .inr (.inl ((), ((((), ()), ()), ())))) (fun _ p k => bind_congr_ (ixfva_l1 N N p.1.1 p.1.2.2.1 p.1.2.2.2.1) _ _ (fun e => by rcases e with x | x <;> rfl)) (fun _ => rfl) (fun m z E Xc hE hX hrec hx => leaf_of_ev (B := ixfva_B) (loops := []) (leaves := [ixfva_l1_h (ixfva_l1 N m), ixfva_l1_e0, ixfva_l1_e1]) (ixfva_all N) mixed trivial hE hX ⟨hrec, (fun p hp => by obtain rfl := Option.some.inj hp; exact hx), (fun p hp => by obtain rfl := Option.some.inj hp; exact hx), trivial⟩ RetOK.no (fun p => ixfva_l1_eq N m p.1.1 p.1.2.2.1 p.1.2.2.2.1))
abbrev ixfva_st : Sta := ⟨[0, 1], ⟨[.sl Qd, .fn 131 [] [.own 0 0]], [.segs [.fn 100 [] []]]⟩⟩
theorem ixfva_eq (N : Nat) (s : List Qe) : ev (Z := Int) Try.prog (ixfva_sp N) ixfva_B [ixfva_l1_L N] [] (some ixfva_rt) 400 false [.c [0], .c [1]] (stL ixfva_st ((s, ((), ((), ())), ()), ((((), ()), ()), ()))) (stH ixfva_st ((s, ((), ((), ())), ()), ((((), ()), ()), ()))) = ixfva_S N s := by kernel_rfl
noncomputable def sp_ixfva (N : Nat) : Spec := { f := 141, ins := ⟨[.sl Qd, .fn 131 [] [.own 0 0]], [.segs [.fn 100 [] []]]⟩, outs := [⟨[.i .i64], [.segs [.fn 100 [] []]]⟩], run := fun p k => (ixfva_S N p.1.1).bind fun r => k ((r, ()), ((((), ()), ()), ())) }
theorem sp_ixfva_ok (N : Nat) : SpecOK Try.prog (sp_ixfva N) := fn_sound (B := ixfva_B) (loops := [ixfva_l1_L N]) (leaves := []) (fun p => ixfva_S N p.1.1) (fun r => ((r, ()), ((((), ()), ()), ()))) ixfva_rt (fun _ _ _ => rfl) (fun r z h => by cases h; rfl) Try.func141 (by kernel_rfl) (by kernel_rfl) (by kernel_rfl) rfl rfl (by kernel_rfl) (fun args w => Sem.pv_run _ _ _ (by kernel_rfl) w) (ixfva_all N) mixed ⟨ixfva_l1_ok N, trivial⟩ (fun z E Xc hE hX hret => trivial) (fun p => ixfva_eq N p.1.1)

def cofva_S (N : Nat) (s : List Qe) : Option Bool :=
  (ixfva_S N s).bind fun x_1 =>
  some (decide (0 ≤ x_1))
noncomputable def cofva_sp (N : Nat) : List Spec := [sp_ixfva N]
theorem cofva_all (N : Nat) : AllP (SpecOK Try.prog) (cofva_sp N) := ⟨sp_ixfva_ok N, trivial⟩
noncomputable def cofva_c : Code := (Try.f125.body).getD .skip
noncomputable abbrev cofva_B : Body := { c := cofva_c, n := 9, res := [.tmp 4], outs := [⟨[.b], [.segs [.fn 100 [] []]]⟩], m0 := 1 }
abbrev cofva_rt : altD cofva_B.outs → Option Bool := fun r => some r.1.1
abbrev cofva_st : Sta := ⟨[0, 1], ⟨[.sl Qd, .fn 131 [] [.own 0 0]], [.segs [.fn 100 [] []]]⟩⟩
theorem cofva_eq (N : Nat) (s : List Qe) : ev (Z := Bool) Try.prog (cofva_sp N) cofva_B [] [] (some cofva_rt) 400 false [.c [0], .c [1]] (stL cofva_st ((s, ((), ((), ())), ()), ((((), ()), ()), ()))) (stH cofva_st ((s, ((), ((), ())), ()), ((((), ()), ()), ()))) = cofva_S N s := by kernel_rfl
noncomputable def sp_cofva (N : Nat) : Spec := { f := 125, ins := ⟨[.sl Qd, .fn 131 [] [.own 0 0]], [.segs [.fn 100 [] []]]⟩, outs := [⟨[.b], [.segs [.fn 100 [] []]]⟩], run := fun p k => (cofva_S N p.1.1).bind fun r => k ((r, ()), ((((), ()), ()), ())) }
theorem sp_cofva_ok (N : Nat) : SpecOK Try.prog (sp_cofva N) := fn_sound (B := cofva_B) (loops := []) (leaves := []) (fun p => cofva_S N p.1.1) (fun r => ((r, ()), ((((), ()), ()), ()))) cofva_rt (fun _ _ _ => rfl) (fun r z h => by cases h; rfl) Try.func125 (by kernel_rfl) (by kernel_rfl) (by kernel_rfl) rfl rfl (by kernel_rfl) (fun args w => Sem.pv_run _ _ _ (by kernel_rfl) w) (cofva_all N) mixed trivial (fun z E Xc hE hX hret => trivial) (fun p => cofva_eq N p.1.1)

def everyva_S (N : Nat) (l : List Qe) : Option Bool :=
  (cofva_S N l).bind fun x_1 =>
  some (!x_1)
noncomputable def everyva_sp (N : Nat) : List Spec := [sp_cofva N]
theorem everyva_all (N : Nat) : AllP (SpecOK Try.prog) (everyva_sp N) := ⟨sp_cofva_ok N, trivial⟩
noncomputable def everyva_c : Code := (Try.f103.body).getD .skip
noncomputable abbrev everyva_B : Body := { c := everyva_c, n := 9, res := [.tmp 4], outs := [⟨[.b], []⟩], m0 := 0 }
abbrev everyva_rt : altD everyva_B.outs → Option Bool := fun r => some r.1.1
abbrev everyva_st : Sta := ⟨[0, 1], ⟨[.sl Qd, .fn 100 [] []], []⟩⟩
theorem everyva_eq (N : Nat) (l : List Qe) : ev (Z := Bool) Try.prog (everyva_sp N) everyva_B [] [] (some everyva_rt) 400 false [.c [0], .c [1]] (stL everyva_st ((l, ((), ()), ()), ())) (stH everyva_st ((l, ((), ()), ()), ())) = everyva_S N l := by kernel_rfl
noncomputable def sp_everyva (N : Nat) : Spec := { f := 103, ins := ⟨[.sl Qd, .fn 100 [] []], []⟩, outs := [⟨[.b], []⟩], run := fun p k => (everyva_S N p.1.1).bind fun r => k ((r, ()), ()) }
theorem sp_everyva_ok (N : Nat) : SpecOK Try.prog (sp_everyva N) := fn_sound (B := everyva_B) (loops := []) (leaves := []) (fun p => everyva_S N p.1.1) (fun r => ((r, ()), ())) everyva_rt (fun _ _ _ => rfl) (fun r z h => by cases h; rfl) Try.func103 (by kernel_rfl) (by kernel_rfl) (by kernel_rfl) rfl rfl (by kernel_rfl) (fun args w => Sem.pv_run _ _ _ (by kernel_rfl) w) (everyva_all N) mixed trivial (fun z E Xc hE hX hret => trivial) (fun p => everyva_eq N p.1.1)

def check3_S (N : Nat) (n : Int) : Option Bool :=
  (in__S N n 1 9).bind fun x_1 =>
  some x_1
noncomputable def check3_sp (N : Nat) : List Spec := [sp_in_ N]
theorem check3_all (N : Nat) : AllP (SpecOK Try.prog) (check3_sp N) := ⟨sp_in__ok N, trivial⟩
noncomputable def check3_c : Code := (Try.f104.body).getD .skip
noncomputable abbrev check3_B : Body := { c := check3_c, n := 5, res := [.tmp 2], outs := [⟨[.b], []⟩], m0 := 0 }
abbrev check3_rt : altD check3_B.outs → Option Bool := fun r => some r.1.1
abbrev check3_st : Sta := ⟨[0], ⟨[.i .i64], []⟩⟩
theorem check3_eq (N : Nat) (n : Int) : ev (Z := Bool) Try.prog (check3_sp N) check3_B [] [] (some check3_rt) 400 false [.c [0], .c [1]] (stL check3_st ((n, ()), ())) (stH check3_st ((n, ()), ())) = check3_S N n := by kernel_rfl
noncomputable def sp_check3 (N : Nat) : Spec := { f := 104, ins := ⟨[.i .i64], []⟩, outs := [⟨[.b], []⟩], run := fun p k => (check3_S N p.1.1).bind fun r => k ((r, ()), ()) }
theorem sp_check3_ok (N : Nat) : SpecOK Try.prog (sp_check3 N) := fn_sound (B := check3_B) (loops := []) (leaves := []) (fun p => check3_S N p.1.1) (fun r => ((r, ()), ())) check3_rt (fun _ _ _ => rfl) (fun r z h => by cases h; rfl) Try.func104 (by kernel_rfl) (by kernel_rfl) (by kernel_rfl) rfl rfl (by kernel_rfl) (fun args w => Sem.pv_run _ _ _ (by kernel_rfl) w) (check3_all N) mixed trivial (fun z E Xc hE hX hret => trivial) (fun p => check3_eq N p.1.1)

def check4_S (N : Nat) (n : Int) : Option Bool :=
  (in__S N n 0 99).bind fun x_1 =>
  some x_1
noncomputable def check4_sp (N : Nat) : List Spec := [sp_in_ N]
theorem check4_all (N : Nat) : AllP (SpecOK Try.prog) (check4_sp N) := ⟨sp_in__ok N, trivial⟩
noncomputable def check4_c : Code := (Try.f105.body).getD .skip
noncomputable abbrev check4_B : Body := { c := check4_c, n := 5, res := [.tmp 2], outs := [⟨[.b], []⟩], m0 := 0 }
abbrev check4_rt : altD check4_B.outs → Option Bool := fun r => some r.1.1
abbrev check4_st : Sta := ⟨[0], ⟨[.i .i64], []⟩⟩
theorem check4_eq (N : Nat) (n : Int) : ev (Z := Bool) Try.prog (check4_sp N) check4_B [] [] (some check4_rt) 400 false [.c [0], .c [1]] (stL check4_st ((n, ()), ())) (stH check4_st ((n, ()), ())) = check4_S N n := by kernel_rfl
noncomputable def sp_check4 (N : Nat) : Spec := { f := 105, ins := ⟨[.i .i64], []⟩, outs := [⟨[.b], []⟩], run := fun p k => (check4_S N p.1.1).bind fun r => k ((r, ()), ()) }
theorem sp_check4_ok (N : Nat) : SpecOK Try.prog (sp_check4 N) := fn_sound (B := check4_B) (loops := []) (leaves := []) (fun p => check4_S N p.1.1) (fun r => ((r, ()), ())) check4_rt (fun _ _ _ => rfl) (fun r z h => by cases h; rfl) Try.func105 (by kernel_rfl) (by kernel_rfl) (by kernel_rfl) rfl rfl (by kernel_rfl) (fun args w => Sem.pv_run _ _ _ (by kernel_rfl) w) (check4_all N) mixed trivial (fun z E Xc hE hX hret => trivial) (fun p => check4_eq N p.1.1)

def every1w_S (N : Nat) (x : Int) : Option Bool :=
  (check3_S N x).bind fun x_1 =>
  some (!x_1)
noncomputable def every1w_sp (N : Nat) : List Spec := [sp_check3 N]
theorem every1w_all (N : Nat) : AllP (SpecOK Try.prog) (every1w_sp N) := ⟨sp_check3_ok N, trivial⟩
noncomputable def every1w_c : Code := (Try.f130.body).getD .skip
noncomputable abbrev every1w_B : Body := { c := every1w_c, n := 8, res := [.tmp 3], outs := [⟨[.b], [.segs [.fn 104 [] []]]⟩], m0 := 1 }
abbrev every1w_rt : altD every1w_B.outs → Option Bool := fun r => some r.1.1
abbrev every1w_st : Sta := ⟨[0, 1], ⟨[.i .i64, .own 0 0], [.segs [.fn 104 [] []]]⟩⟩
theorem every1w_eq (N : Nat) (x : Int) : ev (Z := Bool) Try.prog (every1w_sp N) every1w_B [] [] (some every1w_rt) 400 false [.c [0], .c [1]] (stL every1w_st ((x, (), ()), ((((), ()), ()), ()))) (stH every1w_st ((x, (), ()), ((((), ()), ()), ()))) = every1w_S N x := by kernel_rfl
noncomputable def sp_every1w (N : Nat) : Spec := { f := 130, ins := ⟨[.i .i64, .own 0 0], [.segs [.fn 104 [] []]]⟩, outs := [⟨[.b], [.segs [.fn 104 [] []]]⟩], run := fun p k => (every1w_S N p.1.1).bind fun r => k ((r, ()), ((((), ()), ()), ())) }
theorem sp_every1w_ok (N : Nat) : SpecOK Try.prog (sp_every1w N) := fn_sound (B := every1w_B) (loops := []) (leaves := []) (fun p => every1w_S N p.1.1) (fun r => ((r, ()), ((((), ()), ()), ()))) every1w_rt (fun _ _ _ => rfl) (fun r z h => by cases h; rfl) Try.func130 (by kernel_rfl) (by kernel_rfl) (by kernel_rfl) rfl rfl (by kernel_rfl) (fun args w => Sem.pv_run _ _ _ (by kernel_rfl) w) (every1w_all N) mixed trivial (fun z E Xc hE hX hret => trivial) (fun p => every1w_eq N p.1.1)

def ixfw_l1 (N : Nat) : Nat → Qe → Int → Int → Option ((Int) ⊕ (Unit))
  | 0, _, _, _ => none
  | n_ + 1, s, u, u2 =>
    br (decide (u2 < u))
      (idx s u2 fun x_1 =>
      (every1w_S N x_1).bind fun x_2 =>
      br x_2
        (some (.inl u2))
        (chk (u2 + 1) <|
        ixfw_l1 N n_ s u (u2 + 1)))
      (some (.inr ()))
def ixfw_S (N : Nat) (s : List Int) : Option Int :=
  (ixfw_l1 N N s (s.length : Int) 0).bind fun e => match e with
  | .inl i_3 =>
    some i_3
  | .inr _ =>
    some (-1)
noncomputable def ixfw_sp (N : Nat) : List Spec := [sp_every1w N]
theorem ixfw_all (N : Nat) : AllP (SpecOK Try.prog) (ixfw_sp N) := ⟨sp_every1w_ok N, trivial⟩
noncomputable def ixfw_c : Code := (Try.f80.body).getD .skip
noncomputable abbrev ixfw_B : Body := { c := ixfw_c, n := 19, res := [.tmp 4], outs := [⟨[.i .i64], [.segs [.fn 104 [] []]]⟩], m0 := 1 }
abbrev ixfw_rt : altD ixfw_B.outs → Option Int := fun r => some r.1.1
abbrev ixfw_l1_at : List PI := [.c [1, 0, 1, 0, 0, 0], .c [1, 0, 1, 0, 0, 1], .l [1, 0, 1, 0, 0], .b 0, .c [1, 1]]
abbrev ixfw_l1_st : Sta := ⟨[0, 1, 7, 8], ⟨[.sl (.int .i64), .fn 130 [] [.own 0 0], .i .i64, .i .i64], [.segs [.fn 104 [] []]]⟩⟩
abbrev ixfw_l1_h (rec : Qe → Int → Int → Option ((Int) ⊕ (Unit))) : Leaf ((Int) ⊕ (Unit)) := ⟨ixfw_l1_at, ixfw_l1_st, fun p => rec p.1.1 p.1.2.2.1 p.1.2.2.2.1⟩
abbrev ixfw_l1_e0 : Leaf ((Int) ⊕ (Unit)) := ⟨[.c [1, 0, 1, 0, 0, 1, 1, 0, 0, 1, 1, 0, 0], .c [1, 0, 1, 0, 0, 1, 1, 0, 0, 1, 1, 0, 1], .b 1, .c [1, 0, 1, 0, 0, 1, 1, 1], .l [1, 0, 1, 0, 0], .b 0, .c [1, 1]], ⟨[5], ⟨[.i .i64], [.segs [.fn 104 [] []]]⟩⟩, fun p => some (.inl p.1.1)⟩
abbrev ixfw_l1_e1 : Leaf ((Int) ⊕ (Unit)) := ⟨[.c [1, 1, 0], .c [1, 1, 1]], ⟨[], ⟨[], [.segs [.fn 104 [] []]]⟩⟩, fun p => some (.inr ())⟩
noncomputable def ixfw_l1_L (N : Nat) : LoopS := { at_ := ixfw_l1_at, sta := ixfw_l1_st, exits := [([.c [1, 0, 1, 0, 0, 1, 1, 0, 0, 1, 1, 0, 0], .c [1, 0, 1, 0, 0, 1, 1, 0, 0, 1, 1, 0, 1], .b 1, .c [1, 0, 1, 0, 0, 1, 1, 1], .l [1, 0, 1, 0, 0], .b 0, .c [1, 1]], ⟨[5], ⟨[.i .i64], [.segs [.fn 104 [] []]]⟩⟩), ([.c [1, 1, 0], .c [1, 1, 1]], ⟨[], ⟨[], [.segs [.fn 104 [] []]]⟩⟩)], run := fun p k => (ixfw_l1 N N p.1.1 p.1.2.2.1 p.1.2.2.2.1).bind fun e => match e with | .inl x => k (.inl ((x, ()), ((((), ()), ()), ()))) | .inr x => k (.inr (.inl ((), ((((), ()), ()), ())))) }
theorem ixfw_l1_eq (N n_ : Nat) (s : List Int) (u : Int) (u2 : Int) : ev (Z := (Int) ⊕ (Unit)) Try.prog (ixfw_sp N) ixfw_B [] [ixfw_l1_h (ixfw_l1 N n_), ixfw_l1_e0, ixfw_l1_e1] none 400 true ixfw_l1_at (stL ixfw_l1_st ((s, ((), ((), ())), u, u2, ()), ((((), ()), ()), ()))) (stH ixfw_l1_st ((s, ((), ((), ())), u, u2, ()), ((((), ()), ()), ()))) = ixfw_l1 N (n_ + 1) s u u2 := by kernel_rfl
theorem ixfw_l1_ok (N : Nat) {top : Bool} : LoopOK Try.prog ixfw_B.c ixfw_B.n ixfw_B.m0 top (ixfw_l1_L N) := loop_of_ev (Z := (Int) ⊕ (Unit)) (N := N) (fun m p => ixfw_l1 N m p.1.1 p.1.2.2.1 p.1.2.2.2.1) (fun e => match e with | .inl x => .inl ((x, ()), ((((), ()), ()), ())) | .inr x => .inr (.inl ((), ((((), ()), ()), ())))) (fun _ p k => bind_congr_ (ixfw_l1 N N p.1.1 p.1.2.2.1 p.1.2.2.2.1) _ _ (fun e => by rcases e with x | x <;> rfl)) (fun _ => rfl) (fun m z E Xc hE hX hrec hx => leaf_of_ev (B := ixfw_B) (loops := []) (leaves := [ixfw_l1_h (ixfw_l1 N m), ixfw_l1_e0, ixfw_l1_e1]) (ixfw_all N) mixed trivial hE hX ⟨hrec, (fun p hp => by obtain rfl := Option.some.inj hp; exact hx), (fun p hp => by obtain rfl := Option.some.inj hp; exact hx), trivial⟩ RetOK.no (fun p => ixfw_l1_eq N m p.1.1 p.1.2.2.1 p.1.2.2.2.1))
abbrev ixfw_st : Sta := ⟨[0, 1], ⟨[.sl (.int .i64), .fn 130 [] [.own 0 0]], [.segs [.fn 104 [] []]]⟩⟩
theorem ixfw_eq (N : Nat) (s : List Int) : ev (Z := Int) Try.prog (ixfw_sp N) ixfw_B [ixfw_l1_L N] [] (some ixfw_rt) 400 false [.c [0], .c [1]] (stL ixfw_st ((s, ((), ((), ())), ()), ((((), ()), ()), ()))) (stH ixfw_st ((s, ((), ((), ())), ()), ((((), ()), ()), ()))) = ixfw_S N s := by kernel_rfl
noncomputable def sp_ixfw (N : Nat) : Spec := { f := 80, ins := ⟨[.sl (.int .i64), .fn 130 [] [.own 0 0]], [.segs [.fn 104 [] []]]⟩, outs := [⟨[.i .i64], [.segs [.fn 104 [] []]]⟩], run := fun p k => (ixfw_S N p.1.1).bind fun r => k ((r, ()), ((((), ()), ()), ())) }
theorem sp_ixfw_ok (N : Nat) : SpecOK Try.prog (sp_ixfw N) := fn_sound (B := ixfw_B) (loops := [ixfw_l1_L N]) (leaves := []) (fun p => ixfw_S N p.1.1) (fun r => ((r, ()), ((((), ()), ()), ()))) ixfw_rt (fun _ _ _ => rfl) (fun r z h => by cases h; rfl) Try.func80 (by kernel_rfl) (by kernel_rfl) (by kernel_rfl) rfl rfl (by kernel_rfl) (fun args w => Sem.pv_run _ _ _ (by kernel_rfl) w) (ixfw_all N) mixed ⟨ixfw_l1_ok N, trivial⟩ (fun z E Xc hE hX hret => trivial) (fun p => ixfw_eq N p.1.1)

def cofw_S (N : Nat) (s : List Int) : Option Bool :=
  (ixfw_S N s).bind fun x_1 =>
  some (decide (0 ≤ x_1))
noncomputable def cofw_sp (N : Nat) : List Spec := [sp_ixfw N]
theorem cofw_all (N : Nat) : AllP (SpecOK Try.prog) (cofw_sp N) := ⟨sp_ixfw_ok N, trivial⟩
noncomputable def cofw_c : Code := (Try.f93.body).getD .skip
noncomputable abbrev cofw_B : Body := { c := cofw_c, n := 9, res := [.tmp 4], outs := [⟨[.b], [.segs [.fn 104 [] []]]⟩], m0 := 1 }
abbrev cofw_rt : altD cofw_B.outs → Option Bool := fun r => some r.1.1
abbrev cofw_st : Sta := ⟨[0, 1], ⟨[.sl (.int .i64), .fn 130 [] [.own 0 0]], [.segs [.fn 104 [] []]]⟩⟩
theorem cofw_eq (N : Nat) (s : List Int) : ev (Z := Bool) Try.prog (cofw_sp N) cofw_B [] [] (some cofw_rt) 400 false [.c [0], .c [1]] (stL cofw_st ((s, ((), ((), ())), ()), ((((), ()), ()), ()))) (stH cofw_st ((s, ((), ((), ())), ()), ((((), ()), ()), ()))) = cofw_S N s := by kernel_rfl
noncomputable def sp_cofw (N : Nat) : Spec := { f := 93, ins := ⟨[.sl (.int .i64), .fn 130 [] [.own 0 0]], [.segs [.fn 104 [] []]]⟩, outs := [⟨[.b], [.segs [.fn 104 [] []]]⟩], run := fun p k => (cofw_S N p.1.1).bind fun r => k ((r, ()), ((((), ()), ()), ())) }
theorem sp_cofw_ok (N : Nat) : SpecOK Try.prog (sp_cofw N) := fn_sound (B := cofw_B) (loops := []) (leaves := []) (fun p => cofw_S N p.1.1) (fun r => ((r, ()), ((((), ()), ()), ()))) cofw_rt (fun _ _ _ => rfl) (fun r z h => by cases h; rfl) Try.func93 (by kernel_rfl) (by kernel_rfl) (by kernel_rfl) rfl rfl (by kernel_rfl) (fun args w => Sem.pv_run _ _ _ (by kernel_rfl) w) (cofw_all N) mixed trivial (fun z E Xc hE hX hret => trivial) (fun p => cofw_eq N p.1.1)

def everyw_S (N : Nat) (l : List Int) : Option Bool :=
  (cofw_S N l).bind fun x_1 =>
  some (!x_1)
noncomputable def everyw_sp (N : Nat) : List Spec := [sp_cofw N]
theorem everyw_all (N : Nat) : AllP (SpecOK Try.prog) (everyw_sp N) := ⟨sp_cofw_ok N, trivial⟩
noncomputable def everyw_c : Code := (Try.f101.body).getD .skip
noncomputable abbrev everyw_B : Body := { c := everyw_c, n := 9, res := [.tmp 4], outs := [⟨[.b], []⟩], m0 := 0 }
abbrev everyw_rt : altD everyw_B.outs → Option Bool := fun r => some r.1.1
abbrev everyw_st : Sta := ⟨[0, 1], ⟨[.sl (.int .i64), .fn 104 [] []], []⟩⟩
theorem everyw_eq (N : Nat) (l : List Int) : ev (Z := Bool) Try.prog (everyw_sp N) everyw_B [] [] (some everyw_rt) 400 false [.c [0], .c [1]] (stL everyw_st ((l, ((), ()), ()), ())) (stH everyw_st ((l, ((), ()), ()), ())) = everyw_S N l := by kernel_rfl
noncomputable def sp_everyw (N : Nat) : Spec := { f := 101, ins := ⟨[.sl (.int .i64), .fn 104 [] []], []⟩, outs := [⟨[.b], []⟩], run := fun p k => (everyw_S N p.1.1).bind fun r => k ((r, ()), ()) }
theorem sp_everyw_ok (N : Nat) : SpecOK Try.prog (sp_everyw N) := fn_sound (B := everyw_B) (loops := []) (leaves := []) (fun p => everyw_S N p.1.1) (fun r => ((r, ()), ())) everyw_rt (fun _ _ _ => rfl) (fun r z h => by cases h; rfl) Try.func101 (by kernel_rfl) (by kernel_rfl) (by kernel_rfl) rfl rfl (by kernel_rfl) (fun args w => Sem.pv_run _ _ _ (by kernel_rfl) w) (everyw_all N) mixed trivial (fun z E Xc hE hX hret => trivial) (fun p => everyw_eq N p.1.1)

def every1r_S (N : Nat) (x : Int) : Option Bool :=
  (check4_S N x).bind fun x_1 =>
  some (!x_1)
noncomputable def every1r_sp (N : Nat) : List Spec := [sp_check4 N]
theorem every1r_all (N : Nat) : AllP (SpecOK Try.prog) (every1r_sp N) := ⟨sp_check4_ok N, trivial⟩
noncomputable def every1r_c : Code := (Try.f130.body).getD .skip
noncomputable abbrev every1r_B : Body := { c := every1r_c, n := 8, res := [.tmp 3], outs := [⟨[.b], [.segs [.fn 105 [] []]]⟩], m0 := 1 }
abbrev every1r_rt : altD every1r_B.outs → Option Bool := fun r => some r.1.1
abbrev every1r_st : Sta := ⟨[0, 1], ⟨[.i .i64, .own 0 0], [.segs [.fn 105 [] []]]⟩⟩
theorem every1r_eq (N : Nat) (x : Int) : ev (Z := Bool) Try.prog (every1r_sp N) every1r_B [] [] (some every1r_rt) 400 false [.c [0], .c [1]] (stL every1r_st ((x, (), ()), ((((), ()), ()), ()))) (stH every1r_st ((x, (), ()), ((((), ()), ()), ()))) = every1r_S N x := by kernel_rfl
noncomputable def sp_every1r (N : Nat) : Spec := { f := 130, ins := ⟨[.i .i64, .own 0 0], [.segs [.fn 105 [] []]]⟩, outs := [⟨[.b], [.segs [.fn 105 [] []]]⟩], run := fun p k => (every1r_S N p.1.1).bind fun r => k ((r, ()), ((((), ()), ()), ())) }
theorem sp_every1r_ok (N : Nat) : SpecOK Try.prog (sp_every1r N) := fn_sound (B := every1r_B) (loops := []) (leaves := []) (fun p => every1r_S N p.1.1) (fun r => ((r, ()), ((((), ()), ()), ()))) every1r_rt (fun _ _ _ => rfl) (fun r z h => by cases h; rfl) Try.func130 (by kernel_rfl) (by kernel_rfl) (by kernel_rfl) rfl rfl (by kernel_rfl) (fun args w => Sem.pv_run _ _ _ (by kernel_rfl) w) (every1r_all N) mixed trivial (fun z E Xc hE hX hret => trivial) (fun p => every1r_eq N p.1.1)

def ixfr_l1 (N : Nat) : Nat → Qe → Int → Int → Option ((Int) ⊕ (Unit))
  | 0, _, _, _ => none
  | n_ + 1, s, u, u2 =>
    br (decide (u2 < u))
      (idx s u2 fun x_1 =>
      (every1r_S N x_1).bind fun x_2 =>
      br x_2
        (some (.inl u2))
        (chk (u2 + 1) <|
        ixfr_l1 N n_ s u (u2 + 1)))
      (some (.inr ()))
def ixfr_S (N : Nat) (s : List Int) : Option Int :=
  (ixfr_l1 N N s (s.length : Int) 0).bind fun e => match e with
  | .inl i_3 =>
    some i_3
  | .inr _ =>
    some (-1)
noncomputable def ixfr_sp (N : Nat) : List Spec := [sp_every1r N]
theorem ixfr_all (N : Nat) : AllP (SpecOK Try.prog) (ixfr_sp N) := ⟨sp_every1r_ok N, trivial⟩
noncomputable def ixfr_c : Code := (Try.f80.body).getD .skip
noncomputable abbrev ixfr_B : Body := { c := ixfr_c, n := 19, res := [.tmp 4], outs := [⟨[.i .i64], [.segs [.fn 105 [] []]]⟩], m0 := 1 }
abbrev ixfr_rt : altD ixfr_B.outs → Option Int := fun r => some r.1.1
abbrev ixfr_l1_at : List PI := [.c [1, 0, 1, 0, 0, 0], .c [1, 0, 1, 0, 0, 1], .l [1, 0, 1, 0, 0], .b 0, .c [1, 1]]
abbrev ixfr_l1_st : Sta := ⟨[0, 1, 7, 8], ⟨[.sl (.int .i64), .fn 130 [] [.own 0 0], .i .i64, .i .i64], [.segs [.fn 105 [] []]]⟩⟩
abbrev ixfr_l1_h (rec : Qe → Int → Int → Option ((Int) ⊕ (Unit))) : Leaf ((Int) ⊕ (Unit)) := ⟨ixfr_l1_at, ixfr_l1_st, fun p => rec p.1.1 p.1.2.2.1 p.1.2.2.2.1⟩
abbrev ixfr_l1_e0 : Leaf ((Int) ⊕ (Unit)) := ⟨[.c [1, 0, 1, 0, 0, 1, 1, 0, 0, 1, 1, 0, 0], .c [1, 0, 1, 0, 0, 1, 1, 0, 0, 1, 1, 0, 1], .b 1, .c [1, 0, 1, 0, 0, 1, 1, 1], .l [1, 0, 1, 0, 0], .b 0, .c [1, 1]], ⟨[5], ⟨[.i .i64], [.segs [.fn 105 [] []]]⟩⟩, fun p => some (.inl p.1.1)⟩
abbrev ixfr_l1_e1 : Leaf ((Int) ⊕ (Unit)) := ⟨[.c [1, 1, 0], .c [1, 1, 1]], ⟨[], ⟨[], [.segs [.fn 105 [] []]]⟩⟩, fun p => some (.inr ())⟩
noncomputable def ixfr_l1_L (N : Nat) : LoopS := { at_ := ixfr_l1_at, sta := ixfr_l1_st, exits := [([.c [1, 0, 1, 0, 0, 1, 1, 0, 0, 1, 1, 0, 0], .c [1, 0, 1, 0, 0, 1, 1, 0, 0, 1, 1, 0, 1], .b 1, .c [1, 0, 1, 0, 0, 1, 1, 1], .l [1, 0, 1, 0, 0], .b 0, .c [1, 1]], ⟨[5], ⟨[.i .i64], [.segs [.fn 105 [] []]]⟩⟩), ([.c [1, 1, 0], .c [1, 1, 1]], ⟨[], ⟨[], [.segs [.fn 105 [] []]]⟩⟩)], run := fun p k => (ixfr_l1 N N p.1.1 p.1.2.2.1 p.1.2.2.2.1).bind fun e => match e with | .inl x => k (.inl ((x, ()), ((((), ()), ()), ()))) | .inr x => k (.inr (.inl ((), ((((), ()), ()), ())))) }
theorem ixfr_l1_eq (N n_ : Nat) (s : List Int) (u : Int) (u2 : Int) : ev (Z := (Int) ⊕ (Unit)) Try.prog (ixfr_sp N) ixfr_B [] [ixfr_l1_h (ixfr_l1 N n_), ixfr_l1_e0, ixfr_l1_e1] none 400 true ixfr_l1_at (stL ixfr_l1_st ((s, ((), ((), ())), u, u2, ()), ((((), ()), ()), ()))) (stH ixfr_l1_st ((s, ((), ((), ())), u, u2, ()), ((((), ()), ()), ()))) = ixfr_l1 N (n_ + 1) s u u2 := by kernel_rfl
theorem ixfr_l1_ok (N : Nat) {top : Bool} : LoopOK Try.prog ixfr_B.c ixfr_B.n ixfr_B.m0 top (ixfr_l1_L N) := loop_of_ev (Z := (Int) ⊕ (Unit)) (N := N) (fun m p => ixfr_l1 N m p.1.1 p.1.2.2.1 p.1.2.2.2.1) (fun e => match e with | .inl x => .inl ((x, ()), ((((), ()), ()), ())) | .inr x => .inr (.inl ((), ((((), ()), ()), ())))) (fun _ p k => bind_congr_ (ixfr_l1 N N p.1.1 p.1.2.2.1 p.1.2.2.2.1) _ _ (fun e => by rcases e with x | x <;> rfl)) (fun _ => rfl) (fun m z E Xc hE hX hrec hx => leaf_of_ev (B := ixfr_B) (loops := []) (leaves := [ixfr_l1_h (ixfr_l1 N m), ixfr_l1_e0, ixfr_l1_e1]) (ixfr_all N) mixed trivial hE hX ⟨hrec, (fun p hp => by obtain rfl := Option.some.inj hp; exact hx), (fun p hp => by obtain rfl := Option.some.inj hp; exact hx), trivial⟩ RetOK.no (fun p => ixfr_l1_eq N m p.1.1 p.1.2.2.1 p.1.2.2.2.1))
abbrev ixfr_st : Sta := ⟨[0, 1], ⟨[.sl (.int .i64), .fn 130 [] [.own 0 0]], [.segs [.fn 105 [] []]]⟩⟩
theorem ixfr_eq (N : Nat) (s : List Int) : ev (Z := Int) Try.prog (ixfr_sp N) ixfr_B [ixfr_l1_L N] [] (some ixfr_rt) 400 false [.c [0], .c [1]] (stL ixfr_st ((s, ((), ((), ())), ()), ((((), ()), ()), ()))) (stH ixfr_st ((s, ((), ((), ())), ()), ((((), ()), ()), ()))) = ixfr_S N s := by kernel_rfl
noncomputable def sp_ixfr (N : Nat) : Spec := { f := 80, ins := ⟨[.sl (.int .i64), .fn 130 [] [.own 0 0]], [.segs [.fn 105 [] []]]⟩, outs := [⟨[.i .i64], [.segs [.fn 105 [] []]]⟩], run := fun p k => (ixfr_S N p.1.1).bind fun r => k ((r, ()), ((((), ()), ()), ())) }
theorem sp_ixfr_ok (N : Nat) : SpecOK Try.prog (sp_ixfr N) := fn_sound (B := ixfr_B) (loops := [ixfr_l1_L N]) (leaves := []) (fun p => ixfr_S N p.1.1) (fun r => ((r, ()), ((((), ()), ()), ()))) ixfr_rt (fun _ _ _ => rfl) (fun r z h => by cases h; rfl) Try.func80 (by kernel_rfl) (by kernel_rfl) (by kernel_rfl) rfl rfl (by kernel_rfl) (fun args w => Sem.pv_run _ _ _ (by kernel_rfl) w) (ixfr_all N) mixed ⟨ixfr_l1_ok N, trivial⟩ (fun z E Xc hE hX hret => trivial) (fun p => ixfr_eq N p.1.1)

def cofr_S (N : Nat) (s : List Int) : Option Bool :=
  (ixfr_S N s).bind fun x_1 =>
  some (decide (0 ≤ x_1))
noncomputable def cofr_sp (N : Nat) : List Spec := [sp_ixfr N]
theorem cofr_all (N : Nat) : AllP (SpecOK Try.prog) (cofr_sp N) := ⟨sp_ixfr_ok N, trivial⟩
noncomputable def cofr_c : Code := (Try.f93.body).getD .skip
noncomputable abbrev cofr_B : Body := { c := cofr_c, n := 9, res := [.tmp 4], outs := [⟨[.b], [.segs [.fn 105 [] []]]⟩], m0 := 1 }
abbrev cofr_rt : altD cofr_B.outs → Option Bool := fun r => some r.1.1
abbrev cofr_st : Sta := ⟨[0, 1], ⟨[.sl (.int .i64), .fn 130 [] [.own 0 0]], [.segs [.fn 105 [] []]]⟩⟩
theorem cofr_eq (N : Nat) (s : List Int) : ev (Z := Bool) Try.prog (cofr_sp N) cofr_B [] [] (some cofr_rt) 400 false [.c [0], .c [1]] (stL cofr_st ((s, ((), ((), ())), ()), ((((), ()), ()), ()))) (stH cofr_st ((s, ((), ((), ())), ()), ((((), ()), ()), ()))) = cofr_S N s := by kernel_rfl
noncomputable def sp_cofr (N : Nat) : Spec := { f := 93, ins := ⟨[.sl (.int .i64), .fn 130 [] [.own 0 0]], [.segs [.fn 105 [] []]]⟩, outs := [⟨[.b], [.segs [.fn 105 [] []]]⟩], run := fun p k => (cofr_S N p.1.1).bind fun r => k ((r, ()), ((((), ()), ()), ())) }
theorem sp_cofr_ok (N : Nat) : SpecOK Try.prog (sp_cofr N) := fn_sound (B := cofr_B) (loops := []) (leaves := []) (fun p => cofr_S N p.1.1) (fun r => ((r, ()), ((((), ()), ()), ()))) cofr_rt (fun _ _ _ => rfl) (fun r z h => by cases h; rfl) Try.func93 (by kernel_rfl) (by kernel_rfl) (by kernel_rfl) rfl rfl (by kernel_rfl) (fun args w => Sem.pv_run _ _ _ (by kernel_rfl) w) (cofr_all N) mixed trivial (fun z E Xc hE hX hret => trivial) (fun p => cofr_eq N p.1.1)

def everyr_S (N : Nat) (l : List Int) : Option Bool :=
  (cofr_S N l).bind fun x_1 =>
  some (!x_1)
noncomputable def everyr_sp (N : Nat) : List Spec := [sp_cofr N]
theorem everyr_all (N : Nat) : AllP (SpecOK Try.prog) (everyr_sp N) := ⟨sp_cofr_ok N, trivial⟩
noncomputable def everyr_c : Code := (Try.f101.body).getD .skip
noncomputable abbrev everyr_B : Body := { c := everyr_c, n := 9, res := [.tmp 4], outs := [⟨[.b], []⟩], m0 := 0 }
abbrev everyr_rt : altD everyr_B.outs → Option Bool := fun r => some r.1.1
abbrev everyr_st : Sta := ⟨[0, 1], ⟨[.sl (.int .i64), .fn 105 [] []], []⟩⟩
theorem everyr_eq (N : Nat) (l : List Int) : ev (Z := Bool) Try.prog (everyr_sp N) everyr_B [] [] (some everyr_rt) 400 false [.c [0], .c [1]] (stL everyr_st ((l, ((), ()), ()), ())) (stH everyr_st ((l, ((), ()), ()), ())) = everyr_S N l := by kernel_rfl
noncomputable def sp_everyr (N : Nat) : Spec := { f := 101, ins := ⟨[.sl (.int .i64), .fn 105 [] []], []⟩, outs := [⟨[.b], []⟩], run := fun p k => (everyr_S N p.1.1).bind fun r => k ((r, ()), ()) }
theorem sp_everyr_ok (N : Nat) : SpecOK Try.prog (sp_everyr N) := fn_sound (B := everyr_B) (loops := []) (leaves := []) (fun p => everyr_S N p.1.1) (fun r => ((r, ()), ())) everyr_rt (fun _ _ _ => rfl) (fun r z h => by cases h; rfl) Try.func101 (by kernel_rfl) (by kernel_rfl) (by kernel_rfl) rfl rfl (by kernel_rfl) (fun args w => Sem.pv_run _ _ _ (by kernel_rfl) w) (everyr_all N) mixed trivial (fun z E Xc hE hX hret => trivial) (fun p => everyr_eq N p.1.1)

def check_S (N : Nat) (d : List Int) (d2 : Int) (d3 : List Qe) (d4 : List Qe) (d5 : List Int) : Option Int :=
  (in__S N (d.length : Int) 1 5).bind fun x_1 =>
  br (!x_1)
    (some 2)
    (br (decide (6 < (d3.length : Int)))
      (some 2)
      (br (decide (6 < (d4.length : Int)))
        (some 2)
        ((everylo_S N d3 (d, d2, d3, d4, d5)).bind fun x_2 =>
        br (!x_2)
          (some 2)
          ((everylo_S N d4 (d, d2, d3, d4, d5)).bind fun x_3 =>
          br (!x_3)
            (some 2)
            (br (!decide ((d5.length : Int) = (d3.length : Int)))
              (some 2)
              ((everyw_S N d).bind fun x_4 =>
              br (!x_4)
                (some 3)
                ((in__S N d2 0 3).bind fun x_5 =>
                br (!x_5)
                  (some 3)
                  ((everyr_S N d5).bind fun x_6 =>
                  br (!x_6)
                    (some 3)
                    ((everyva_S N d3).bind fun x_7 =>
                    br (!x_7)
                      (some 3)
                      ((everyva_S N d4).bind fun x_8 =>
                      br (!x_8)
                        (some 3)
                        (some 0)))))))))))
noncomputable def check_sp (N : Nat) : List Spec := [sp_in_ N, sp_everylo N, sp_everyva N, sp_everyw N, sp_everyr N]
theorem check_all (N : Nat) : AllP (SpecOK Try.prog) (check_sp N) := ⟨sp_in__ok N, sp_everylo_ok N, sp_everyva_ok N, sp_everyw_ok N, sp_everyr_ok N, trivial⟩
noncomputable def check_c : Code := (Try.f68.body).getD .skip
noncomputable abbrev check_B : Body := { c := check_c, n := 75, res := [.tmp 2], outs := [⟨[.i .i64], []⟩], m0 := 0 }
abbrev check_rt : altD check_B.outs → Option Int := fun r => some r.1.1
abbrev check_st : Sta := ⟨[0], ⟨[.agg [.sl (.int .i64), .i .i64, .sl Qd, .sl Qd, .sl (.int .i64)]], []⟩⟩
theorem check_eq (N : Nat) (d : List Int) (d2 : Int) (d3 : List Qe) (d4 : List Qe) (d5 : List Int) : ev (Z := Int) Try.prog (check_sp N) check_B [] [] (some check_rt) 400 false [.c [0], .c [1]] (stL check_st (((d, d2, d3, d4, d5, ()), ()), ())) (stH check_st (((d, d2, d3, d4, d5, ()), ()), ())) = check_S N d d2 d3 d4 d5 := by kernel_rfl
noncomputable def sp_check (N : Nat) : Spec := { f := 68, ins := ⟨[.agg [.sl (.int .i64), .i .i64, .sl Qd, .sl Qd, .sl (.int .i64)]], []⟩, outs := [⟨[.i .i64], []⟩], run := fun p k => (check_S N p.1.1.1 p.1.1.2.1 p.1.1.2.2.1 p.1.1.2.2.2.1 p.1.1.2.2.2.2.1).bind fun r => k ((r, ()), ()) }
theorem sp_check_ok (N : Nat) : SpecOK Try.prog (sp_check N) := fn_sound (B := check_B) (loops := []) (leaves := []) (fun p => check_S N p.1.1.1 p.1.1.2.1 p.1.1.2.2.1 p.1.1.2.2.2.1 p.1.1.2.2.2.2.1) (fun r => ((r, ()), ())) check_rt (fun _ _ _ => rfl) (fun r z h => by cases h; rfl) Try.func68 (by kernel_rfl) (by kernel_rfl) (by kernel_rfl) rfl rfl (by kernel_rfl) (fun args w => Sem.pv_run _ _ _ (by kernel_rfl) w) (check_all N) mixed trivial (fun z E Xc hE hX hret => trivial) (fun p => check_eq N p.1.1.1 p.1.1.2.1 p.1.1.2.2.1 p.1.1.2.2.2.1 p.1.1.2.2.2.2.1)

def opened_j1 (N : Nat) (rec : Int → Qe → Int → Qe → Qw → Int → Int → Qw → Int → Int → Qe → Int → Int → Qe → Int → Qw → Qw → Qe → Qe → Int → Qw → Qw → Qe → Qe → Qe → Option Ql) (i : Int) (a : List Int) (k : Int) (b : List Int) (u : List Qe) (u2 : Int) (u3 : Int) (u4 : List Qe) (u5 : Int) (u6 : Int) (u7 : List Int) (u8 : Int) (u9 : Int) (d : List Int) (d2 : Int) (d3 : List Qe) (d4 : List Qe) (d5 : List Int) (out : List Int) (out2 : Int) (out3 : List Qe) (out4 : List Qe) (out5 : List Int) (out6 : List Int) (out7 : List Int) : Option Ql :=
  chk (u9 + 1) <|
  rec i a k b u u2 u3 u4 u5 u6 u7 u8 (u9 + 1) d d2 d3 d4 d5 out out2 out3 out4 out5 out6 out7
def opened_l3 (N : Nat) : Nat → Int → Qe → Int → Qe → Qw → Int → Int → Qw → Int → Int → Qe → Int → Int → Qe → Int → Qw → Qw → Qe → Qe → Int → Qw → Qw → Qe → Qe → Qe → Option Ql
  | 0, _, _, _, _, _, _, _, _, _, _, _, _, _, _, _, _, _, _, _, _, _, _, _, _, _ => none
  | n_ + 1, i, a, k, b, u, u2, u3, u4, u5, u6, u7, u8, u9, d, d2, d3, d4, d5, out, out2, out3, out4, out5, out6, out7 =>
    br (decide (u9 < u8))
      (idx u7 u9 fun x_4 =>
      br (decide (x_4 = -1))
        (opened_j1 N (opened_l3 N n_) i a k b u u2 u3 u4 u5 u6 u7 u8 u9 d d2 d3 d4 d5 out out2 out3 out4 out5 out6 out7)
        (idx b u9 fun x_5 =>
        br (decide (x_5 = -1))
          (opened_j1 N (opened_l3 N n_) i a k b u u2 u3 u4 u5 u6 u7 u8 u9 d d2 d3 d4 d5 out out2 out3 out4 out5 out6 out7)
          (idx b u9 fun x_6 =>
          br (decide (x_4 = x_6))
            (rng i 6 <|
            rng k 6 <|
            get out6 ((i.toNat * 6) + k.toNat) fun x_7 =>
            idx d u9 fun x_8 =>
            chk (x_7 + x_8) <|
            rng i 6 <|
            rng k 6 <|
            get out6 ((i.toNat * 6) + k.toNat) fun _ =>
            opened_j1 N (opened_l3 N n_) i a k b u u2 u3 u4 u5 u6 u7 u8 u9 d d2 d3 d4 d5 out out2 out3 out4 out5 (out6.set ((i.toNat * 6) + k.toNat) (x_7 + x_8)) out7)
            (rng i 6 <|
            rng k 6 <|
            get out7 ((i.toNat * 6) + k.toNat) fun x_10 =>
            chk (x_10 + 1) <|
            rng i 6 <|
            rng k 6 <|
            get out7 ((i.toNat * 6) + k.toNat) fun _ =>
            opened_j1 N (opened_l3 N n_) i a k b u u2 u3 u4 u5 u6 u7 u8 u9 d d2 d3 d4 d5 out out2 out3 out4 out5 out6 (out7.set ((i.toNat * 6) + k.toNat) (x_10 + 1))))))
      (some ((i, a, u, u2, u3, u4, u5, u6, d, d2, d3, d4, d5, out, out2, out3, out4, out5, out6, out7)))
def opened_l2 (N : Nat) : Nat → Int → Qe → Qw → Int → Int → Qw → Int → Int → Qe → Int → Qw → Qw → Qe → Qe → Int → Qw → Qw → Qe → Qe → Qe → Option Qy
  | 0, _, _, _, _, _, _, _, _, _, _, _, _, _, _, _, _, _, _, _, _ => none
  | n_ + 1, i, a, u, u2, u3, u4, u5, u6, d, d2, d3, d4, d5, out, out2, out3, out4, out5, out6, out7 =>
    br (decide (u6 < u5))
      (idx u4 u6 fun x_3 =>
      (opened_l3 N N i a u6 x_3 u u2 u3 u4 u5 u6 a (a.length : Int) 0 d d2 d3 d4 d5 out out2 out3 out4 out5 out6 out7).bind fun (i_12, a_13, u_14, u2_15, u3_16, u4_17, u5_18, u6_19, d_20, d2_21, d3_22, d4_23, d5_24, out_25, out2_26, out3_27, out4_28, out5_29, out6_30, out7_31) =>
      chk (u6_19 + 1) <|
      opened_l2 N n_ i_12 a_13 u_14 u2_15 u3_16 u4_17 u5_18 (u6_19 + 1) d_20 d2_21 d3_22 d4_23 d5_24 out_25 out2_26 out3_27 out4_28 out5_29 out6_30 out7_31)
      (some ((u, u2, u3, d, d2, d3, d4, d5, out, out2, out3, out4, out5, out6, out7)))
def opened_l1 (N : Nat) : Nat → Qw → Int → Int → Qe → Int → Qw → Qw → Qe → Qe → Int → Qw → Qw → Qe → Qe → Qe → Option (List Int × Int × List Qe × List Qe × List Int × List Int × List Int)
  | 0, _, _, _, _, _, _, _, _, _, _, _, _, _, _, _ => none
  | n_ + 1, u, u2, u3, d, d2, d3, d4, d5, out, out2, out3, out4, out5, out6, out7 =>
    br (decide (u3 < u2))
      (idx u u3 fun x_2 =>
      (opened_l2 N N u3 x_2 u u2 u3 d4 (d4.length : Int) 0 d d2 d3 d4 d5 out out2 out3 out4 out5 out6 out7).bind fun (u_32, u2_33, u3_34, d_35, d2_36, d3_37, d4_38, d5_39, out_40, out2_41, out3_42, out4_43, out5_44, out6_45, out7_46) =>
      chk (u3_34 + 1) <|
      opened_l1 N n_ u_32 u2_33 (u3_34 + 1) d_35 d2_36 d3_37 d4_38 d5_39 out_40 out2_41 out3_42 out4_43 out5_44 out6_45 out7_46)
      (some ((out, out2, out3, out4, out5, out6, out7)))
def opened_S (N : Nat) (d : List Int) (d2 : Int) (d3 : List Qe) (d4 : List Qe) (d5 : List Int) : Option (((List Int × Int × List Qe × List Qe × List Int × List Int × List Int × Unit) × Int) ⊕ (Int)) :=
  (check_S N d d2 d3 d4 d5).bind fun x_1 =>
  br (!decide (x_1 = 0))
    (some (.inr x_1))
    ((opened_l1 N N d3 (d3.length : Int) 0 d d2 d3 d4 d5 d d2 d3 d4 d5 (List.replicate 36 (0 : Int)) (List.replicate 36 (0 : Int))).bind fun (out_47, out2_48, out3_49, out4_50, out5_51, out6_52, out7_53) =>
    some (.inl ((out_47, out2_48, out3_49, out4_50, out5_51, out6_52, out7_53, ()), 0)))
noncomputable def opened_sp (N : Nat) : List Spec := [sp_check N]
theorem opened_all (N : Nat) : AllP (SpecOK Try.prog) (opened_sp N) := ⟨sp_check_ok N, trivial⟩
noncomputable def opened_c : Code := (Try.f33.body).getD .skip
noncomputable abbrev opened_B : Body := { c := opened_c, n := 95, res := [.tmp 2, .tmp 3], outs := [⟨[.fz [.sl (.int .i64), .i .i64, .sl Qd, .sl Qd, .sl (.int .i64), .arr (.int .i64) 36, .arr (.int .i64) 36], .i .i64], []⟩, ⟨[.nilp, .i .i64], []⟩], m0 := 0 }
abbrev opened_rt : altD opened_B.outs → Option (((List Int × Int × List Qe × List Qe × List Int × List Int × List Int × Unit) × Int) ⊕ (Int)) := fun r => match r with | .inl r => some (.inl (r.1.1, r.1.2.1)) | .inr r => some (.inr r.1.2.1)
abbrev opened_l3_at : List PI := [.c [1, 1, 1, 0, 1, 0, 0, 1, 1, 0, 0, 1, 1, 0, 0, 1, 1, 0, 0, 1, 1, 0, 0, 0], .c [1, 1, 1, 0, 1, 0, 0, 1, 1, 0, 0, 1, 1, 0, 0, 1, 1, 0, 0, 1, 1, 0, 0, 1], .l [1, 1, 1, 0, 1, 0, 0, 1, 1, 0, 0, 1, 1, 0, 0, 1, 1, 0, 0, 1, 1, 0, 0], .b 4, .b 3, .c [1, 1, 1, 0, 1, 0, 0, 1, 1, 0, 0, 1, 1, 0, 0, 1, 1, 1], .l [1, 1, 1, 0, 1, 0, 0, 1, 1, 0, 0, 1, 1, 0, 0], .b 2, .b 1, .c [1, 1, 1, 0, 1, 0, 0, 1, 1, 1], .l [1, 1, 1, 0, 1, 0, 0], .b 0, .c [1, 1, 1, 1]]
abbrev opened_l3_st : Sta := ⟨[1, 5, 6, 7, 8, 9, 21, 22, 23, 29, 30, 31, 36, 37, 38], ⟨[.own 0 0, .own 1 0, .i .i64, .sl (.int .i64), .i .i64, .sl (.int .i64), .sl Qd, .i .i64, .i .i64, .sl Qd, .i .i64, .i .i64, .sl (.int .i64), .i .i64, .i .i64], [.segs [.sl (.int .i64), .i .i64, .sl Qd, .sl Qd, .sl (.int .i64)], .segs [.sl (.int .i64), .i .i64, .sl Qd, .sl Qd, .sl (.int .i64), .arr (.int .i64) 36, .arr (.int .i64) 36]]⟩⟩
abbrev opened_l3_h (rec : Int → Qe → Int → Qe → Qw → Int → Int → Qw → Int → Int → Qe → Int → Int → Qe → Int → Qw → Qw → Qe → Qe → Int → Qw → Qw → Qe → Qe → Qe → Option Ql) : Leaf Ql := ⟨opened_l3_at, opened_l3_st, fun p => rec p.1.2.2.1 p.1.2.2.2.1 p.1.2.2.2.2.1 p.1.2.2.2.2.2.1 p.1.2.2.2.2.2.2.1 p.1.2.2.2.2.2.2.2.1 p.1.2.2.2.2.2.2.2.2.1 p.1.2.2.2.2.2.2.2.2.2.1 p.1.2.2.2.2.2.2.2.2.2.2.1 p.1.2.2.2.2.2.2.2.2.2.2.2.1 p.1.2.2.2.2.2.2.2.2.2.2.2.2.1 p.1.2.2.2.2.2.2.2.2.2.2.2.2.2.1 p.1.2.2.2.2.2.2.2.2.2.2.2.2.2.2.1 p.2.1.1 p.2.1.2.1 p.2.1.2.2.1 p.2.1.2.2.2.1 p.2.1.2.2.2.2.1 p.2.2.1.1 p.2.2.1.2.1 p.2.2.1.2.2.1 p.2.2.1.2.2.2.1 p.2.2.1.2.2.2.2.1 p.2.2.1.2.2.2.2.2.1 p.2.2.1.2.2.2.2.2.2.1⟩
abbrev opened_l3_e0 : Leaf Ql := ⟨[.c [1, 1, 1, 0, 1, 0, 0, 1, 1, 0, 0, 1, 1, 0, 0, 1, 1, 1], .l [1, 1, 1, 0, 1, 0, 0, 1, 1, 0, 0, 1, 1, 0, 0], .b 2, .b 1, .c [1, 1, 1, 0, 1, 0, 0, 1, 1, 1], .l [1, 1, 1, 0, 1, 0, 0], .b 0, .c [1, 1, 1, 1]], ⟨[1, 5, 6, 7, 21, 22, 23, 29, 30, 31], ⟨[.own 0 0, .own 1 0, .i .i64, .sl (.int .i64), .sl Qd, .i .i64, .i .i64, .sl Qd, .i .i64, .i .i64], [.segs [.sl (.int .i64), .i .i64, .sl Qd, .sl Qd, .sl (.int .i64)], .segs [.sl (.int .i64), .i .i64, .sl Qd, .sl Qd, .sl (.int .i64), .arr (.int .i64) 36, .arr (.int .i64) 36]]⟩⟩, fun p => some ((p.1.2.2.1, p.1.2.2.2.1, p.1.2.2.2.2.1, p.1.2.2.2.2.2.1, p.1.2.2.2.2.2.2.1, p.1.2.2.2.2.2.2.2.1, p.1.2.2.2.2.2.2.2.2.1, p.1.2.2.2.2.2.2.2.2.2.1, p.2.1.1, p.2.1.2.1, p.2.1.2.2.1, p.2.1.2.2.2.1, p.2.1.2.2.2.2.1, p.2.2.1.1, p.2.2.1.2.1, p.2.2.1.2.2.1, p.2.2.1.2.2.2.1, p.2.2.1.2.2.2.2.1, p.2.2.1.2.2.2.2.2.1, p.2.2.1.2.2.2.2.2.2.1))⟩
abbrev opened_j1_at : List PI := [.c [1, 1, 1, 0, 1, 0, 0, 1, 1, 0, 0, 1, 1, 0, 0, 1, 1, 0, 0, 1, 1, 0, 0, 1, 1, 1], .l [1, 1, 1, 0, 1, 0, 0, 1, 1, 0, 0, 1, 1, 0, 0, 1, 1, 0, 0, 1, 1, 0, 0], .b 4, .b 3, .c [1, 1, 1, 0, 1, 0, 0, 1, 1, 0, 0, 1, 1, 0, 0, 1, 1, 1], .l [1, 1, 1, 0, 1, 0, 0, 1, 1, 0, 0, 1, 1, 0, 0], .b 2, .b 1, .c [1, 1, 1, 0, 1, 0, 0, 1, 1, 1], .l [1, 1, 1, 0, 1, 0, 0], .b 0, .c [1, 1, 1, 1]]
abbrev opened_j1_st : Sta := ⟨[1, 5, 6, 7, 8, 9, 21, 22, 23, 29, 30, 31, 36, 37, 38], ⟨[.own 0 0, .own 1 0, .i .i64, .sl (.int .i64), .i .i64, .sl (.int .i64), .sl Qd, .i .i64, .i .i64, .sl Qd, .i .i64, .i .i64, .sl (.int .i64), .i .i64, .i .i64], [.segs [.sl (.int .i64), .i .i64, .sl Qd, .sl Qd, .sl (.int .i64)], .segs [.sl (.int .i64), .i .i64, .sl Qd, .sl Qd, .sl (.int .i64), .arr (.int .i64) 36, .arr (.int .i64) 36]]⟩⟩
abbrev opened_j1_k (N : Nat) (rec : Int → Qe → Int → Qe → Qw → Int → Int → Qw → Int → Int → Qe → Int → Int → Qe → Int → Qw → Qw → Qe → Qe → Int → Qw → Qw → Qe → Qe → Qe → Option Ql) : Leaf Ql := ⟨opened_j1_at, opened_j1_st, fun p => opened_j1 N rec p.1.2.2.1 p.1.2.2.2.1 p.1.2.2.2.2.1 p.1.2.2.2.2.2.1 p.1.2.2.2.2.2.2.1 p.1.2.2.2.2.2.2.2.1 p.1.2.2.2.2.2.2.2.2.1 p.1.2.2.2.2.2.2.2.2.2.1 p.1.2.2.2.2.2.2.2.2.2.2.1 p.1.2.2.2.2.2.2.2.2.2.2.2.1 p.1.2.2.2.2.2.2.2.2.2.2.2.2.1 p.1.2.2.2.2.2.2.2.2.2.2.2.2.2.1 p.1.2.2.2.2.2.2.2.2.2.2.2.2.2.2.1 p.2.1.1 p.2.1.2.1 p.2.1.2.2.1 p.2.1.2.2.2.1 p.2.1.2.2.2.2.1 p.2.2.1.1 p.2.2.1.2.1 p.2.2.1.2.2.1 p.2.2.1.2.2.2.1 p.2.2.1.2.2.2.2.1 p.2.2.1.2.2.2.2.2.1 p.2.2.1.2.2.2.2.2.2.1⟩
theorem opened_j1_eq (N : Nat) (rec : Int → Qe → Int → Qe → Qw → Int → Int → Qw → Int → Int → Qe → Int → Int → Qe → Int → Qw → Qw → Qe → Qe → Int → Qw → Qw → Qe → Qe → Qe → Option Ql) (i : Int) (a : List Int) (k : Int) (b : List Int) (u : List Qe) (u2 : Int) (u3 : Int) (u4 : List Qe) (u5 : Int) (u6 : Int) (u7 : List Int) (u8 : Int) (u9 : Int) (d : List Int) (d2 : Int) (d3 : List Qe) (d4 : List Qe) (d5 : List Int) (out : List Int) (out2 : Int) (out3 : List Qe) (out4 : List Qe) (out5 : List Int) (out6 : List Int) (out7 : List Int) : ev (Z := Int × List Int × List Qe × Int × Int × List Qe × Int × Int × List Int × Int × List Qe × List Qe × List Int × List Int × Int × List Qe × List Qe × List Int × List Int × List Int) Try.prog (opened_sp N) opened_B [] [opened_l3_h rec, opened_l3_e0] none 400 true opened_j1_at (stL opened_j1_st (((), (), i, a, k, b, u, u2, u3, u4, u5, u6, u7, u8, u9, ()), ((d, d2, d3, d4, d5, ()), (out, out2, out3, out4, out5, out6, out7, ()), ()))) (stH opened_j1_st (((), (), i, a, k, b, u, u2, u3, u4, u5, u6, u7, u8, u9, ()), ((d, d2, d3, d4, d5, ()), (out, out2, out3, out4, out5, out6, out7, ()), ()))) = opened_j1 N rec i a k b u u2 u3 u4 u5 u6 u7 u8 u9 d d2 d3 d4 d5 out out2 out3 out4 out5 out6 out7 := by kernel_rfl
theorem opened_j1_lf (N : Nat) (rec : Int → Qe → Int → Qe → Qw → Int → Int → Qw → Int → Int → Qe → Int → Int → Qe → Int → Qw → Qw → Qe → Qe → Int → Qw → Qw → Qe → Qe → Qe → Option Ql) {z : Int × List Int × List Qe × Int × Int × List Qe × Int × Int × List Int × Int × List Qe × List Qe × List Int × List Int × Int × List Qe × List Qe × List Int × List Int × List Int} {top : Bool} {E : EE} {Xc : Ctx} (hE : EOK opened_B.m0 E) (hX : CxOK top Xc) (hrec : LeafOK Try.prog opened_B.c opened_B.n opened_B.m0 E Xc z (opened_l3_h rec)) (h0 : LeafOK Try.prog opened_B.c opened_B.n opened_B.m0 E Xc z opened_l3_e0) : LeafOK Try.prog opened_B.c opened_B.n opened_B.m0 E Xc z (opened_j1_k N rec) := leaf_of_ev (B := opened_B) (loops := []) (leaves := [opened_l3_h rec, opened_l3_e0]) (opened_all N) mixed trivial hE hX ⟨hrec, h0, trivial⟩ RetOK.no (fun p => opened_j1_eq N rec p.1.2.2.1 p.1.2.2.2.1 p.1.2.2.2.2.1 p.1.2.2.2.2.2.1 p.1.2.2.2.2.2.2.1 p.1.2.2.2.2.2.2.2.1 p.1.2.2.2.2.2.2.2.2.1 p.1.2.2.2.2.2.2.2.2.2.1 p.1.2.2.2.2.2.2.2.2.2.2.1 p.1.2.2.2.2.2.2.2.2.2.2.2.1 p.1.2.2.2.2.2.2.2.2.2.2.2.2.1 p.1.2.2.2.2.2.2.2.2.2.2.2.2.2.1 p.1.2.2.2.2.2.2.2.2.2.2.2.2.2.2.1 p.2.1.1 p.2.1.2.1 p.2.1.2.2.1 p.2.1.2.2.2.1 p.2.1.2.2.2.2.1 p.2.2.1.1 p.2.2.1.2.1 p.2.2.1.2.2.1 p.2.2.1.2.2.2.1 p.2.2.1.2.2.2.2.1 p.2.2.1.2.2.2.2.2.1 p.2.2.1.2.2.2.2.2.2.1)
noncomputable def opened_l3_L (N : Nat) : LoopS := { at_ := opened_l3_at, sta := opened_l3_st, exits := [([.c [1, 1, 1, 0, 1, 0, 0, 1, 1, 0, 0, 1, 1, 0, 0, 1, 1, 1], .l [1, 1, 1, 0, 1, 0, 0, 1, 1, 0, 0, 1, 1, 0, 0], .b 2, .b 1, .c [1, 1, 1, 0, 1, 0, 0, 1, 1, 1], .l [1, 1, 1, 0, 1, 0, 0], .b 0, .c [1, 1, 1, 1]], ⟨[1, 5, 6, 7, 21, 22, 23, 29, 30, 31], ⟨[.own 0 0, .own 1 0, .i .i64, .sl (.int .i64), .sl Qd, .i .i64, .i .i64, .sl Qd, .i .i64, .i .i64], [.segs [.sl (.int .i64), .i .i64, .sl Qd, .sl Qd, .sl (.int .i64)], .segs [.sl (.int .i64), .i .i64, .sl Qd, .sl Qd, .sl (.int .i64), .arr (.int .i64) 36, .arr (.int .i64) 36]]⟩⟩)], run := fun p k => (opened_l3 N N p.1.2.2.1 p.1.2.2.2.1 p.1.2.2.2.2.1 p.1.2.2.2.2.2.1 p.1.2.2.2.2.2.2.1 p.1.2.2.2.2.2.2.2.1 p.1.2.2.2.2.2.2.2.2.1 p.1.2.2.2.2.2.2.2.2.2.1 p.1.2.2.2.2.2.2.2.2.2.2.1 p.1.2.2.2.2.2.2.2.2.2.2.2.1 p.1.2.2.2.2.2.2.2.2.2.2.2.2.1 p.1.2.2.2.2.2.2.2.2.2.2.2.2.2.1 p.1.2.2.2.2.2.2.2.2.2.2.2.2.2.2.1 p.2.1.1 p.2.1.2.1 p.2.1.2.2.1 p.2.1.2.2.2.1 p.2.1.2.2.2.2.1 p.2.2.1.1 p.2.2.1.2.1 p.2.2.1.2.2.1 p.2.2.1.2.2.2.1 p.2.2.1.2.2.2.2.1 p.2.2.1.2.2.2.2.2.1 p.2.2.1.2.2.2.2.2.2.1).bind fun e => k (.inl (((), (), e.1, e.2.1, e.2.2.1, e.2.2.2.1, e.2.2.2.2.1, e.2.2.2.2.2.1, e.2.2.2.2.2.2.1, e.2.2.2.2.2.2.2.1, ()), ((e.2.2.2.2.2.2.2.2.1, e.2.2.2.2.2.2.2.2.2.1, e.2.2.2.2.2.2.2.2.2.2.1, e.2.2.2.2.2.2.2.2.2.2.2.1, e.2.2.2.2.2.2.2.2.2.2.2.2.1, ()), (e.2.2.2.2.2.2.2.2.2.2.2.2.2.1, e.2.2.2.2.2.2.2.2.2.2.2.2.2.2.1, e.2.2.2.2.2.2.2.2.2.2.2.2.2.2.2.1, e.2.2.2.2.2.2.2.2.2.2.2.2.2.2.2.2.1, e.2.2.2.2.2.2.2.2.2.2.2.2.2.2.2.2.2.1, e.2.2.2.2.2.2.2.2.2.2.2.2.2.2.2.2.2.2.1, e.2.2.2.2.2.2.2.2.2.2.2.2.2.2.2.2.2.2.2, ()), ()))) }
theorem opened_l3_eq (N n_ : Nat) (i : Int) (a : List Int) (k : Int) (b : List Int) (u : List Qe) (u2 : Int) (u3 : Int) (u4 : List Qe) (u5 : Int) (u6 : Int) (u7 : List Int) (u8 : Int) (u9 : Int) (d : List Int) (d2 : Int) (d3 : List Qe) (d4 : List Qe) (d5 : List Int) (out : List Int) (out2 : Int) (out3 : List Qe) (out4 : List Qe) (out5 : List Int) (out6 : List Int) (out7 : List Int) : ev (Z := Int × List Int × List Qe × Int × Int × List Qe × Int × Int × List Int × Int × List Qe × List Qe × List Int × List Int × Int × List Qe × List Qe × List Int × List Int × List Int) Try.prog (opened_sp N) opened_B [] [opened_l3_h (opened_l3 N n_), opened_l3_e0, opened_j1_k N (opened_l3 N n_)] none 400 true opened_l3_at (stL opened_l3_st (((), (), i, a, k, b, u, u2, u3, u4, u5, u6, u7, u8, u9, ()), ((d, d2, d3, d4, d5, ()), (out, out2, out3, out4, out5, out6, out7, ()), ()))) (stH opened_l3_st (((), (), i, a, k, b, u, u2, u3, u4, u5, u6, u7, u8, u9, ()), ((d, d2, d3, d4, d5, ()), (out, out2, out3, out4, out5, out6, out7, ()), ()))) = opened_l3 N (n_ + 1) i a k b u u2 u3 u4 u5 u6 u7 u8 u9 d d2 d3 d4 d5 out out2 out3 out4 out5 out6 out7 := by kernel_rfl
theorem opened_l3_ok (N : Nat) {top : Bool} : LoopOK Try.prog opened_B.c opened_B.n opened_B.m0 top (opened_l3_L N) := loop_of_ev (Z := Int × List Int × List Qe × Int × Int × List Qe × Int × Int × List Int × Int × List Qe × List Qe × List Int × List Int × Int × List Qe × List Qe × List Int × List Int × List Int) (N := N) (fun m p => opened_l3 N m p.1.2.2.1 p.1.2.2.2.1 p.1.2.2.2.2.1 p.1.2.2.2.2.2.1 p.1.2.2.2.2.2.2.1 p.1.2.2.2.2.2.2.2.1 p.1.2.2.2.2.2.2.2.2.1 p.1.2.2.2.2.2.2.2.2.2.1 p.1.2.2.2.2.2.2.2.2.2.2.1 p.1.2.2.2.2.2.2.2.2.2.2.2.1 p.1.2.2.2.2.2.2.2.2.2.2.2.2.1 p.1.2.2.2.2.2.2.2.2.2.2.2.2.2.1 p.1.2.2.2.2.2.2.2.2.2.2.2.2.2.2.1 p.2.1.1 p.2.1.2.1 p.2.1.2.2.1 p.2.1.2.2.2.1 p.2.1.2.2.2.2.1 p.2.2.1.1 p.2.2.1.2.1 p.2.2.1.2.2.1 p.2.2.1.2.2.2.1 p.2.2.1.2.2.2.2.1 p.2.2.1.2.2.2.2.2.1 p.2.2.1.2.2.2.2.2.2.1) (fun e => .inl (((), (), e.1, e.2.1, e.2.2.1, e.2.2.2.1, e.2.2.2.2.1, e.2.2.2.2.2.1, e.2.2.2.2.2.2.1, e.2.2.2.2.2.2.2.1, ()), ((e.2.2.2.2.2.2.2.2.1, e.2.2.2.2.2.2.2.2.2.1, e.2.2.2.2.2.2.2.2.2.2.1, e.2.2.2.2.2.2.2.2.2.2.2.1, e.2.2.2.2.2.2.2.2.2.2.2.2.1, ()), (e.2.2.2.2.2.2.2.2.2.2.2.2.2.1, e.2.2.2.2.2.2.2.2.2.2.2.2.2.2.1, e.2.2.2.2.2.2.2.2.2.2.2.2.2.2.2.1, e.2.2.2.2.2.2.2.2.2.2.2.2.2.2.2.2.1, e.2.2.2.2.2.2.2.2.2.2.2.2.2.2.2.2.2.1, e.2.2.2.2.2.2.2.2.2.2.2.2.2.2.2.2.2.2.1, e.2.2.2.2.2.2.2.2.2.2.2.2.2.2.2.2.2.2.2, ()), ()))) (fun _ _ _ => rfl) (fun _ => rfl) (fun m z E Xc hE hX hrec hx => leaf_of_ev (B := opened_B) (loops := []) (leaves := [opened_l3_h (opened_l3 N m), opened_l3_e0, opened_j1_k N (opened_l3 N m)]) (opened_all N) mixed trivial hE hX ⟨hrec, (fun p hp => by obtain rfl := Option.some.inj hp; exact hx), opened_j1_lf N _ hE hX hrec (fun p hp => by obtain rfl := Option.some.inj hp; exact hx), trivial⟩ RetOK.no (fun p => opened_l3_eq N m p.1.2.2.1 p.1.2.2.2.1 p.1.2.2.2.2.1 p.1.2.2.2.2.2.1 p.1.2.2.2.2.2.2.1 p.1.2.2.2.2.2.2.2.1 p.1.2.2.2.2.2.2.2.2.1 p.1.2.2.2.2.2.2.2.2.2.1 p.1.2.2.2.2.2.2.2.2.2.2.1 p.1.2.2.2.2.2.2.2.2.2.2.2.1 p.1.2.2.2.2.2.2.2.2.2.2.2.2.1 p.1.2.2.2.2.2.2.2.2.2.2.2.2.2.1 p.1.2.2.2.2.2.2.2.2.2.2.2.2.2.2.1 p.2.1.1 p.2.1.2.1 p.2.1.2.2.1 p.2.1.2.2.2.1 p.2.1.2.2.2.2.1 p.2.2.1.1 p.2.2.1.2.1 p.2.2.1.2.2.1 p.2.2.1.2.2.2.1 p.2.2.1.2.2.2.2.1 p.2.2.1.2.2.2.2.2.1 p.2.2.1.2.2.2.2.2.2.1))
abbrev opened_l2_at : List PI := [.c [1, 1, 1, 0, 1, 0, 0, 1, 1, 0, 0, 1, 1, 0, 0, 0], .c [1, 1, 1, 0, 1, 0, 0, 1, 1, 0, 0, 1, 1, 0, 0, 1], .l [1, 1, 1, 0, 1, 0, 0, 1, 1, 0, 0, 1, 1, 0, 0], .b 2, .b 1, .c [1, 1, 1, 0, 1, 0, 0, 1, 1, 1], .l [1, 1, 1, 0, 1, 0, 0], .b 0, .c [1, 1, 1, 1]]
abbrev opened_l2_st : Sta := ⟨[1, 5, 6, 7, 21, 22, 23, 29, 30, 31], ⟨[.own 0 0, .own 1 0, .i .i64, .sl (.int .i64), .sl Qd, .i .i64, .i .i64, .sl Qd, .i .i64, .i .i64], [.segs [.sl (.int .i64), .i .i64, .sl Qd, .sl Qd, .sl (.int .i64)], .segs [.sl (.int .i64), .i .i64, .sl Qd, .sl Qd, .sl (.int .i64), .arr (.int .i64) 36, .arr (.int .i64) 36]]⟩⟩
abbrev opened_l2_h (rec : Int → Qe → Qw → Int → Int → Qw → Int → Int → Qe → Int → Qw → Qw → Qe → Qe → Int → Qw → Qw → Qe → Qe → Qe → Option Qy) : Leaf Qy := ⟨opened_l2_at, opened_l2_st, fun p => rec p.1.2.2.1 p.1.2.2.2.1 p.1.2.2.2.2.1 p.1.2.2.2.2.2.1 p.1.2.2.2.2.2.2.1 p.1.2.2.2.2.2.2.2.1 p.1.2.2.2.2.2.2.2.2.1 p.1.2.2.2.2.2.2.2.2.2.1 p.2.1.1 p.2.1.2.1 p.2.1.2.2.1 p.2.1.2.2.2.1 p.2.1.2.2.2.2.1 p.2.2.1.1 p.2.2.1.2.1 p.2.2.1.2.2.1 p.2.2.1.2.2.2.1 p.2.2.1.2.2.2.2.1 p.2.2.1.2.2.2.2.2.1 p.2.2.1.2.2.2.2.2.2.1⟩
abbrev opened_l2_e0 : Leaf Qy := ⟨[.c [1, 1, 1, 0, 1, 0, 0, 1, 1, 1], .l [1, 1, 1, 0, 1, 0, 0], .b 0, .c [1, 1, 1, 1]], ⟨[1, 5, 21, 22, 23], ⟨[.own 0 0, .own 1 0, .sl Qd, .i .i64, .i .i64], [.segs [.sl (.int .i64), .i .i64, .sl Qd, .sl Qd, .sl (.int .i64)], .segs [.sl (.int .i64), .i .i64, .sl Qd, .sl Qd, .sl (.int .i64), .arr (.int .i64) 36, .arr (.int .i64) 36]]⟩⟩, fun p => some ((p.1.2.2.1, p.1.2.2.2.1, p.1.2.2.2.2.1, p.2.1.1, p.2.1.2.1, p.2.1.2.2.1, p.2.1.2.2.2.1, p.2.1.2.2.2.2.1, p.2.2.1.1, p.2.2.1.2.1, p.2.2.1.2.2.1, p.2.2.1.2.2.2.1, p.2.2.1.2.2.2.2.1, p.2.2.1.2.2.2.2.2.1, p.2.2.1.2.2.2.2.2.2.1))⟩
noncomputable def opened_l2_L (N : Nat) : LoopS := { at_ := opened_l2_at, sta := opened_l2_st, exits := [([.c [1, 1, 1, 0, 1, 0, 0, 1, 1, 1], .l [1, 1, 1, 0, 1, 0, 0], .b 0, .c [1, 1, 1, 1]], ⟨[1, 5, 21, 22, 23], ⟨[.own 0 0, .own 1 0, .sl Qd, .i .i64, .i .i64], [.segs [.sl (.int .i64), .i .i64, .sl Qd, .sl Qd, .sl (.int .i64)], .segs [.sl (.int .i64), .i .i64, .sl Qd, .sl Qd, .sl (.int .i64), .arr (.int .i64) 36, .arr (.int .i64) 36]]⟩⟩)], run := fun p k => (opened_l2 N N p.1.2.2.1 p.1.2.2.2.1 p.1.2.2.2.2.1 p.1.2.2.2.2.2.1 p.1.2.2.2.2.2.2.1 p.1.2.2.2.2.2.2.2.1 p.1.2.2.2.2.2.2.2.2.1 p.1.2.2.2.2.2.2.2.2.2.1 p.2.1.1 p.2.1.2.1 p.2.1.2.2.1 p.2.1.2.2.2.1 p.2.1.2.2.2.2.1 p.2.2.1.1 p.2.2.1.2.1 p.2.2.1.2.2.1 p.2.2.1.2.2.2.1 p.2.2.1.2.2.2.2.1 p.2.2.1.2.2.2.2.2.1 p.2.2.1.2.2.2.2.2.2.1).bind fun e => k (.inl (((), (), e.1, e.2.1, e.2.2.1, ()), ((e.2.2.2.1, e.2.2.2.2.1, e.2.2.2.2.2.1, e.2.2.2.2.2.2.1, e.2.2.2.2.2.2.2.1, ()), (e.2.2.2.2.2.2.2.2.1, e.2.2.2.2.2.2.2.2.2.1, e.2.2.2.2.2.2.2.2.2.2.1, e.2.2.2.2.2.2.2.2.2.2.2.1, e.2.2.2.2.2.2.2.2.2.2.2.2.1, e.2.2.2.2.2.2.2.2.2.2.2.2.2.1, e.2.2.2.2.2.2.2.2.2.2.2.2.2.2, ()), ()))) }
theorem opened_l2_eq (N n_ : Nat) (i : Int) (a : List Int) (u : List Qe) (u2 : Int) (u3 : Int) (u4 : List Qe) (u5 : Int) (u6 : Int) (d : List Int) (d2 : Int) (d3 : List Qe) (d4 : List Qe) (d5 : List Int) (out : List Int) (out2 : Int) (out3 : List Qe) (out4 : List Qe) (out5 : List Int) (out6 : List Int) (out7 : List Int) : ev (Z := List Qe × Int × Int × List Int × Int × List Qe × List Qe × List Int × List Int × Int × List Qe × List Qe × List Int × List Int × List Int) Try.prog (opened_sp N) opened_B [opened_l3_L N] [opened_l2_h (opened_l2 N n_), opened_l2_e0] none 400 true opened_l2_at (stL opened_l2_st (((), (), i, a, u, u2, u3, u4, u5, u6, ()), ((d, d2, d3, d4, d5, ()), (out, out2, out3, out4, out5, out6, out7, ()), ()))) (stH opened_l2_st (((), (), i, a, u, u2, u3, u4, u5, u6, ()), ((d, d2, d3, d4, d5, ()), (out, out2, out3, out4, out5, out6, out7, ()), ()))) = opened_l2 N (n_ + 1) i a u u2 u3 u4 u5 u6 d d2 d3 d4 d5 out out2 out3 out4 out5 out6 out7 := by kernel_rfl
theorem opened_l2_ok (N : Nat) {top : Bool} : LoopOK Try.prog opened_B.c opened_B.n opened_B.m0 top (opened_l2_L N) := loop_of_ev (Z := List Qe × Int × Int × List Int × Int × List Qe × List Qe × List Int × List Int × Int × List Qe × List Qe × List Int × List Int × List Int) (N := N) (fun m p => opened_l2 N m p.1.2.2.1 p.1.2.2.2.1 p.1.2.2.2.2.1 p.1.2.2.2.2.2.1 p.1.2.2.2.2.2.2.1 p.1.2.2.2.2.2.2.2.1 p.1.2.2.2.2.2.2.2.2.1 p.1.2.2.2.2.2.2.2.2.2.1 p.2.1.1 p.2.1.2.1 p.2.1.2.2.1 p.2.1.2.2.2.1 p.2.1.2.2.2.2.1 p.2.2.1.1 p.2.2.1.2.1 p.2.2.1.2.2.1 p.2.2.1.2.2.2.1 p.2.2.1.2.2.2.2.1 p.2.2.1.2.2.2.2.2.1 p.2.2.1.2.2.2.2.2.2.1) (fun e => .inl (((), (), e.1, e.2.1, e.2.2.1, ()), ((e.2.2.2.1, e.2.2.2.2.1, e.2.2.2.2.2.1, e.2.2.2.2.2.2.1, e.2.2.2.2.2.2.2.1, ()), (e.2.2.2.2.2.2.2.2.1, e.2.2.2.2.2.2.2.2.2.1, e.2.2.2.2.2.2.2.2.2.2.1, e.2.2.2.2.2.2.2.2.2.2.2.1, e.2.2.2.2.2.2.2.2.2.2.2.2.1, e.2.2.2.2.2.2.2.2.2.2.2.2.2.1, e.2.2.2.2.2.2.2.2.2.2.2.2.2.2, ()), ()))) (fun _ _ _ => rfl) (fun _ => rfl) (fun m z E Xc hE hX hrec hx => leaf_of_ev (B := opened_B) (loops := [opened_l3_L N]) (leaves := [opened_l2_h (opened_l2 N m), opened_l2_e0]) (opened_all N) mixed ⟨opened_l3_ok N, trivial⟩ hE hX ⟨hrec, (fun p hp => by obtain rfl := Option.some.inj hp; exact hx), trivial⟩ RetOK.no (fun p => opened_l2_eq N m p.1.2.2.1 p.1.2.2.2.1 p.1.2.2.2.2.1 p.1.2.2.2.2.2.1 p.1.2.2.2.2.2.2.1 p.1.2.2.2.2.2.2.2.1 p.1.2.2.2.2.2.2.2.2.1 p.1.2.2.2.2.2.2.2.2.2.1 p.2.1.1 p.2.1.2.1 p.2.1.2.2.1 p.2.1.2.2.2.1 p.2.1.2.2.2.2.1 p.2.2.1.1 p.2.2.1.2.1 p.2.2.1.2.2.1 p.2.2.1.2.2.2.1 p.2.2.1.2.2.2.2.1 p.2.2.1.2.2.2.2.2.1 p.2.2.1.2.2.2.2.2.2.1))
abbrev opened_l1_at : List PI := [.c [1, 1, 1, 0, 1, 0, 0, 0], .c [1, 1, 1, 0, 1, 0, 0, 1], .l [1, 1, 1, 0, 1, 0, 0], .b 0, .c [1, 1, 1, 1]]
abbrev opened_l1_st : Sta := ⟨[1, 5, 21, 22, 23], ⟨[.own 0 0, .own 1 0, .sl Qd, .i .i64, .i .i64], [.segs [.sl (.int .i64), .i .i64, .sl Qd, .sl Qd, .sl (.int .i64)], .segs [.sl (.int .i64), .i .i64, .sl Qd, .sl Qd, .sl (.int .i64), .arr (.int .i64) 36, .arr (.int .i64) 36]]⟩⟩
abbrev opened_l1_h (rec : Qw → Int → Int → Qe → Int → Qw → Qw → Qe → Qe → Int → Qw → Qw → Qe → Qe → Qe → Option (List Int × Int × List Qe × List Qe × List Int × List Int × List Int)) : Leaf (List Int × Int × List Qe × List Qe × List Int × List Int × List Int) := ⟨opened_l1_at, opened_l1_st, fun p => rec p.1.2.2.1 p.1.2.2.2.1 p.1.2.2.2.2.1 p.2.1.1 p.2.1.2.1 p.2.1.2.2.1 p.2.1.2.2.2.1 p.2.1.2.2.2.2.1 p.2.2.1.1 p.2.2.1.2.1 p.2.2.1.2.2.1 p.2.2.1.2.2.2.1 p.2.2.1.2.2.2.2.1 p.2.2.1.2.2.2.2.2.1 p.2.2.1.2.2.2.2.2.2.1⟩
abbrev opened_l1_e0 : Leaf (List Int × Int × List Qe × List Qe × List Int × List Int × List Int) := ⟨[.c [1, 1, 1, 1, 0], .c [1, 1, 1, 1, 1]], ⟨[5], ⟨[.own 0 0], [.segs [.sl (.int .i64), .i .i64, .sl Qd, .sl Qd, .sl (.int .i64), .arr (.int .i64) 36, .arr (.int .i64) 36]]⟩⟩, fun p => some ((p.2.1.1, p.2.1.2.1, p.2.1.2.2.1, p.2.1.2.2.2.1, p.2.1.2.2.2.2.1, p.2.1.2.2.2.2.2.1, p.2.1.2.2.2.2.2.2.1))⟩
noncomputable def opened_l1_L (N : Nat) : LoopS := { at_ := opened_l1_at, sta := opened_l1_st, exits := [([.c [1, 1, 1, 1, 0], .c [1, 1, 1, 1, 1]], ⟨[5], ⟨[.own 0 0], [.segs [.sl (.int .i64), .i .i64, .sl Qd, .sl Qd, .sl (.int .i64), .arr (.int .i64) 36, .arr (.int .i64) 36]]⟩⟩)], run := fun p k => (opened_l1 N N p.1.2.2.1 p.1.2.2.2.1 p.1.2.2.2.2.1 p.2.1.1 p.2.1.2.1 p.2.1.2.2.1 p.2.1.2.2.2.1 p.2.1.2.2.2.2.1 p.2.2.1.1 p.2.2.1.2.1 p.2.2.1.2.2.1 p.2.2.1.2.2.2.1 p.2.2.1.2.2.2.2.1 p.2.2.1.2.2.2.2.2.1 p.2.2.1.2.2.2.2.2.2.1).bind fun e => k (.inl (((), ()), ((e.1, e.2.1, e.2.2.1, e.2.2.2.1, e.2.2.2.2.1, e.2.2.2.2.2.1, e.2.2.2.2.2.2, ()), ()))) }
theorem opened_l1_eq (N n_ : Nat) (u : List Qe) (u2 : Int) (u3 : Int) (d : List Int) (d2 : Int) (d3 : List Qe) (d4 : List Qe) (d5 : List Int) (out : List Int) (out2 : Int) (out3 : List Qe) (out4 : List Qe) (out5 : List Int) (out6 : List Int) (out7 : List Int) : ev (Z := List Int × Int × List Qe × List Qe × List Int × List Int × List Int) Try.prog (opened_sp N) opened_B [opened_l3_L N, opened_l2_L N] [opened_l1_h (opened_l1 N n_), opened_l1_e0] none 400 true opened_l1_at (stL opened_l1_st (((), (), u, u2, u3, ()), ((d, d2, d3, d4, d5, ()), (out, out2, out3, out4, out5, out6, out7, ()), ()))) (stH opened_l1_st (((), (), u, u2, u3, ()), ((d, d2, d3, d4, d5, ()), (out, out2, out3, out4, out5, out6, out7, ()), ()))) = opened_l1 N (n_ + 1) u u2 u3 d d2 d3 d4 d5 out out2 out3 out4 out5 out6 out7 := by kernel_rfl
theorem opened_l1_ok (N : Nat) {top : Bool} : LoopOK Try.prog opened_B.c opened_B.n opened_B.m0 top (opened_l1_L N) := loop_of_ev (Z := List Int × Int × List Qe × List Qe × List Int × List Int × List Int) (N := N) (fun m p => opened_l1 N m p.1.2.2.1 p.1.2.2.2.1 p.1.2.2.2.2.1 p.2.1.1 p.2.1.2.1 p.2.1.2.2.1 p.2.1.2.2.2.1 p.2.1.2.2.2.2.1 p.2.2.1.1 p.2.2.1.2.1 p.2.2.1.2.2.1 p.2.2.1.2.2.2.1 p.2.2.1.2.2.2.2.1 p.2.2.1.2.2.2.2.2.1 p.2.2.1.2.2.2.2.2.2.1) (fun e => .inl (((), ()), ((e.1, e.2.1, e.2.2.1, e.2.2.2.1, e.2.2.2.2.1, e.2.2.2.2.2.1, e.2.2.2.2.2.2, ()), ()))) (fun _ _ _ => rfl) (fun _ => rfl) (fun m z E Xc hE hX hrec hx => leaf_of_ev (B := opened_B) (loops := [opened_l3_L N, opened_l2_L N]) (leaves := [opened_l1_h (opened_l1 N m), opened_l1_e0]) (opened_all N) mixed ⟨opened_l3_ok N, opened_l2_ok N, trivial⟩ hE hX ⟨hrec, (fun p hp => by obtain rfl := Option.some.inj hp; exact hx), trivial⟩ RetOK.no (fun p => opened_l1_eq N m p.1.2.2.1 p.1.2.2.2.1 p.1.2.2.2.2.1 p.2.1.1 p.2.1.2.1 p.2.1.2.2.1 p.2.1.2.2.2.1 p.2.1.2.2.2.2.1 p.2.2.1.1 p.2.2.1.2.1 p.2.2.1.2.2.1 p.2.2.1.2.2.2.1 p.2.2.1.2.2.2.2.1 p.2.2.1.2.2.2.2.2.1 p.2.2.1.2.2.2.2.2.2.1))
abbrev opened_st : Sta := ⟨[0], ⟨[.agg [.sl (.int .i64), .i .i64, .sl Qd, .sl Qd, .sl (.int .i64)]], []⟩⟩
theorem opened_eq (N : Nat) (d : List Int) (d2 : Int) (d3 : List Qe) (d4 : List Qe) (d5 : List Int) : ev (Z := ((List Int × Int × List Qe × List Qe × List Int × List Int × List Int × Unit) × Int) ⊕ (Int)) Try.prog (opened_sp N) opened_B [opened_l3_L N, opened_l2_L N, opened_l1_L N] [] (some opened_rt) 400 false [.c [0], .c [1]] (stL opened_st (((d, d2, d3, d4, d5, ()), ()), ())) (stH opened_st (((d, d2, d3, d4, d5, ()), ()), ())) = opened_S N d d2 d3 d4 d5 := by kernel_rfl
noncomputable def sp_opened (N : Nat) : Spec := { f := 33, ins := ⟨[.agg [.sl (.int .i64), .i .i64, .sl Qd, .sl Qd, .sl (.int .i64)]], []⟩, outs := [⟨[.fz [.sl (.int .i64), .i .i64, .sl Qd, .sl Qd, .sl (.int .i64), .arr (.int .i64) 36, .arr (.int .i64) 36], .i .i64], []⟩, ⟨[.nilp, .i .i64], []⟩], run := fun p k => (opened_S N p.1.1.1 p.1.1.2.1 p.1.1.2.2.1 p.1.1.2.2.2.1 p.1.1.2.2.2.2.1).bind fun r => match r with | .inl r => k (.inl ((r.1, r.2, ()), ())) | .inr r => k (.inr (((), r, ()), ())) }
theorem sp_opened_ok (N : Nat) : SpecOK Try.prog (sp_opened N) := fn_sound (B := opened_B) (loops := [opened_l3_L N, opened_l2_L N, opened_l1_L N]) (leaves := []) (fun p => opened_S N p.1.1.1 p.1.1.2.1 p.1.1.2.2.1 p.1.1.2.2.2.1 p.1.1.2.2.2.2.1) (fun r => match r with | .inl r => (.inl ((r.1, r.2, ()), ())) | .inr r => (.inr (((), r, ()), ()))) opened_rt (fun _ p k => bind_congr_ (opened_S N p.1.1.1 p.1.1.2.1 p.1.1.2.2.1 p.1.1.2.2.2.1 p.1.1.2.2.2.2.1) _ _ (fun e => by rcases e with x | x <;> rfl)) (fun r z h => by rcases r with x | x <;> (cases h; rfl)) Try.func33 (by kernel_rfl) (by kernel_rfl) (by kernel_rfl) rfl rfl (by kernel_rfl) (fun args w => Sem.pv_run _ _ _ (by kernel_rfl) w) (opened_all N) mixed ⟨opened_l3_ok N, opened_l2_ok N, opened_l1_ok N, trivial⟩ (fun z E Xc hE hX hret => trivial) (fun p => opened_eq N p.1.1.1 p.1.1.2.1 p.1.1.2.2.1 p.1.1.2.2.2.1 p.1.1.2.2.2.2.1)

def made1_S (N : Nat) (often : Int) (g : List Int) (g2 : Int) (g3 : Int) : Option (Int × List Int × Int × Int) :=
  (seldom_S N often g g2 g3).bind fun (x_1, y_2, y_3, y_4) =>
  br x_1
    (some (-1, y_2, y_3, y_4))
    ((stroke_S N 2 y_2 y_3 y_4).bind fun (x_5, y_6, y_7, y_8) =>
    some (x_5, y_6, y_7, y_8))
noncomputable def made1_sp (N : Nat) : List Spec := [sp_stroke N, sp_seldom N]
theorem made1_all (N : Nat) : AllP (SpecOK Try.prog) (made1_sp N) := ⟨sp_stroke_ok N, sp_seldom_ok N, trivial⟩
noncomputable def made1_c : Code := (Try.f32.body).getD .skip
noncomputable abbrev made1_B : Body := { c := made1_c, n := 9, res := [.tmp 3], outs := [⟨[.i .i64], [.segs [.own 1 0], .segs [.sl (.int .u8), .i .i64, .i .u32]]⟩], m0 := 2 }
abbrev made1_rt : altD made1_B.outs → Option (Int × List Int × Int × Int) := fun r => some (r.1.1, r.2.2.1.1, r.2.2.1.2.1, r.2.2.1.2.2.1)
abbrev made1_st : Sta := ⟨[0, 1], ⟨[.i .i64, .own 0 0], [.segs [.own 1 0], .segs [.sl (.int .u8), .i .i64, .i .u32]]⟩⟩
theorem made1_eq (N : Nat) (often : Int) (g : List Int) (g2 : Int) (g3 : Int) : ev (Z := Int × List Int × Int × Int) Try.prog (made1_sp N) made1_B [] [] (some made1_rt) 400 false [.c [0], .c [1]] (stL made1_st ((often, (), ()), (((), ()), (g, g2, g3, ()), ()))) (stH made1_st ((often, (), ()), (((), ()), (g, g2, g3, ()), ()))) = made1_S N often g g2 g3 := by kernel_rfl
noncomputable def sp_made1 (N : Nat) : Spec := { f := 32, ins := ⟨[.i .i64, .own 0 0], [.segs [.own 1 0], .segs [.sl (.int .u8), .i .i64, .i .u32]]⟩, outs := [⟨[.i .i64], [.segs [.own 1 0], .segs [.sl (.int .u8), .i .i64, .i .u32]]⟩], run := fun p k => (made1_S N p.1.1 p.2.2.1.1 p.2.2.1.2.1 p.2.2.1.2.2.1).bind fun r => k ((r.1, ()), (((), ()), (r.2.1, r.2.2.1, r.2.2.2, ()), ())) }
theorem sp_made1_ok (N : Nat) : SpecOK Try.prog (sp_made1 N) := fn_sound (B := made1_B) (loops := []) (leaves := []) (fun p => made1_S N p.1.1 p.2.2.1.1 p.2.2.1.2.1 p.2.2.1.2.2.1) (fun r => ((r.1, ()), (((), ()), (r.2.1, r.2.2.1, r.2.2.2, ()), ()))) made1_rt (fun _ _ _ => rfl) (fun r z h => by cases h; rfl) Try.func32 (by kernel_rfl) (by kernel_rfl) (by kernel_rfl) rfl rfl (by kernel_rfl) (fun args w => Sem.pv_run _ _ _ (by kernel_rfl) w) (made1_all N) mixed trivial (fun z E Xc hE hX hret => trivial) (fun p => made1_eq N p.1.1 p.2.2.1.1 p.2.2.1.2.1 p.2.2.1.2.2.1)

def made_l1 (N : Nat) : Nat → Int → Int → Int → Qe → Int → Int → Int → Int → Qe → Option (Int × List Int × Int × Int × Int × Int × List Int)
  | 0, _, _, _, _, _, _, _, _, _ => none
  | n_ + 1, things, u, u2, b, b2, b3, g, d, d2 =>
    br (decide (u2 < u))
      ((strike_S N 1 9 b b2 b3).bind fun (x_9, y_10, y_11, y_12) =>
      lim (d2.length + [x_9].length) <|
      chk (u2 + 1) <|
      made_l1 N n_ things u (u2 + 1) y_10 y_11 y_12 g d (d2 ++ [x_9]))
      (some ((things, b, b2, b3, g, d, d2)))
def made_l3 (N : Nat) : Nat → Int → Int → Int → Int → Int → Int → Qe → Int → Int → Int → Int → Qe → Qe → Qw → Qe → Option QD
  | 0, _, _, _, _, _, _, _, _, _, _, _, _, _, _, _ => none
  | n_ + 1, many, often, u, u2, u3, u4, b, b2, b3, g, d, l, d2, d3, d4 =>
    br (decide (u4 < u3))
      ((made1_S N often b b2 b3).bind fun (x_32, y_33, y_34, y_35) =>
      lim (l.length + [x_32].length) <|
      chk (u4 + 1) <|
      made_l3 N n_ many often u u2 u3 (u4 + 1) y_33 y_34 y_35 g d (l ++ [x_32]) d2 d3 d4)
      (some ((many, often, u, u2, b, b2, b3, g, d, l, d2, d3, d4)))
def made_l2 (N : Nat) : Nat → Int → Int → Int → Int → Qe → Int → Int → Int → Int → Qe → Qw → Qe → Option (Int × Int × List Int × Int × Int × Int × Int × List Int × List Qe × List Int)
  | 0, _, _, _, _, _, _, _, _, _, _, _, _ => none
  | n_ + 1, many, often, u, u2, b, b2, b3, g, d, d2, d3, d4 =>
    br (decide (u2 < u))
      ((made_l3 N N many often u u2 (d2.length : Int) 0 b b2 b3 g d [] d2 d3 d4).bind fun (many_36, often_37, u_38, u2_39, b_40, b2_41, b3_42, g_43, d_44, l_45, d2_46, d3_47, d4_48) =>
      lim (d3_47.length + [l_45].length) <|
      (stroke_S N 30 b_40 b2_41 b3_42).bind fun (x_49, y_50, y_51, y_52) =>
      lim (d4_48.length + [x_49].length) <|
      chk (u2_39 + 1) <|
      made_l2 N n_ many_36 often_37 u_38 (u2_39 + 1) y_50 y_51 y_52 g_43 d_44 d2_46 (d3_47 ++ [l_45]) (d4_48 ++ [x_49]))
      (some ((many, often, b, b2, b3, g, d, d2, d3, d4)))
def made_l5 (N : Nat) : Nat → Int → Int → Int → Int → Int → Qe → Int → Int → Int → Int → Qe → Qe → Qw → Qw → Qe → Option QC
  | 0, _, _, _, _, _, _, _, _, _, _, _, _, _, _, _ => none
  | n_ + 1, often, u, u2, u3, u4, value, value2, value3, g, d, l, d2, d3, d4, d5 =>
    br (decide (u4 < u3))
      ((made1_S N often value value2 value3).bind fun (x_63, y_64, y_65, y_66) =>
      lim (l.length + [x_63].length) <|
      chk (u4 + 1) <|
      made_l5 N n_ often u u2 u3 (u4 + 1) y_64 y_65 y_66 g d (l ++ [x_63]) d2 d3 d4 d5)
      (some ((often, u, u2, value, value2, value3, g, d, l, d2, d3, d4, d5)))
def made_l4 (N : Nat) : Nat → Int → Int → Int → Qe → Int → Int → Int → Int → Qe → Qw → Qw → Qe → Option (List Int × Int × Int × Int × Int × List Int × List Qe × List Qe × List Int)
  | 0, _, _, _, _, _, _, _, _, _, _, _, _ => none
  | n_ + 1, often, u, u2, value, value2, value3, g, d, d2, d3, d4, d5 =>
    br (decide (u2 < u))
      ((made_l5 N N often u u2 (d2.length : Int) 0 value value2 value3 g d [] d2 d3 d4 d5).bind fun (often_67, u_68, u2_69, value_70, value2_71, value3_72, g_73, d_74, l_75, d2_76, d3_77, d4_78, d5_79) =>
      lim (d4_78.length + [l_75].length) <|
      chk (u2_69 + 1) <|
      made_l4 N n_ often_67 u_68 (u2_69 + 1) value_70 value2_71 value3_72 g_73 d_74 d2_76 d3_77 (d4_78 ++ [l_75]) d5_79)
      (some ((value, value2, value3, g, d, d2, d3, d4, d5)))
def made_S (N : Nat) (things : Int) (b : List Int) (b2 : Int) (b3 : Int) : Option (List Int × Int × List Qe × List Qe × List Int × List Int × Int × Int) :=
  (stroke_S N 2 b b2 b3).bind fun (x_1, y_2, y_3, y_4) =>
  (strike_S N 1 5 y_2 y_3 y_4).bind fun (x_5, y_6, y_7, y_8) =>
  (made_l1 N N things x_5 0 y_6 y_7 y_8 0 x_1 []).bind fun (things_13, b_14, b2_15, b3_16, g_17, d_18, d2_19) =>
  (stroke_S N things_13 b_14 b2_15 b3_16).bind fun (x_20, y_21, y_22, y_23) =>
  (strike_S N 2 5 y_21 y_22 y_23).bind fun (x_24, y_25, y_26, y_27) =>
  (stroke_S N things_13 y_25 y_26 y_27).bind fun (x_28, y_29, y_30, y_31) =>
  (made_l2 N N x_20 x_24 x_28 0 y_29 y_30 y_31 g_17 d_18 d2_19 [] []).bind fun (many_53, often_54, value_55, value2_56, value3_57, g_58, d_59, d2_60, d3_61, d4_62) =>
  (made_l4 N N often_54 many_53 0 value_55 value2_56 value3_57 g_58 d_59 d2_60 d3_61 [] d4_62).bind fun (g_80, g2_81, g3_82, g4_83, d_84, d2_85, d3_86, d4_87, d5_88) =>
  some (d2_85, d_84, d3_86, d4_87, d5_88, g_80, g2_81, g3_82)
noncomputable def made_sp (N : Nat) : List Spec := [sp_stroke N, sp_strike N, sp_made1 N]
theorem made_all (N : Nat) : AllP (SpecOK Try.prog) (made_sp N) := ⟨sp_stroke_ok N, sp_strike_ok N, sp_made1_ok N, trivial⟩
noncomputable def made_c : Code := (Try.f7.body).getD .skip
noncomputable abbrev made_B : Body := { c := made_c, n := 86, res := [.cell 4 26], outs := [⟨[.agg [.sl (.int .i64), .i .i64, .sl Qd, .sl Qd, .sl (.int .i64)]], [.segs [.sl (.int .u8), .i .i64, .i .u32]]⟩], m0 := 1 }
abbrev made_rt : altD made_B.outs → Option (List Int × Int × List Qe × List Qe × List Int × List Int × Int × Int) := fun r => some (r.1.1.1, r.1.1.2.1, r.1.1.2.2.1, r.1.1.2.2.2.1, r.1.1.2.2.2.2.1, r.2.1.1, r.2.1.2.1, r.2.1.2.2.1)
abbrev made_l1_at : List PI := [.c [1, 1, 0, 1, 0, 0, 0], .c [1, 1, 0, 1, 0, 0, 1], .l [1, 1, 0, 1, 0, 0], .b 0, .c [1, 1, 1]]
abbrev made_l1_st : Sta := ⟨[1, 2, 4, 5, 15, 16], ⟨[.i .i64, .own 1 0, .own 2 0, .own 3 0, .i .i64, .i .i64], [.segs [.sl (.int .u8), .i .i64, .i .u32], .segs [.own 0 0], .segs [.nils, .i .i64, .nils, .nils, .nils], .segs [.ols 4, .i .i64, .nils, .nils, .nils], .lst (.int .i64)]⟩⟩
abbrev made_l1_h (rec : Int → Int → Int → Qe → Int → Int → Int → Int → Qe → Option (Int × List Int × Int × Int × Int × Int × List Int)) : Leaf (Int × List Int × Int × Int × Int × Int × List Int) := ⟨made_l1_at, made_l1_st, fun p => rec p.1.1 p.1.2.2.2.2.1 p.1.2.2.2.2.2.1 p.2.1.1 p.2.1.2.1 p.2.1.2.2.1 p.2.2.2.1.2.1 p.2.2.2.2.1.2.1 p.2.2.2.2.2.1⟩
abbrev made_l1_e0 : Leaf (Int × List Int × Int × Int × Int × Int × List Int) := ⟨[.c [1, 1, 1, 0], .c [1, 1, 1, 1]], ⟨[1, 2, 4, 5], ⟨[.i .i64, .own 1 0, .own 2 0, .own 3 0], [.segs [.sl (.int .u8), .i .i64, .i .u32], .segs [.own 0 0], .segs [.nils, .i .i64, .nils, .nils, .nils], .segs [.ols 4, .i .i64, .nils, .nils, .nils], .lst (.int .i64)]⟩⟩, fun p => some ((p.1.1, p.2.1.1, p.2.1.2.1, p.2.1.2.2.1, p.2.2.2.1.2.1, p.2.2.2.2.1.2.1, p.2.2.2.2.2.1))⟩
noncomputable def made_l1_L (N : Nat) : LoopS := { at_ := made_l1_at, sta := made_l1_st, exits := [([.c [1, 1, 1, 0], .c [1, 1, 1, 1]], ⟨[1, 2, 4, 5], ⟨[.i .i64, .own 1 0, .own 2 0, .own 3 0], [.segs [.sl (.int .u8), .i .i64, .i .u32], .segs [.own 0 0], .segs [.nils, .i .i64, .nils, .nils, .nils], .segs [.ols 4, .i .i64, .nils, .nils, .nils], .lst (.int .i64)]⟩⟩)], run := fun p k => (made_l1 N N p.1.1 p.1.2.2.2.2.1 p.1.2.2.2.2.2.1 p.2.1.1 p.2.1.2.1 p.2.1.2.2.1 p.2.2.2.1.2.1 p.2.2.2.2.1.2.1 p.2.2.2.2.2.1).bind fun e => k (.inl ((e.1, (), (), (), ()), ((e.2.1, e.2.2.1, e.2.2.2.1, ()), ((), ()), ((), e.2.2.2.2.1, (), (), (), ()), ((), e.2.2.2.2.2.1, (), (), (), ()), e.2.2.2.2.2.2, ()))) }
theorem made_l1_eq (N n_ : Nat) (things : Int) (u : Int) (u2 : Int) (b : List Int) (b2 : Int) (b3 : Int) (g : Int) (d : Int) (d2 : List Int) : ev (Z := Int × List Int × Int × Int × Int × Int × List Int) Try.prog (made_sp N) made_B [] [made_l1_h (made_l1 N n_), made_l1_e0] none 400 true made_l1_at (stL made_l1_st ((things, (), (), (), u, u2, ()), ((b, b2, b3, ()), ((), ()), ((), g, (), (), (), ()), ((), d, (), (), (), ()), d2, ()))) (stH made_l1_st ((things, (), (), (), u, u2, ()), ((b, b2, b3, ()), ((), ()), ((), g, (), (), (), ()), ((), d, (), (), (), ()), d2, ()))) = made_l1 N (n_ + 1) things u u2 b b2 b3 g d d2 := by kernel_rfl
theorem made_l1_ok (N : Nat) {top : Bool} : LoopOK Try.prog made_B.c made_B.n made_B.m0 top (made_l1_L N) := loop_of_ev (Z := Int × List Int × Int × Int × Int × Int × List Int) (N := N) (fun m p => made_l1 N m p.1.1 p.1.2.2.2.2.1 p.1.2.2.2.2.2.1 p.2.1.1 p.2.1.2.1 p.2.1.2.2.1 p.2.2.2.1.2.1 p.2.2.2.2.1.2.1 p.2.2.2.2.2.1) (fun e => .inl ((e.1, (), (), (), ()), ((e.2.1, e.2.2.1, e.2.2.2.1, ()), ((), ()), ((), e.2.2.2.2.1, (), (), (), ()), ((), e.2.2.2.2.2.1, (), (), (), ()), e.2.2.2.2.2.2, ()))) (fun _ _ _ => rfl) (fun _ => rfl) (fun m z E Xc hE hX hrec hx => leaf_of_ev (B := made_B) (loops := []) (leaves := [made_l1_h (made_l1 N m), made_l1_e0]) (made_all N) mixed trivial hE hX ⟨hrec, (fun p hp => by obtain rfl := Option.some.inj hp; exact hx), trivial⟩ RetOK.no (fun p => made_l1_eq N m p.1.1 p.1.2.2.2.2.1 p.1.2.2.2.2.2.1 p.2.1.1 p.2.1.2.1 p.2.1.2.2.1 p.2.2.2.1.2.1 p.2.2.2.2.1.2.1 p.2.2.2.2.2.1))
abbrev made_l3_at : List PI := [.c [1, 1, 1, 1, 1, 0, 1, 0, 0, 1, 1, 0, 0, 1, 0, 1, 0, 0, 0], .c [1, 1, 1, 1, 1, 0, 1, 0, 0, 1, 1, 0, 0, 1, 0, 1, 0, 0, 1], .l [1, 1, 1, 1, 1, 0, 1, 0, 0, 1, 1, 0, 0, 1, 0, 1, 0, 0], .b 4, .c [1, 1, 1, 1, 1, 0, 1, 0, 0, 1, 1, 0, 0, 1, 1], .b 3, .c [1, 1, 1, 1, 1, 0, 1, 0, 0, 1, 1, 1], .l [1, 1, 1, 1, 1, 0, 1, 0, 0], .b 2, .c [1, 1, 1, 1, 1, 1]]
abbrev made_l3_st : Sta := ⟨[2, 4, 5, 6, 7, 8, 9, 34, 35, 39, 40], ⟨[.own 1 0, .own 2 0, .own 3 0, .fn 32 [] [.own 1 0], .i .i64, .i .i64, .ols 4, .i .i64, .i .i64, .i .i64, .i .i64], [.segs [.sl (.int .u8), .i .i64, .i .u32], .segs [.own 0 0], .segs [.nils, .i .i64, .nils, .nils, .nils], .segs [.ols 5, .i .i64, .ols 6, .nils, .ols 7], .lst (.int .i64), .lst (.int .i64), .lst Qd, .lst (.int .i64)]⟩⟩
abbrev made_l3_h (rec : Int → Int → Int → Int → Int → Int → Qe → Int → Int → Int → Int → Qe → Qe → Qw → Qe → Option QD) : Leaf QD := ⟨made_l3_at, made_l3_st, fun p => rec p.1.2.2.2.2.1 p.1.2.2.2.2.2.1 p.1.2.2.2.2.2.2.2.1 p.1.2.2.2.2.2.2.2.2.1 p.1.2.2.2.2.2.2.2.2.2.1 p.1.2.2.2.2.2.2.2.2.2.2.1 p.2.1.1 p.2.1.2.1 p.2.1.2.2.1 p.2.2.2.1.2.1 p.2.2.2.2.1.2.1 p.2.2.2.2.2.1 p.2.2.2.2.2.2.1 p.2.2.2.2.2.2.2.1 p.2.2.2.2.2.2.2.2.1⟩
abbrev made_l3_e0 : Leaf QD := ⟨[.c [1, 1, 1, 1, 1, 0, 1, 0, 0, 1, 1, 0, 0, 1, 1], .b 3, .c [1, 1, 1, 1, 1, 0, 1, 0, 0, 1, 1, 1], .l [1, 1, 1, 1, 1, 0, 1, 0, 0], .b 2, .c [1, 1, 1, 1, 1, 1]], ⟨[2, 4, 5, 6, 7, 8, 9, 34, 35], ⟨[.own 1 0, .own 2 0, .own 3 0, .fn 32 [] [.own 1 0], .i .i64, .i .i64, .ols 4, .i .i64, .i .i64], [.segs [.sl (.int .u8), .i .i64, .i .u32], .segs [.own 0 0], .segs [.nils, .i .i64, .nils, .nils, .nils], .segs [.ols 5, .i .i64, .ols 6, .nils, .ols 7], .lst (.int .i64), .lst (.int .i64), .lst Qd, .lst (.int .i64)]⟩⟩, fun p => some ((p.1.2.2.2.2.1, p.1.2.2.2.2.2.1, p.1.2.2.2.2.2.2.2.1, p.1.2.2.2.2.2.2.2.2.1, p.2.1.1, p.2.1.2.1, p.2.1.2.2.1, p.2.2.2.1.2.1, p.2.2.2.2.1.2.1, p.2.2.2.2.2.1, p.2.2.2.2.2.2.1, p.2.2.2.2.2.2.2.1, p.2.2.2.2.2.2.2.2.1))⟩
noncomputable def made_l3_L (N : Nat) : LoopS := { at_ := made_l3_at, sta := made_l3_st, exits := [([.c [1, 1, 1, 1, 1, 0, 1, 0, 0, 1, 1, 0, 0, 1, 1], .b 3, .c [1, 1, 1, 1, 1, 0, 1, 0, 0, 1, 1, 1], .l [1, 1, 1, 1, 1, 0, 1, 0, 0], .b 2, .c [1, 1, 1, 1, 1, 1]], ⟨[2, 4, 5, 6, 7, 8, 9, 34, 35], ⟨[.own 1 0, .own 2 0, .own 3 0, .fn 32 [] [.own 1 0], .i .i64, .i .i64, .ols 4, .i .i64, .i .i64], [.segs [.sl (.int .u8), .i .i64, .i .u32], .segs [.own 0 0], .segs [.nils, .i .i64, .nils, .nils, .nils], .segs [.ols 5, .i .i64, .ols 6, .nils, .ols 7], .lst (.int .i64), .lst (.int .i64), .lst Qd, .lst (.int .i64)]⟩⟩)], run := fun p k => (made_l3 N N p.1.2.2.2.2.1 p.1.2.2.2.2.2.1 p.1.2.2.2.2.2.2.2.1 p.1.2.2.2.2.2.2.2.2.1 p.1.2.2.2.2.2.2.2.2.2.1 p.1.2.2.2.2.2.2.2.2.2.2.1 p.2.1.1 p.2.1.2.1 p.2.1.2.2.1 p.2.2.2.1.2.1 p.2.2.2.2.1.2.1 p.2.2.2.2.2.1 p.2.2.2.2.2.2.1 p.2.2.2.2.2.2.2.1 p.2.2.2.2.2.2.2.2.1).bind fun e => k (.inl (((), (), (), ((), ((), ())), e.1, e.2.1, (), e.2.2.1, e.2.2.2.1, ()), ((e.2.2.2.2.1, e.2.2.2.2.2.1, e.2.2.2.2.2.2.1, ()), ((), ()), ((), e.2.2.2.2.2.2.2.1, (), (), (), ()), ((), e.2.2.2.2.2.2.2.2.1, (), (), (), ()), e.2.2.2.2.2.2.2.2.2.1, e.2.2.2.2.2.2.2.2.2.2.1, e.2.2.2.2.2.2.2.2.2.2.2.1, e.2.2.2.2.2.2.2.2.2.2.2.2, ()))) }
theorem made_l3_eq (N n_ : Nat) (many : Int) (often : Int) (u : Int) (u2 : Int) (u3 : Int) (u4 : Int) (b : List Int) (b2 : Int) (b3 : Int) (g : Int) (d : Int) (l : List Int) (d2 : List Int) (d3 : List Qe) (d4 : List Int) : ev (Z := Int × Int × Int × Int × List Int × Int × Int × Int × Int × List Int × List Int × List Qe × List Int) Try.prog (made_sp N) made_B [made_l1_L N] [made_l3_h (made_l3 N n_), made_l3_e0] none 400 true made_l3_at (stL made_l3_st (((), (), (), ((), ((), ())), many, often, (), u, u2, u3, u4, ()), ((b, b2, b3, ()), ((), ()), ((), g, (), (), (), ()), ((), d, (), (), (), ()), l, d2, d3, d4, ()))) (stH made_l3_st (((), (), (), ((), ((), ())), many, often, (), u, u2, u3, u4, ()), ((b, b2, b3, ()), ((), ()), ((), g, (), (), (), ()), ((), d, (), (), (), ()), l, d2, d3, d4, ()))) = made_l3 N (n_ + 1) many often u u2 u3 u4 b b2 b3 g d l d2 d3 d4 := by kernel_rfl
theorem made_l3_ok (N : Nat) {top : Bool} : LoopOK Try.prog made_B.c made_B.n made_B.m0 top (made_l3_L N) := loop_of_ev (Z := Int × Int × Int × Int × List Int × Int × Int × Int × Int × List Int × List Int × List Qe × List Int) (N := N) (fun m p => made_l3 N m p.1.2.2.2.2.1 p.1.2.2.2.2.2.1 p.1.2.2.2.2.2.2.2.1 p.1.2.2.2.2.2.2.2.2.1 p.1.2.2.2.2.2.2.2.2.2.1 p.1.2.2.2.2.2.2.2.2.2.2.1 p.2.1.1 p.2.1.2.1 p.2.1.2.2.1 p.2.2.2.1.2.1 p.2.2.2.2.1.2.1 p.2.2.2.2.2.1 p.2.2.2.2.2.2.1 p.2.2.2.2.2.2.2.1 p.2.2.2.2.2.2.2.2.1) (fun e => .inl (((), (), (), ((), ((), ())), e.1, e.2.1, (), e.2.2.1, e.2.2.2.1, ()), ((e.2.2.2.2.1, e.2.2.2.2.2.1, e.2.2.2.2.2.2.1, ()), ((), ()), ((), e.2.2.2.2.2.2.2.1, (), (), (), ()), ((), e.2.2.2.2.2.2.2.2.1, (), (), (), ()), e.2.2.2.2.2.2.2.2.2.1, e.2.2.2.2.2.2.2.2.2.2.1, e.2.2.2.2.2.2.2.2.2.2.2.1, e.2.2.2.2.2.2.2.2.2.2.2.2, ()))) (fun _ _ _ => rfl) (fun _ => rfl) (fun m z E Xc hE hX hrec hx => leaf_of_ev (B := made_B) (loops := [made_l1_L N]) (leaves := [made_l3_h (made_l3 N m), made_l3_e0]) (made_all N) mixed ⟨made_l1_ok N, trivial⟩ hE hX ⟨hrec, (fun p hp => by obtain rfl := Option.some.inj hp; exact hx), trivial⟩ RetOK.no (fun p => made_l3_eq N m p.1.2.2.2.2.1 p.1.2.2.2.2.2.1 p.1.2.2.2.2.2.2.2.1 p.1.2.2.2.2.2.2.2.2.1 p.1.2.2.2.2.2.2.2.2.2.1 p.1.2.2.2.2.2.2.2.2.2.2.1 p.2.1.1 p.2.1.2.1 p.2.1.2.2.1 p.2.2.2.1.2.1 p.2.2.2.2.1.2.1 p.2.2.2.2.2.1 p.2.2.2.2.2.2.1 p.2.2.2.2.2.2.2.1 p.2.2.2.2.2.2.2.2.1))
abbrev made_l2_at : List PI := [.c [1, 1, 1, 1, 1, 0, 1, 0, 0, 0], .c [1, 1, 1, 1, 1, 0, 1, 0, 0, 1], .l [1, 1, 1, 1, 1, 0, 1, 0, 0], .b 2, .c [1, 1, 1, 1, 1, 1]]
abbrev made_l2_st : Sta := ⟨[2, 4, 5, 6, 7, 8, 34, 35], ⟨[.own 1 0, .own 2 0, .own 3 0, .fn 32 [] [.own 1 0], .i .i64, .i .i64, .i .i64, .i .i64], [.segs [.sl (.int .u8), .i .i64, .i .u32], .segs [.own 0 0], .segs [.nils, .i .i64, .nils, .nils, .nils], .segs [.ols 4, .i .i64, .ols 5, .nils, .ols 6], .lst (.int .i64), .lst Qd, .lst (.int .i64)]⟩⟩
abbrev made_l2_h (rec : Int → Int → Int → Int → Qe → Int → Int → Int → Int → Qe → Qw → Qe → Option (Int × Int × List Int × Int × Int × Int × Int × List Int × List Qe × List Int)) : Leaf (Int × Int × List Int × Int × Int × Int × Int × List Int × List Qe × List Int) := ⟨made_l2_at, made_l2_st, fun p => rec p.1.2.2.2.2.1 p.1.2.2.2.2.2.1 p.1.2.2.2.2.2.2.1 p.1.2.2.2.2.2.2.2.1 p.2.1.1 p.2.1.2.1 p.2.1.2.2.1 p.2.2.2.1.2.1 p.2.2.2.2.1.2.1 p.2.2.2.2.2.1 p.2.2.2.2.2.2.1 p.2.2.2.2.2.2.2.1⟩
abbrev made_l2_e0 : Leaf (Int × Int × List Int × Int × Int × Int × Int × List Int × List Qe × List Int) := ⟨[.c [1, 1, 1, 1, 1, 1, 0, 0], .c [1, 1, 1, 1, 1, 1, 0, 1], .c [1, 1, 1, 1, 1, 1, 1]], ⟨[4, 5, 6, 7, 8], ⟨[.own 1 0, .own 2 0, .fn 32 [] [.own 3 0], .i .i64, .i .i64], [.segs [.sl (.int .u8), .i .i64, .i .u32], .segs [.nils, .i .i64, .nils, .nils, .nils], .segs [.ols 4, .i .i64, .ols 5, .nils, .ols 6], .segs [.own 0 0], .lst (.int .i64), .lst Qd, .lst (.int .i64)]⟩⟩, fun p => some ((p.1.2.2.2.1, p.1.2.2.2.2.1, p.2.1.1, p.2.1.2.1, p.2.1.2.2.1, p.2.2.1.2.1, p.2.2.2.1.2.1, p.2.2.2.2.2.1, p.2.2.2.2.2.2.1, p.2.2.2.2.2.2.2.1))⟩
noncomputable def made_l2_L (N : Nat) : LoopS := { at_ := made_l2_at, sta := made_l2_st, exits := [([.c [1, 1, 1, 1, 1, 1, 0, 0], .c [1, 1, 1, 1, 1, 1, 0, 1], .c [1, 1, 1, 1, 1, 1, 1]], ⟨[4, 5, 6, 7, 8], ⟨[.own 1 0, .own 2 0, .fn 32 [] [.own 3 0], .i .i64, .i .i64], [.segs [.sl (.int .u8), .i .i64, .i .u32], .segs [.nils, .i .i64, .nils, .nils, .nils], .segs [.ols 4, .i .i64, .ols 5, .nils, .ols 6], .segs [.own 0 0], .lst (.int .i64), .lst Qd, .lst (.int .i64)]⟩⟩)], run := fun p k => (made_l2 N N p.1.2.2.2.2.1 p.1.2.2.2.2.2.1 p.1.2.2.2.2.2.2.1 p.1.2.2.2.2.2.2.2.1 p.2.1.1 p.2.1.2.1 p.2.1.2.2.1 p.2.2.2.1.2.1 p.2.2.2.2.1.2.1 p.2.2.2.2.2.1 p.2.2.2.2.2.2.1 p.2.2.2.2.2.2.2.1).bind fun e => k (.inl (((), (), ((), ((), ())), e.1, e.2.1, ()), ((e.2.2.1, e.2.2.2.1, e.2.2.2.2.1, ()), ((), e.2.2.2.2.2.1, (), (), (), ()), ((), e.2.2.2.2.2.2.1, (), (), (), ()), ((), ()), e.2.2.2.2.2.2.2.1, e.2.2.2.2.2.2.2.2.1, e.2.2.2.2.2.2.2.2.2, ()))) }
theorem made_l2_eq (N n_ : Nat) (many : Int) (often : Int) (u : Int) (u2 : Int) (b : List Int) (b2 : Int) (b3 : Int) (g : Int) (d : Int) (d2 : List Int) (d3 : List Qe) (d4 : List Int) : ev (Z := Int × Int × List Int × Int × Int × Int × Int × List Int × List Qe × List Int) Try.prog (made_sp N) made_B [made_l1_L N, made_l3_L N] [made_l2_h (made_l2 N n_), made_l2_e0] none 400 true made_l2_at (stL made_l2_st (((), (), (), ((), ((), ())), many, often, u, u2, ()), ((b, b2, b3, ()), ((), ()), ((), g, (), (), (), ()), ((), d, (), (), (), ()), d2, d3, d4, ()))) (stH made_l2_st (((), (), (), ((), ((), ())), many, often, u, u2, ()), ((b, b2, b3, ()), ((), ()), ((), g, (), (), (), ()), ((), d, (), (), (), ()), d2, d3, d4, ()))) = made_l2 N (n_ + 1) many often u u2 b b2 b3 g d d2 d3 d4 := by kernel_rfl
theorem made_l2_ok (N : Nat) {top : Bool} : LoopOK Try.prog made_B.c made_B.n made_B.m0 top (made_l2_L N) := loop_of_ev (Z := Int × Int × List Int × Int × Int × Int × Int × List Int × List Qe × List Int) (N := N) (fun m p => made_l2 N m p.1.2.2.2.2.1 p.1.2.2.2.2.2.1 p.1.2.2.2.2.2.2.1 p.1.2.2.2.2.2.2.2.1 p.2.1.1 p.2.1.2.1 p.2.1.2.2.1 p.2.2.2.1.2.1 p.2.2.2.2.1.2.1 p.2.2.2.2.2.1 p.2.2.2.2.2.2.1 p.2.2.2.2.2.2.2.1) (fun e => .inl (((), (), ((), ((), ())), e.1, e.2.1, ()), ((e.2.2.1, e.2.2.2.1, e.2.2.2.2.1, ()), ((), e.2.2.2.2.2.1, (), (), (), ()), ((), e.2.2.2.2.2.2.1, (), (), (), ()), ((), ()), e.2.2.2.2.2.2.2.1, e.2.2.2.2.2.2.2.2.1, e.2.2.2.2.2.2.2.2.2, ()))) (fun _ _ _ => rfl) (fun _ => rfl) (fun m z E Xc hE hX hrec hx => leaf_of_ev (B := made_B) (loops := [made_l1_L N, made_l3_L N]) (leaves := [made_l2_h (made_l2 N m), made_l2_e0]) (made_all N) mixed ⟨made_l1_ok N, made_l3_ok N, trivial⟩ hE hX ⟨hrec, (fun p hp => by obtain rfl := Option.some.inj hp; exact hx), trivial⟩ RetOK.no (fun p => made_l2_eq N m p.1.2.2.2.2.1 p.1.2.2.2.2.2.1 p.1.2.2.2.2.2.2.1 p.1.2.2.2.2.2.2.2.1 p.2.1.1 p.2.1.2.1 p.2.1.2.2.1 p.2.2.2.1.2.1 p.2.2.2.2.1.2.1 p.2.2.2.2.2.1 p.2.2.2.2.2.2.1 p.2.2.2.2.2.2.2.1))
abbrev made_l5_at : List PI := [.c [1, 1, 1, 1, 1, 1, 0, 1, 0, 0, 1, 1, 0, 0, 1, 0, 1, 0, 0, 0], .c [1, 1, 1, 1, 1, 1, 0, 1, 0, 0, 1, 1, 0, 0, 1, 0, 1, 0, 0, 1], .l [1, 1, 1, 1, 1, 1, 0, 1, 0, 0, 1, 1, 0, 0, 1, 0, 1, 0, 0], .b 8, .c [1, 1, 1, 1, 1, 1, 0, 1, 0, 0, 1, 1, 0, 0, 1, 1], .b 7, .c [1, 1, 1, 1, 1, 1, 0, 1, 0, 0, 1, 1, 1], .l [1, 1, 1, 1, 1, 1, 0, 1, 0, 0], .b 6, .c [1, 1, 1, 1, 1, 1, 1]]
abbrev made_l5_st : Sta := ⟨[4, 5, 6, 8, 10, 63, 64, 68, 69], ⟨[.own 1 0, .own 2 0, .fn 32 [] [.own 3 0], .i .i64, .ols 4, .i .i64, .i .i64, .i .i64, .i .i64], [.segs [.sl (.int .u8), .i .i64, .i .u32], .segs [.nils, .i .i64, .nils, .nils, .nils], .segs [.ols 5, .i .i64, .ols 6, .ols 7, .ols 8], .segs [.own 0 0], .lst (.int .i64), .lst (.int .i64), .lst Qd, .lst Qd, .lst (.int .i64)]⟩⟩
abbrev made_l5_h (rec : Int → Int → Int → Int → Int → Qe → Int → Int → Int → Int → Qe → Qe → Qw → Qw → Qe → Option QC) : Leaf QC := ⟨made_l5_at, made_l5_st, fun p => rec p.1.2.2.2.1 p.1.2.2.2.2.2.1 p.1.2.2.2.2.2.2.1 p.1.2.2.2.2.2.2.2.1 p.1.2.2.2.2.2.2.2.2.1 p.2.1.1 p.2.1.2.1 p.2.1.2.2.1 p.2.2.1.2.1 p.2.2.2.1.2.1 p.2.2.2.2.2.1 p.2.2.2.2.2.2.1 p.2.2.2.2.2.2.2.1 p.2.2.2.2.2.2.2.2.1 p.2.2.2.2.2.2.2.2.2.1⟩
abbrev made_l5_e0 : Leaf QC := ⟨[.c [1, 1, 1, 1, 1, 1, 0, 1, 0, 0, 1, 1, 0, 0, 1, 1], .b 7, .c [1, 1, 1, 1, 1, 1, 0, 1, 0, 0, 1, 1, 1], .l [1, 1, 1, 1, 1, 1, 0, 1, 0, 0], .b 6, .c [1, 1, 1, 1, 1, 1, 1]], ⟨[4, 5, 6, 8, 10, 63, 64], ⟨[.own 1 0, .own 2 0, .fn 32 [] [.own 3 0], .i .i64, .ols 4, .i .i64, .i .i64], [.segs [.sl (.int .u8), .i .i64, .i .u32], .segs [.nils, .i .i64, .nils, .nils, .nils], .segs [.ols 5, .i .i64, .ols 6, .ols 7, .ols 8], .segs [.own 0 0], .lst (.int .i64), .lst (.int .i64), .lst Qd, .lst Qd, .lst (.int .i64)]⟩⟩, fun p => some ((p.1.2.2.2.1, p.1.2.2.2.2.2.1, p.1.2.2.2.2.2.2.1, p.2.1.1, p.2.1.2.1, p.2.1.2.2.1, p.2.2.1.2.1, p.2.2.2.1.2.1, p.2.2.2.2.2.1, p.2.2.2.2.2.2.1, p.2.2.2.2.2.2.2.1, p.2.2.2.2.2.2.2.2.1, p.2.2.2.2.2.2.2.2.2.1))⟩
noncomputable def made_l5_L (N : Nat) : LoopS := { at_ := made_l5_at, sta := made_l5_st, exits := [([.c [1, 1, 1, 1, 1, 1, 0, 1, 0, 0, 1, 1, 0, 0, 1, 1], .b 7, .c [1, 1, 1, 1, 1, 1, 0, 1, 0, 0, 1, 1, 1], .l [1, 1, 1, 1, 1, 1, 0, 1, 0, 0], .b 6, .c [1, 1, 1, 1, 1, 1, 1]], ⟨[4, 5, 6, 8, 10, 63, 64], ⟨[.own 1 0, .own 2 0, .fn 32 [] [.own 3 0], .i .i64, .ols 4, .i .i64, .i .i64], [.segs [.sl (.int .u8), .i .i64, .i .u32], .segs [.nils, .i .i64, .nils, .nils, .nils], .segs [.ols 5, .i .i64, .ols 6, .ols 7, .ols 8], .segs [.own 0 0], .lst (.int .i64), .lst (.int .i64), .lst Qd, .lst Qd, .lst (.int .i64)]⟩⟩)], run := fun p k => (made_l5 N N p.1.2.2.2.1 p.1.2.2.2.2.2.1 p.1.2.2.2.2.2.2.1 p.1.2.2.2.2.2.2.2.1 p.1.2.2.2.2.2.2.2.2.1 p.2.1.1 p.2.1.2.1 p.2.1.2.2.1 p.2.2.1.2.1 p.2.2.2.1.2.1 p.2.2.2.2.2.1 p.2.2.2.2.2.2.1 p.2.2.2.2.2.2.2.1 p.2.2.2.2.2.2.2.2.1 p.2.2.2.2.2.2.2.2.2.1).bind fun e => k (.inl (((), (), ((), ((), ())), e.1, (), e.2.1, e.2.2.1, ()), ((e.2.2.2.1, e.2.2.2.2.1, e.2.2.2.2.2.1, ()), ((), e.2.2.2.2.2.2.1, (), (), (), ()), ((), e.2.2.2.2.2.2.2.1, (), (), (), ()), ((), ()), e.2.2.2.2.2.2.2.2.1, e.2.2.2.2.2.2.2.2.2.1, e.2.2.2.2.2.2.2.2.2.2.1, e.2.2.2.2.2.2.2.2.2.2.2.1, e.2.2.2.2.2.2.2.2.2.2.2.2, ()))) }
theorem made_l5_eq (N n_ : Nat) (often : Int) (u : Int) (u2 : Int) (u3 : Int) (u4 : Int) (value : List Int) (value2 : Int) (value3 : Int) (g : Int) (d : Int) (l : List Int) (d2 : List Int) (d3 : List Qe) (d4 : List Qe) (d5 : List Int) : ev (Z := Int × Int × Int × List Int × Int × Int × Int × Int × List Int × List Int × List Qe × List Qe × List Int) Try.prog (made_sp N) made_B [made_l1_L N, made_l3_L N, made_l2_L N] [made_l5_h (made_l5 N n_), made_l5_e0] none 400 true made_l5_at (stL made_l5_st (((), (), ((), ((), ())), often, (), u, u2, u3, u4, ()), ((value, value2, value3, ()), ((), g, (), (), (), ()), ((), d, (), (), (), ()), ((), ()), l, d2, d3, d4, d5, ()))) (stH made_l5_st (((), (), ((), ((), ())), often, (), u, u2, u3, u4, ()), ((value, value2, value3, ()), ((), g, (), (), (), ()), ((), d, (), (), (), ()), ((), ()), l, d2, d3, d4, d5, ()))) = made_l5 N (n_ + 1) often u u2 u3 u4 value value2 value3 g d l d2 d3 d4 d5 := by kernel_rfl
theorem made_l5_ok (N : Nat) {top : Bool} : LoopOK Try.prog made_B.c made_B.n made_B.m0 top (made_l5_L N) := loop_of_ev (Z := Int × Int × Int × List Int × Int × Int × Int × Int × List Int × List Int × List Qe × List Qe × List Int) (N := N) (fun m p => made_l5 N m p.1.2.2.2.1 p.1.2.2.2.2.2.1 p.1.2.2.2.2.2.2.1 p.1.2.2.2.2.2.2.2.1 p.1.2.2.2.2.2.2.2.2.1 p.2.1.1 p.2.1.2.1 p.2.1.2.2.1 p.2.2.1.2.1 p.2.2.2.1.2.1 p.2.2.2.2.2.1 p.2.2.2.2.2.2.1 p.2.2.2.2.2.2.2.1 p.2.2.2.2.2.2.2.2.1 p.2.2.2.2.2.2.2.2.2.1) (fun e => .inl (((), (), ((), ((), ())), e.1, (), e.2.1, e.2.2.1, ()), ((e.2.2.2.1, e.2.2.2.2.1, e.2.2.2.2.2.1, ()), ((), e.2.2.2.2.2.2.1, (), (), (), ()), ((), e.2.2.2.2.2.2.2.1, (), (), (), ()), ((), ()), e.2.2.2.2.2.2.2.2.1, e.2.2.2.2.2.2.2.2.2.1, e.2.2.2.2.2.2.2.2.2.2.1, e.2.2.2.2.2.2.2.2.2.2.2.1, e.2.2.2.2.2.2.2.2.2.2.2.2, ()))) (fun _ _ _ => rfl) (fun _ => rfl) (fun m z E Xc hE hX hrec hx => leaf_of_ev (B := made_B) (loops := [made_l1_L N, made_l3_L N, made_l2_L N]) (leaves := [made_l5_h (made_l5 N m), made_l5_e0]) (made_all N) mixed ⟨made_l1_ok N, made_l3_ok N, made_l2_ok N, trivial⟩ hE hX ⟨hrec, (fun p hp => by obtain rfl := Option.some.inj hp; exact hx), trivial⟩ RetOK.no (fun p => made_l5_eq N m p.1.2.2.2.1 p.1.2.2.2.2.2.1 p.1.2.2.2.2.2.2.1 p.1.2.2.2.2.2.2.2.1 p.1.2.2.2.2.2.2.2.2.1 p.2.1.1 p.2.1.2.1 p.2.1.2.2.1 p.2.2.1.2.1 p.2.2.2.1.2.1 p.2.2.2.2.2.1 p.2.2.2.2.2.2.1 p.2.2.2.2.2.2.2.1 p.2.2.2.2.2.2.2.2.1 p.2.2.2.2.2.2.2.2.2.1))
abbrev made_l4_at : List PI := [.c [1, 1, 1, 1, 1, 1, 0, 1, 0, 0, 0], .c [1, 1, 1, 1, 1, 1, 0, 1, 0, 0, 1], .l [1, 1, 1, 1, 1, 1, 0, 1, 0, 0], .b 6, .c [1, 1, 1, 1, 1, 1, 1]]
abbrev made_l4_st : Sta := ⟨[4, 5, 6, 8, 63, 64], ⟨[.own 1 0, .own 2 0, .fn 32 [] [.own 3 0], .i .i64, .i .i64, .i .i64], [.segs [.sl (.int .u8), .i .i64, .i .u32], .segs [.nils, .i .i64, .nils, .nils, .nils], .segs [.ols 4, .i .i64, .ols 5, .ols 6, .ols 7], .segs [.own 0 0], .lst (.int .i64), .lst Qd, .lst Qd, .lst (.int .i64)]⟩⟩
abbrev made_l4_h (rec : Int → Int → Int → Qe → Int → Int → Int → Int → Qe → Qw → Qw → Qe → Option (List Int × Int × Int × Int × Int × List Int × List Qe × List Qe × List Int)) : Leaf (List Int × Int × Int × Int × Int × List Int × List Qe × List Qe × List Int) := ⟨made_l4_at, made_l4_st, fun p => rec p.1.2.2.2.1 p.1.2.2.2.2.1 p.1.2.2.2.2.2.1 p.2.1.1 p.2.1.2.1 p.2.1.2.2.1 p.2.2.1.2.1 p.2.2.2.1.2.1 p.2.2.2.2.2.1 p.2.2.2.2.2.2.1 p.2.2.2.2.2.2.2.1 p.2.2.2.2.2.2.2.2.1⟩
abbrev made_l4_e0 : Leaf (List Int × Int × Int × Int × Int × List Int × List Qe × List Qe × List Int) := ⟨[.c [1, 1, 1, 1, 1, 1, 1, 0], .c [1, 1, 1, 1, 1, 1, 1, 1]], ⟨[4, 5], ⟨[.own 1 0, .own 2 0], [.segs [.sl (.int .u8), .i .i64, .i .u32], .segs [.nils, .i .i64, .nils, .nils, .nils], .segs [.ols 3, .i .i64, .ols 4, .ols 5, .ols 6], .lst (.int .i64), .lst Qd, .lst Qd, .lst (.int .i64)]⟩⟩, fun p => some ((p.2.1.1, p.2.1.2.1, p.2.1.2.2.1, p.2.2.1.2.1, p.2.2.2.1.2.1, p.2.2.2.2.1, p.2.2.2.2.2.1, p.2.2.2.2.2.2.1, p.2.2.2.2.2.2.2.1))⟩
noncomputable def made_l4_L (N : Nat) : LoopS := { at_ := made_l4_at, sta := made_l4_st, exits := [([.c [1, 1, 1, 1, 1, 1, 1, 0], .c [1, 1, 1, 1, 1, 1, 1, 1]], ⟨[4, 5], ⟨[.own 1 0, .own 2 0], [.segs [.sl (.int .u8), .i .i64, .i .u32], .segs [.nils, .i .i64, .nils, .nils, .nils], .segs [.ols 3, .i .i64, .ols 4, .ols 5, .ols 6], .lst (.int .i64), .lst Qd, .lst Qd, .lst (.int .i64)]⟩⟩)], run := fun p k => (made_l4 N N p.1.2.2.2.1 p.1.2.2.2.2.1 p.1.2.2.2.2.2.1 p.2.1.1 p.2.1.2.1 p.2.1.2.2.1 p.2.2.1.2.1 p.2.2.2.1.2.1 p.2.2.2.2.2.1 p.2.2.2.2.2.2.1 p.2.2.2.2.2.2.2.1 p.2.2.2.2.2.2.2.2.1).bind fun e => k (.inl (((), (), ()), ((e.1, e.2.1, e.2.2.1, ()), ((), e.2.2.2.1, (), (), (), ()), ((), e.2.2.2.2.1, (), (), (), ()), e.2.2.2.2.2.1, e.2.2.2.2.2.2.1, e.2.2.2.2.2.2.2.1, e.2.2.2.2.2.2.2.2, ()))) }
theorem made_l4_eq (N n_ : Nat) (often : Int) (u : Int) (u2 : Int) (value : List Int) (value2 : Int) (value3 : Int) (g : Int) (d : Int) (d2 : List Int) (d3 : List Qe) (d4 : List Qe) (d5 : List Int) : ev (Z := List Int × Int × Int × Int × Int × List Int × List Qe × List Qe × List Int) Try.prog (made_sp N) made_B [made_l1_L N, made_l3_L N, made_l2_L N, made_l5_L N] [made_l4_h (made_l4 N n_), made_l4_e0] none 400 true made_l4_at (stL made_l4_st (((), (), ((), ((), ())), often, u, u2, ()), ((value, value2, value3, ()), ((), g, (), (), (), ()), ((), d, (), (), (), ()), ((), ()), d2, d3, d4, d5, ()))) (stH made_l4_st (((), (), ((), ((), ())), often, u, u2, ()), ((value, value2, value3, ()), ((), g, (), (), (), ()), ((), d, (), (), (), ()), ((), ()), d2, d3, d4, d5, ()))) = made_l4 N (n_ + 1) often u u2 value value2 value3 g d d2 d3 d4 d5 := by kernel_rfl
theorem made_l4_ok (N : Nat) {top : Bool} : LoopOK Try.prog made_B.c made_B.n made_B.m0 top (made_l4_L N) := loop_of_ev (Z := List Int × Int × Int × Int × Int × List Int × List Qe × List Qe × List Int) (N := N) (fun m p => made_l4 N m p.1.2.2.2.1 p.1.2.2.2.2.1 p.1.2.2.2.2.2.1 p.2.1.1 p.2.1.2.1 p.2.1.2.2.1 p.2.2.1.2.1 p.2.2.2.1.2.1 p.2.2.2.2.2.1 p.2.2.2.2.2.2.1 p.2.2.2.2.2.2.2.1 p.2.2.2.2.2.2.2.2.1) (fun e => .inl (((), (), ()), ((e.1, e.2.1, e.2.2.1, ()), ((), e.2.2.2.1, (), (), (), ()), ((), e.2.2.2.2.1, (), (), (), ()), e.2.2.2.2.2.1, e.2.2.2.2.2.2.1, e.2.2.2.2.2.2.2.1, e.2.2.2.2.2.2.2.2, ()))) (fun _ _ _ => rfl) (fun _ => rfl) (fun m z E Xc hE hX hrec hx => leaf_of_ev (B := made_B) (loops := [made_l1_L N, made_l3_L N, made_l2_L N, made_l5_L N]) (leaves := [made_l4_h (made_l4 N m), made_l4_e0]) (made_all N) mixed ⟨made_l1_ok N, made_l3_ok N, made_l2_ok N, made_l5_ok N, trivial⟩ hE hX ⟨hrec, (fun p hp => by obtain rfl := Option.some.inj hp; exact hx), trivial⟩ RetOK.no (fun p => made_l4_eq N m p.1.2.2.2.1 p.1.2.2.2.2.1 p.1.2.2.2.2.2.1 p.2.1.1 p.2.1.2.1 p.2.1.2.2.1 p.2.2.1.2.1 p.2.2.2.1.2.1 p.2.2.2.2.2.1 p.2.2.2.2.2.2.1 p.2.2.2.2.2.2.2.1 p.2.2.2.2.2.2.2.2.1))
abbrev made_st : Sta := ⟨[0, 1], ⟨[.own 0 0, .i .i64], [.segs [.sl (.int .u8), .i .i64, .i .u32]]⟩⟩
theorem made_eq (N : Nat) (things : Int) (b : List Int) (b2 : Int) (b3 : Int) : ev (Z := List Int × Int × List Qe × List Qe × List Int × List Int × Int × Int) Try.prog (made_sp N) made_B [made_l1_L N, made_l3_L N, made_l2_L N, made_l5_L N, made_l4_L N] [] (some made_rt) 400 false [.c [0], .c [1]] (stL made_st (((), things, ()), ((b, b2, b3, ()), ()))) (stH made_st (((), things, ()), ((b, b2, b3, ()), ()))) = made_S N things b b2 b3 := by kernel_rfl
noncomputable def sp_made (N : Nat) : Spec := { f := 7, ins := ⟨[.own 0 0, .i .i64], [.segs [.sl (.int .u8), .i .i64, .i .u32]]⟩, outs := [⟨[.agg [.sl (.int .i64), .i .i64, .sl Qd, .sl Qd, .sl (.int .i64)]], [.segs [.sl (.int .u8), .i .i64, .i .u32]]⟩], run := fun p k => (made_S N p.1.2.1 p.2.1.1 p.2.1.2.1 p.2.1.2.2.1).bind fun r => k (((r.1, r.2.1, r.2.2.1, r.2.2.2.1, r.2.2.2.2.1, ()), ()), ((r.2.2.2.2.2.1, r.2.2.2.2.2.2.1, r.2.2.2.2.2.2.2, ()), ())) }
theorem sp_made_ok (N : Nat) : SpecOK Try.prog (sp_made N) := fn_sound (B := made_B) (loops := [made_l1_L N, made_l3_L N, made_l2_L N, made_l5_L N, made_l4_L N]) (leaves := []) (fun p => made_S N p.1.2.1 p.2.1.1 p.2.1.2.1 p.2.1.2.2.1) (fun r => (((r.1, r.2.1, r.2.2.1, r.2.2.2.1, r.2.2.2.2.1, ()), ()), ((r.2.2.2.2.2.1, r.2.2.2.2.2.2.1, r.2.2.2.2.2.2.2, ()), ()))) made_rt (fun _ _ _ => rfl) (fun r z h => by cases h; rfl) Try.func7 (by kernel_rfl) (by kernel_rfl) (by kernel_rfl) rfl rfl (by kernel_rfl) (fun args w => Sem.pv_run _ _ _ (by kernel_rfl) w) (made_all N) mixed ⟨made_l1_ok N, made_l3_ok N, made_l2_ok N, made_l5_ok N, made_l4_ok N, trivial⟩ (fun z E Xc hE hX hret => trivial) (fun p => made_eq N p.1.2.1 p.2.1.1 p.2.1.2.1 p.2.1.2.2.1)

end Go.Proofs.Ytgeijboidfadaaa.Fd

/-
  Parts of a proof, put together: PTG, PFIt, PUp, PFCl, PFCo, PF2, PFD, POf, POp.
  Conditions: none.
-/
import Derived.Test.YtgeijboidfadaaaZe
import Derived.Test.YtgeijboidfadaaaZg
import Derived.Test.YtgeijboidfadaaaZh
namespace Go.Proofs.Ytgeijboidfadaaa.Fd
set_option linter.all false
open Go

/-- A run ends well, with a result of which Q speaks. -/
def Ok {α : Type} (o : Option α) (Q : α → Prop) : Prop := ∃ x, o = some x ∧ Q x
section
variable {α β Z : Type} {Q : Z → Prop} {x y : Option Z}
theorem Ok.some {z : Z} (h : Q z) : Ok (some z) Q := ⟨z, rfl, h⟩
theorem Ok.bind {o : Option α} {P : α → Prop} {f : α → Option Z} (h : Ok o P) (k : ∀ a, P a → Ok (f a) Q) : Ok (o.bind f) Q := by
  obtain ⟨a, rfl, ha⟩ := h
  exact k a ha
theorem Ok.eqb {o : Option α} {a : α} {f : α → Option Z} (h : o = Option.some a) (k : Ok (f a) Q) : Ok (o.bind f) Q := by subst h; exact k
theorem Ok.mono {P : Z → Prop} (h : Ok x P) (k : ∀ a, P a → Q a) : Ok x Q := let ⟨a, e, p⟩ := h; ⟨a, e, k a p⟩
theorem Ok.br {c : Bool} (h1 : c = true → Ok x Q) (h2 : c = false → Ok y Q) : Ok (br c x y) Q := by
  cases c
  · exact h2 rfl
  · exact h1 rfl
theorem Ok.brd {p : Prop} [Decidable p] (h1 : p → Ok x Q) (h2 : ¬ p → Ok y Q) : Ok (Proofs.Ytgeijboidfadaaa.br (decide p) x y) Q := by
  by_cases h : p
  · simpa [h, Proofs.Ytgeijboidfadaaa.br] using h1 h
  · simpa [h, Proofs.Ytgeijboidfadaaa.br] using h2 h
theorem chk_eq {n : Int} (hn : -9223372036854775808 ≤ n ∧ n ≤ 9223372036854775807) : chk n x = x := by unfold chk; rw [okI_iff.2 hn]
theorem Ok.chk {n : Int} (hn : -9223372036854775808 ≤ n ∧ n ≤ 9223372036854775807) (h : Ok x Q) : Ok (chk n x) Q := by rw [chk_eq hn]; exact h
theorem grd_eq {c : Bool} (hc : c = true) : grd c x = x := by subst hc; rfl
theorem Ok.grd {c : Bool} (hc : c = true) (h : Ok x Q) : Ok (grd c x) Q := by subst hc; exact h
theorem rng_eq {i : Int} {n : Nat} (hi : 0 ≤ i ∧ i < n) : rng i n x = x := by unfold rng; rw [if_pos hi]
theorem Ok.rng {i : Int} {n : Nat} (hi : 0 ≤ i ∧ i < n) (h : Ok x Q) : Ok (rng i n x) Q := by rw [rng_eq hi]; exact h
theorem lim_eq {n : Nat} (hn : n ≤ 1000000) : lim n x = x := by unfold lim; rw [if_pos hn]
theorem Ok.lim {n : Nat} (hn : n ≤ 1000000) (h : Ok x Q) : Ok (lim n x) Q := by rw [lim_eq hn]; exact h
theorem idx_eq {l : List α} {i : Int} {f : α → Option Z} {a : α} (h0 : 0 ≤ i) (h : l[i.toNat]? = Option.some a) : idx l i f = f a := by unfold idx; rw [if_pos h0, h]
theorem idx_get {l : List α} {i : Int} {f : α → Option Z} (d : α) (h0 : 0 ≤ i) (h : i < l.length) : idx l i f = f (l.getD i.toNat d) := by
  refine idx_eq h0 ?_
  have : i.toNat < l.length := by omega
  simp [List.getD, this]
theorem Ok.idx {l : List α} {i : Int} {f : α → Option Z} (h0 : 0 ≤ i) (h : i < l.length) (k : ∀ a, l[i.toNat]? = Option.some a → a ∈ l → Ok (f a) Q) : Ok (idx l i f) Q := by
  have hlt : i.toNat < l.length := by omega
  have e : l[i.toNat]? = Option.some l[i.toNat] := List.getElem?_eq_getElem hlt
  rw [idx_eq h0 e]
  exact k _ e (List.getElem_mem hlt)
theorem get_eq {l : List α} {k : Nat} {f : α → Option Z} {a : α} (h : l[k]? = Option.some a) : get l k f = f a := by unfold get; rw [h]
theorem get_get {l : List α} {k : Nat} {f : α → Option Z} (d : α) (h : k < l.length) : get l k f = f (l.getD k d) := get_eq (by simp [List.getD, h])
theorem Ok.get {l : List α} {k : Nat} {f : α → Option Z} (h : k < l.length) (c : ∀ a, l[k]? = Option.some a → a ∈ l → Ok (f a) Q) : Ok (get l k f) Q := by
  have e : l[k]? = Option.some l[k] := List.getElem?_eq_getElem h
  rw [get_eq e]
  exact c _ e (List.getElem_mem h)
theorem br_true : br true x y = x := rfl
theorem br_false : br false x y = y := rfl
theorem br_dec {p : Prop} [Decidable p] (h : p) : br (decide p) x y = x := by simp [h, br]
theorem br_ndec {p : Prop} [Decidable p] (h : ¬ p) : br (decide p) x y = y := by simp [h, br]
theorem br_nd {p : Prop} [Decidable p] (h : p) : br (!decide p) x y = y := by simp [h, br]
theorem br_nnd {p : Prop} [Decidable p] (h : ¬ p) : br (!decide p) x y = x := by simp [h, br]
end
/-- A list of numbers from lo to hi. -/
def InR (lo hi : Int) (l : List Int) : Prop := ∀ x ∈ l, lo ≤ x ∧ x ≤ hi
theorem InR.append {lo hi : Int} {l : List Int} (h : InR lo hi l) {x : Int} (hx : lo ≤ x ∧ x ≤ hi) : InR lo hi (l ++ [x]) := by
  intro y hy
  rcases List.mem_append.1 hy with hy | hy
  · exact h y hy
  · simp at hy; subst hy; exact hx
theorem InR.drop {lo hi : Int} {l : List Int} (h : InR lo hi l) (n : Nat) : InR lo hi (l.drop n) := fun x hx => h x (List.mem_of_mem_drop hx)
theorem InR.nil {lo hi : Int} : InR lo hi [] := fun _ h => by cases h
theorem InR.mono {lo hi lo' hi' : Int} {l : List Int} (h : InR lo hi l) (h1 : lo' ≤ lo) (h2 : hi ≤ hi') : InR lo' hi' l := fun x hx => by have := h x hx; omega

/-! ### The first element that is so -/
def ixL {α : Type} (f : α → Option Bool) : Nat → List α → Int → Int → Option (Int ⊕ Unit)
  | 0, _, _, _ => none
  | n + 1, s, u, u2 => br (decide (u2 < u)) (idx s u2 fun x => (f x).bind fun c => br c (some (.inl u2)) (chk (u2 + 1) <| ixL f n s u (u2 + 1))) (some (.inr ()))
def ixS {α : Type} (f : α → Option Bool) (N : Nat) (s : List α) : Option Int := (ixL f N s (s.length : Int) 0).bind fun e => match e with
  | .inl i => some i
  | .inr _ => some (-1)
theorem ixL_ok {α : Type} {f : α → Option Bool} {p : α → Bool} {s : List α} (hf : ∀ x ∈ s, f x = some (p x)) (hs : s.length ≤ 1000000) : ∀ (n k : Nat), s.length < n + k → k ≤ s.length →
    Ok (ixL f n s (s.length : Int) (k : Int)) fun r => match r with | .inl i => (0 ≤ i ∧ i < s.length) ∧ (s.drop k).any p = true | .inr _ => (s.drop k).any p = false
  | 0, k, h, hk => by omega
  | n + 1, k, h, hk => by
    unfold ixL
    refine Ok.brd (fun h1 => ?_) (fun h1 => Ok.some ?_)
    · have hlt : k < s.length := by omega
      refine Ok.idx (by omega) h1 (fun a ha hm => ?_)
      have hd : s.drop k = a :: s.drop (k + 1) := by
        rw [List.drop_eq_getElem_cons hlt]
        have : s[k]? = some a := by simpa using ha
        rw [List.getElem?_eq_getElem hlt] at this
        simp only [Option.some.injEq] at this
        rw [this]
      refine Ok.eqb (hf a hm) (Ok.br (fun hp => Ok.some ?_) (fun hp => Ok.chk (by omega) ?_))
      · exact ⟨⟨by omega, by omega⟩, by rw [hd]; simp [hp]⟩
      · have := ixL_ok hf hs n (k + 1) (by omega) (by omega)
        rw [show ((k + 1 : Nat) : Int) = (k : Int) + 1 by omega] at this
        refine this.mono (fun r hr => ?_)
        rw [hd]
        cases r <;> simpa [hp] using hr
    · have : s.drop k = [] := List.drop_of_length_le (by omega)
      simp [this]
theorem ixS_any {α : Type} {f : α → Option Bool} {p : α → Bool} {s : List α} {N : Nat} (hf : ∀ x ∈ s, f x = some (p x)) (hs : s.length ≤ 1000000) (hN : s.length < N) : ((ixS f N s).bind fun x => some (decide (0 ≤ x))) = some (s.any p) := by
  obtain ⟨r, h1, h2⟩ := ixL_ok hf hs N 0 (by omega) (by omega)
  unfold ixS
  rw [show ((0 : Nat) : Int) = 0 from rfl] at h1
  rw [h1]
  cases r with
  | inl i => simp only [List.drop_zero] at h2; simp [h2.1.1, h2.2]
  | inr u => simp only [List.drop_zero] at h2; simp [h2]
theorem any_not {α : Type} (p : α → Bool) (s : List α) : (!(s.any fun x => !p x)) = s.all p := by
  induction s with
  | nil => rfl
  | cons a s ih => simp only [List.any_cons, List.all_cons, Bool.not_or, Bool.not_not, ih]
end Go.Proofs.Ytgeijboidfadaaa.Fd

namespace Go.Proofs.Ytgeijboidfadaaa.Fd
set_option linter.all false
open Go

/-- Some cells from one on. -/
def Cl (w : World) (b o : Nat) (vs : List Value) : Prop := ∀ (i : Nat) (v : Value), vs[i]? = some v → w.cell? ⟨b, o + i, none⟩ = some v
theorem Cl.cell {w : World} {b o i : Nat} {vs : List Value} {v : Value} (h : Cl w b o vs) (hi : vs[i]? = some v) : w.cell? ⟨b, o + i, none⟩ = some v := h i v hi
theorem Cl.of_seg {w : World} {b o : Nat} {ws us : List Value} {ty : TypeId} {z : Nat × Nat} (hb : w.heap[b]? = some (.cells ws.toArray ty z)) (h : Seg ws o us) : Cl w b o us := fun i v hi => by
  have := Seg.row hb h i v hi
  rwa [addr_add] at this

/-- Of numbers from one on those that are so. -/
def mayF (R : Nat → Bool) (m k : Nat) : List Nat := (List.range' k (m - k)).filter R
noncomputable def c123 : Code := (Try.f71.body).getD .skip
noncomputable def K123_0 : List Item := [.code (sub c123 [0]), .code (sub c123 [1])]
noncomputable def K123_1 : List Item := [.code (sub c123 [1, 0, 0, 0]), .code (sub c123 [1, 0, 0, 1]), .inLoop (sub c123 [1, 0, 0]), .inBlock 0]
noncomputable def K123_2 : List Item := [.code (sub c123 [1, 0, 0, 1, 0]), .code (sub c123 [1, 0, 0, 1, 1]), .inLoop (sub c123 [1, 0, 0]), .inBlock 0]
/-- Whether two things can be joined. -/
def agD (d : Dk) (i k : Nat) : Int := d.2.2.2.2.2.1.getD (i * 6 + k) 0
def slD (d : Dk) (i k : Nat) : Int := d.2.2.2.2.2.2.1.getD (i * 6 + k) 0
def canD (d : Dk) (i k : Nat) : Bool := decide (0 < agD d i k) && decide (slD d i k ≤ d.2.1)
def mayR (d d' : Dk) (lost : Int) : Option (List (Int × Unit)) :=
  if (0 ≤ lost ∧ lost < 6) ∧ d.2.2.2.1.length ≤ 6 ∧ d'.2.2.2.2.2.1.length = 36 ∧ d'.2.2.2.2.2.2.1.length = 36 then some ((mayF (canD d' lost.toNat) d.2.2.2.1.length 0).map fun (j : Nat) => ((j : Int), ())) else none
theorem inR_small {n : Int} (h : -1000000 ≤ n ∧ n ≤ 1000000) : inR .i64 n := inR_i64.2 (by omega)
end Go.Proofs.Ytgeijboidfadaaa.Fd

namespace Go.Proofs.Ytgeijboidfadaaa
set_option linter.all false
open Go

theorem Upd.trans_old {S T : List Nat} {a b c : World} (h : Upd S a b) (k : Upd T b c) (hT : ∀ x ∈ T, a.heap.size ≤ x) : Upd S a c :=
  ⟨k.os.trans h.os, k.tape.trans h.tape, k.output.trans h.output, Nat.le_trans h.size k.size, fun i hi hs => (k.same i (Nat.lt_of_lt_of_le hi h.size) (fun hk => by have := hT i hk; omega)).trans (h.same i hi hs)⟩
theorem repL_i2 {M : Nat → Option Obj} : ∀ (l : List Int) (vs : List Value), RepL M (.int .i64) l vs ↔ vs = l.map (.int .i64) ∧ ∀ x ∈ l, inR .i64 x
  | [], vs => by simp [RepL]
  | x :: l, vs => by
    simp only [RepL, RepC, List.map_cons, List.mem_cons, forall_eq_or_imp]
    constructor
    · rintro ⟨v1, v2, rfl, ⟨rfl, h1⟩, h2⟩
      obtain ⟨rfl, h3⟩ := (repL_i2 l v2).1 h2
      exact ⟨rfl, h1, h3⟩
    · rintro ⟨rfl, h1, h3⟩
      exact ⟨_, _, rfl, ⟨rfl, h1⟩, (repL_i2 l _).2 ⟨rfl, h3⟩⟩
end Go.Proofs.Ytgeijboidfadaaa

namespace Go.Proofs.Ytgeijboidfadaaa.Fd
set_option linter.all false
open Go

/-! ### Clone -/
end Go.Proofs.Ytgeijboidfadaaa.Fd

namespace Go.Proofs.Ytgeijboidfadaaa.Fd
set_option linter.all false
open Go

end Go.Proofs.Ytgeijboidfadaaa.Fd

namespace Go.Proofs.Ytgeijboidfadaaa.Fd
set_option linter.all false
open Go

end Go.Proofs.Ytgeijboidfadaaa.Fd

namespace Go.Proofs.Ytgeijboidfadaaa.Fd
set_option linter.all false
open Go

def sumN (f : Nat → Int) : Nat → Int
  | 0 => 0
  | n + 1 => sumN f n + f n
theorem sumN_congr {f g : Nat → Int} : ∀ {n : Nat}, (∀ i, i < n → f i = g i) → sumN f n = sumN g n
  | 0, _ => rfl
  | n + 1, h => by rw [sumN, sumN, sumN_congr (fun i hi => h i (by omega)), h n (by omega)]
def upd {α : Type} (J : Nat → α) (i : Nat) (v : α) : Nat → α := fun x => if x = i then v else J x
theorem upd_self {α : Type} (J : Nat → α) (i : Nat) (v : α) : upd J i v i = v := if_pos rfl
/-- What each lost thing is joined to: a found one, or -1. -/
structure Mt (n m : Nat) (can : Nat → Nat → Bool) (J : Nat → Int) : Prop where
  ok : ∀ i, i < n → J i = -1 ∨ ∃ k : Nat, J i = k ∧ k < m ∧ can i k = true
  inj : ∀ i j, i < n → j < n → i ≠ j → J i = J j → J i = -1
def pv (w : Nat → Nat → Int) (i : Nat) (x : Int) : Int := if x = -1 then 0 else w i x.toNat
def wt (w : Nat → Nat → Int) (n : Nat) (J : Nat → Int) : Int := sumN (fun i => pv w i (J i)) n
def Usd (n : Nat) (J : Nat → Int) (k : Nat) : Prop := ∃ i, i < n ∧ J i = k
section
variable {n m : Nat} {can : Nat → Nat → Bool} {w : Nat → Nat → Int}
theorem pv_some (i k : Nat) : pv w i (k : Int) = w i k := by
  unfold pv
  rw [if_neg (by omega), Int.toNat_natCast]
/-- What is worth most of all joins that leave some found things. -/
structure IsMax (n m : Nat) (can : Nat → Nat → Bool) (w : Nat → Nat → Int) (fr : Nat → Prop) (v : Int) : Prop where
  ex : ∃ J, Mt n m can J ∧ (∀ k, fr k → ¬ Usd n J k) ∧ wt w n J = v
  le : ∀ J, Mt n m can J → (∀ k, fr k → ¬ Usd n J k) → wt w n J ≤ v
end
end Go.Proofs.Ytgeijboidfadaaa.Fd
namespace Go.Proofs.Ytgeijboidfadaaa.Fd
set_option linter.all false
open Go

/-- The found things with which a lost one can be joined. -/
def mayL (can : Nat → Nat → Bool) (m i : Nat) : List Nat := (List.range m).filter (can i)
theorem mem_mayL {can : Nat → Nat → Bool} {m i k : Nat} : k ∈ mayL can m i ↔ k < m ∧ can i k = true := by
  unfold mayL
  rw [List.mem_filter, List.mem_range]
/-- All joins of the lost things from one on, which leave some found things. -/
def joinsL (can : Nat → Nat → Bool) (m : Nat) : Nat → Nat → Nat → List (List Int)
  | 0, _, _ => [[]]
  | d + 1, i, u => (joinsL can m d (i + 1) u).map ((-1) :: ·) ++ (mayL can m i).flatMap fun k => if u.testBit k then [] else (joinsL can m d (i + 1) (u ||| 2 ^ k)).map ((k : Int) :: ·)
/-- What joins count. -/
def valJ (t : Nat → Nat → Int) : Nat → List Int → Int
  | _, [] => 0
  | i, x :: l => pv t i x + valJ t (i + 1) l
/-- Joins of the lost things from one on. -/
def okJ (can : Nat → Nat → Bool) (m : Nat) : Nat → Nat → List Int → Prop
  | _, _, [] => True
  | i, u, x :: l => (x = -1 ∧ okJ can m (i + 1) u l) ∨ ∃ k : Nat, x = k ∧ k < m ∧ can i k = true ∧ u.testBit k = false ∧ okJ can m (i + 1) (u ||| 2 ^ k) l
section
variable {can : Nat → Nat → Bool} {m : Nat} {t : Nat → Nat → Int}
theorem mem_joinsL : ∀ {d i u : Nat} {l : List Int}, l ∈ joinsL can m d i u ↔ l.length = d ∧ okJ can m i u l
  | 0, i, u, l => by
    simp only [joinsL, List.mem_singleton]
    constructor
    · rintro rfl; exact ⟨rfl, trivial⟩
    · rintro ⟨h, _⟩; exact List.eq_nil_of_length_eq_zero h
  | d + 1, i, u, l => by
    simp only [joinsL, List.mem_append, List.mem_map, List.mem_flatMap]
    constructor
    · rintro (⟨a, ha, rfl⟩ | ⟨k, hk, hl⟩)
      · obtain ⟨h1, h2⟩ := mem_joinsL.1 ha
        exact ⟨by simp [h1], .inl ⟨rfl, h2⟩⟩
      · obtain ⟨k1, k2⟩ := mem_mayL.1 hk
        cases hb : u.testBit k
        · rw [hb] at hl
          simp only [Bool.false_eq_true, if_false, List.mem_map] at hl
          obtain ⟨a, ha, rfl⟩ := hl
          obtain ⟨h1, h2⟩ := mem_joinsL.1 ha
          exact ⟨by simp [h1], .inr ⟨k, rfl, k1, k2, hb, h2⟩⟩
        · rw [hb] at hl
          simp at hl
    · rintro ⟨h, ho⟩
      cases l with
      | nil => simp at h
      | cons x l =>
        have hl : l.length = d := by simpa using h
        rcases ho with ⟨rfl, h2⟩ | ⟨k, rfl, k1, k2, hb, h2⟩
        · exact .inl ⟨l, mem_joinsL.2 ⟨hl, h2⟩, rfl⟩
        · refine .inr ⟨k, mem_mayL.2 ⟨k1, k2⟩, ?_⟩
          rw [hb]
          simp only [Bool.false_eq_true, if_false, List.mem_map]
          exact ⟨l, mem_joinsL.2 ⟨hl, h2⟩, rfl⟩
/-- One found thing more is looked at. -/
def rsS (t : Nat → Nat → Int) (rec : Nat → Int × Int × Int) (i u : Nat) (b : Int × Int × Int) (k : Nat) : Int × Int × Int :=
  if u.testBit k then b else if b.2.1 < (rec (u ||| 2 ^ k)).2.1 + t i k then ((k : Int), (rec (u ||| 2 ^ k)).2.1 + t i k, (rec (u ||| 2 ^ k)).2.2)
    else if (rec (u ||| 2 ^ k)).2.1 + t i k = b.2.1 then (b.1, b.2.1, b.2.2 + (rec (u ||| 2 ^ k)).2.2) else b
/-- The found thing of the first lost one, what all counts, in how many ways. -/
def rsR (can : Nat → Nat → Bool) (t : Nat → Nat → Int) (m : Nat) : Nat → Nat → Nat → Int × Int × Int
  | 0, _, _ => (-1, 0, 1)
  | d + 1, i, u => (mayL can m i).foldl (rsS t (rsR can t m d (i + 1)) i u) (-1, (rsR can t m d (i + 1) u).2.1, (rsR can t m d (i + 1) u).2.2)
/-- What is known of the best of some joins. -/
structure Bst (t : Nat → Nat → Int) (i : Nat) (C : List (List Int)) (c w : Int) : Prop where
  le : ∀ l ∈ C, valJ t i l ≤ c
  ways : (C.countP (fun l => decide (valJ t i l = c)) : Int) = w
theorem Bst.same {i : Nat} {C G : List (List Int)} {c w w' : Int} (h : Bst t i C c w) (h' : Bst t i G c w') : Bst t i (C ++ G) c (w + w') := by
  refine ⟨fun l hl => ?_, ?_⟩
  · rcases List.mem_append.1 hl with hl | hl
    · exact h.le l hl
    · exact h'.le l hl
  · rw [List.countP_append]
    have := h.ways
    have := h'.ways
    omega
theorem bit_or {u k j : Nat} : (u ||| 2 ^ k).testBit j = (u.testBit j || decide (k = j)) := by rw [Nat.testBit_or, Nat.testBit_two_pow]
theorem okJ_iff : ∀ {l : List Int} {i u : Nat}, okJ can m i u l ↔ (∀ j, j < l.length → l.getD j (-1) = -1 ∨ ∃ k : Nat, l.getD j (-1) = k ∧ k < m ∧ can (i + j) k = true ∧ u.testBit k = false) ∧ ∀ a b, a < b → b < l.length → l.getD a (-1) = l.getD b (-1) → l.getD a (-1) = -1
  | [], i, u => by
    constructor
    · exact fun _ => ⟨fun j h => by simp at h, fun a b _ h => by simp at h⟩
    · exact fun _ => trivial
  | x :: l, i, u => by
    have e0 : (x :: l).getD 0 (-1) = x := rfl
    have es : ∀ j, (x :: l).getD (j + 1) (-1) = l.getD j (-1) := fun j => rfl
    unfold okJ
    constructor
    · rintro (⟨rfl, h⟩ | ⟨k, rfl, k1, k2, k3, h⟩)
      · obtain ⟨h1, h2⟩ := okJ_iff.1 h
        refine ⟨fun j hj => ?_, fun a b hab hb he => ?_⟩
        · cases j with
          | zero => exact .inl rfl
          | succ j =>
            rw [es, show i + (j + 1) = i + 1 + j by omega]
            exact h1 j (by simpa using hj)
        · cases a with
          | zero => rfl
          | succ a =>
            cases b with
            | zero => omega
            | succ b => rw [es] at he ⊢; rw [es] at he; exact h2 a b (by omega) (by simpa using hb) he
      · obtain ⟨h1, h2⟩ := okJ_iff.1 h
        refine ⟨fun j hj => ?_, fun a b hab hb he => ?_⟩
        · cases j with
          | zero => exact .inr ⟨k, rfl, k1, by simpa using k2, k3⟩
          | succ j =>
            rw [es, show i + (j + 1) = i + 1 + j by omega]
            rcases h1 j (by simpa using hj) with h | ⟨q, a, b, c, d⟩
            · exact .inl h
            · rw [bit_or, Bool.or_eq_false_iff] at d
              exact .inr ⟨q, a, b, c, d.1⟩
        · cases b with
          | zero => omega
          | succ b =>
            cases a with
            | zero =>
              rw [e0, es] at he
              rcases h1 b (by simpa using hb) with h | ⟨q, a, _, _, d⟩
              · omega
              · rw [bit_or, Bool.or_eq_false_iff] at d
                have : k = q := by omega
                simp [this] at d
            | succ a => rw [es] at he ⊢; rw [es] at he; exact h2 a b (by omega) (by simpa using hb) he
    · rintro ⟨h1, h2⟩
      have g2 : ∀ a b, a < b → b < l.length → l.getD a (-1) = l.getD b (-1) → l.getD a (-1) = -1 := fun a b hab hb he => h2 (a + 1) (b + 1) (by omega) (by simpa using hb) he
      rcases h1 0 (by simp) with h | ⟨k, ha, hb, hc, hd⟩
      · refine .inl ⟨h, okJ_iff.2 ⟨fun j hj => ?_, g2⟩⟩
        have := h1 (j + 1) (by simpa using hj)
        rw [es, show i + (j + 1) = i + 1 + j by omega] at this
        exact this
      · rw [e0] at ha
        refine .inr ⟨k, ha, hb, by simpa using hc, hd, okJ_iff.2 ⟨fun j hj => ?_, g2⟩⟩
        have := h1 (j + 1) (by simpa using hj)
        rw [es, show i + (j + 1) = i + 1 + j by omega] at this
        rcases this with h | ⟨q, q1, q2, q3, q4⟩
        · exact .inl h
        · refine .inr ⟨q, q1, q2, q3, ?_⟩
          rw [bit_or, q4, Bool.false_or, decide_eq_false_iff_not]
          intro e
          have := h2 0 (j + 1) (by omega) (by simpa using hj) (by rw [e0, es, ha, q1, e])
          rw [e0] at this
          omega
def fnJ (l : List Int) : Nat → Int := fun j => l.getD j (-1)
theorem okJ_mt {l : List Int} {u : Nat} : okJ can m 0 u l ↔ Mt l.length m can (fnJ l) ∧ ∀ k, u.testBit k = true → ¬ Usd l.length (fnJ l) k := by
  rw [okJ_iff]
  unfold fnJ
  constructor
  · rintro ⟨h1, h2⟩
    refine ⟨⟨fun i hi => ?_, fun i j hi hj hij he => ?_⟩, fun k hk => ?_⟩
    · rcases h1 i hi with h | ⟨k, a, b, c, d⟩
      · exact .inl h
      · exact .inr ⟨k, a, b, by simpa using c⟩
    · rcases Nat.lt_or_gt_of_ne hij with h | h
      · exact h2 i j h hj he
      · have := h2 j i h hi he.symm
        rw [he]; exact this
    · rintro ⟨i, hi, e⟩
      dsimp only at e
      rcases h1 i hi with h | ⟨q, a, b, c, d⟩
      · omega
      · have : q = k := by omega
        subst this
        rw [hk] at d; cases d
  · rintro ⟨h1, h2⟩
    refine ⟨fun j hj => ?_, fun a b hab hb he => h1.inj a b (by omega) hb (by omega) he⟩
    rcases h1.ok j hj with h | ⟨k, a, b, c⟩
    · exact .inl h
    · refine .inr ⟨k, a, b, by simpa using c, ?_⟩
      cases hk : u.testBit k
      · rfl
      · exact absurd ⟨j, hj, a⟩ (h2 k hk)
theorem sumN_shift (f : Nat → Int) : ∀ n : Nat, sumN f (n + 1) = f 0 + sumN (fun i => f (i + 1)) n
  | 0 => by simp [sumN]
  | n + 1 => by
    rw [sumN, sumN_shift f n, sumN]; omega
theorem valJ_sum : ∀ (l : List Int) (i : Nat), valJ t i l = sumN (fun j => pv t (i + j) (l.getD j (-1))) l.length
  | [], _ => rfl
  | x :: l, i => by
    rw [valJ, valJ_sum l (i + 1), List.length_cons, sumN_shift]
    congr 1
    refine sumN_congr fun j _ => ?_
    rw [show i + (j + 1) = i + 1 + j by omega]; rfl
theorem valJ_wt (l : List Int) : valJ t 0 l = wt t l.length (fnJ l) := by
  rw [valJ_sum]
  refine sumN_congr fun j _ => ?_
  rw [Nat.zero_add]; rfl
theorem range_getD {f : Nat → Int} {n j : Nat} (h : j < n) : ((List.range n).map f).getD j (-1) = f j := by
  simp [List.getD, h]
theorem list_mt {n u : Nat} {l : List Int} (h : l ∈ joinsL can m n 0 u) : Mt n m can (fnJ l) ∧ (∀ k, u.testBit k = true → ¬ Usd n (fnJ l) k) ∧ valJ t 0 l = wt t n (fnJ l) := by
  obtain ⟨hl, ho⟩ := mem_joinsL.1 h
  obtain ⟨h1, h2⟩ := okJ_mt.1 ho
  rw [hl] at h1 h2
  exact ⟨h1, h2, by rw [valJ_wt, hl]⟩
end
end Go.Proofs.Ytgeijboidfadaaa.Fd
namespace Go.Proofs.Ytgeijboidfadaaa.Fd
set_option linter.all false
open Go

def up (i x : Nat) : Nat := if x < i then x else x + 1
section
variable {n m : Nat} {can : Nat → Nat → Bool} {t : Nat → Nat → Int}
theorem Mt.bd {J : Nat → Int} (h : Mt n m can J) {i : Nat} (hi : i < n) : -1 ≤ J i ∧ J i < m := by
  rcases h.ok i hi with e | ⟨k, e, hk, _⟩ <;> omega
theorem IsMax.congr {fr fr' : Nat → Prop} {v : Int} (h : IsMax n m can t fr v) (hf : ∀ k, fr k ↔ fr' k) : IsMax n m can t fr' v := by
  have : fr = fr' := funext fun k => propext (hf k)
  rw [← this]; exact h
theorem mem_joins {l : List Int} {u : Nat} : l ∈ joinsL can m n 0 u ↔ l.length = n ∧ Mt n m can (fnJ l) ∧ ∀ k, u.testBit k = true → ¬ Usd n (fnJ l) k := by
  constructor
  · intro h
    obtain ⟨h1, h2, _⟩ := list_mt (t := fun _ _ => 0) h
    exact ⟨(mem_joinsL.1 h).1, h1, h2⟩
  · rintro ⟨h1, h2⟩
    exact mem_joinsL.2 ⟨h1, okJ_mt.2 (by rw [h1]; exact h2)⟩
theorem val_joins {l : List Int} (h : l.length = n) : valJ t 0 l = wt t n (fnJ l) := by rw [valJ_wt, h]
theorem fn_map {f : Nat → Int} {j : Nat} (h : j < n) : fnJ ((List.range n).map f) j = f j := range_getD h
theorem Mt.congr {J J' : Nat → Int} (h : Mt n m can J) (he : ∀ i, i < n → J i = J' i) : Mt n m can J' := by
  refine ⟨fun i hi => by rw [← he i hi]; exact h.ok i hi, fun i j hi hj hij e => ?_⟩
  rw [← he i hi, ← he j hj] at e
  rw [← he i hi]
  exact h.inj i j hi hj hij e
end
end Go.Proofs.Ytgeijboidfadaaa.Fd
namespace Go.Proofs.Ytgeijboidfadaaa.Fd
set_option linter.all false
open Go

theorem gets {α : Type} {l : List α} {k : Nat} (h : k < l.length) (d : α) : l[((k : Nat) : Int).toNat]? = some (l.getD k d) := by simp [List.getD, h]
theorem getD_mem {α : Type} {l : List α} {i : Nat} {d : α} (h : i < l.length) : l.getD i d ∈ l := by
  simp [List.getD, h]
theorem nat_succ (k : Nat) : ((k + 1 : Nat) : Int) = (k : Int) + 1 := by omega
theorem in_v (N : Nat) (n lo hi : Int) : in__S N n lo hi = some (decide (lo ≤ n ∧ n ≤ hi)) := by
  unfold in__S br
  by_cases h : lo ≤ n <;> simp [h]
theorem every_gen {α : Type} {f : α → Option Bool} {p : α → Bool} {s : List α} {N : Nat} (hf : ∀ x ∈ s, f x = some (p x)) (hs : s.length ≤ 1000000) (hN : s.length < N) :
    (((ixS (fun x => (f x).bind fun c => some (!c)) N s).bind fun x => some (decide (0 ≤ x))).bind fun x => some (!x)) = some (s.all p) := by
  rw [ixS_any (p := fun x => !p x) (fun x hx => by rw [hf x hx]; rfl) hs hN]
  simp only [Option.bind_some, any_not]
/-- The limits of a desk's numbers. -/
def okv (x : Int) : Bool := decide (-1 ≤ x ∧ x ≤ 5)
def okw (x : Int) : Bool := decide (1 ≤ x ∧ x ≤ 9)
def okr (x : Int) : Bool := decide (0 ≤ x ∧ x ≤ 99)
def okl (n : Nat) (r : List Int) : Bool := decide (r.length = n)
/-- What is looked at is small. -/
structure Sm (W : List Int) (L F : List (List Int)) (R : List Int) : Prop where
  w : W.length ≤ 100
  l : L.length ≤ 100
  f : F.length ≤ 100
  r : R.length ≤ 100
  lr : ∀ x ∈ L, x.length ≤ 100
  fr : ∀ x ∈ F, x.length ≤ 100
section
variable (N : Nat)
theorem ixfv_gen : ∀ (n : Nat) (s : List Int) (u u2 : Int), ixfv_l1 N n s u u2 = ixL (every1v_S N) n s u u2
  | 0, _, _, _ => rfl
  | n + 1, s, u, u2 => by unfold ixfv_l1 ixL; simp only [ixfv_gen n]
theorem ixfva_gen : ∀ (n : Nat) (s : List (List Int)) (u u2 : Int), ixfva_l1 N n s u u2 = ixL (every1va_S N) n s u u2
  | 0, _, _, _ => rfl
  | n + 1, s, u, u2 => by unfold ixfva_l1 ixL; simp only [ixfva_gen n]
theorem ixfw_gen : ∀ (n : Nat) (s : List Int) (u u2 : Int), ixfw_l1 N n s u u2 = ixL (every1w_S N) n s u u2
  | 0, _, _, _ => rfl
  | n + 1, s, u, u2 => by unfold ixfw_l1 ixL; simp only [ixfw_gen n]
theorem ixfr_gen : ∀ (n : Nat) (s : List Int) (u u2 : Int), ixfr_l1 N n s u u2 = ixL (every1r_S N) n s u u2
  | 0, _, _, _ => rfl
  | n + 1, s, u, u2 => by unfold ixfr_l1 ixL; simp only [ixfr_gen n]
end
section
variable {N : Nat} {W : List Int} {s : Int} {L F : List (List Int)} {R : List Int}
theorem everyv_v {l : List Int} (h : l.length ≤ 1000000) (hN : l.length < N) : everyv_S N l = some (l.all okv) := by
  unfold everyv_S cofv_S ixfv_S
  rw [← every_gen (f := check21_S N) (p := okv) (s := l) (N := N) (fun x _ => ?_) h hN]
  · unfold ixS
    rw [ixfv_gen]
    rfl
  · unfold check21_S okv
    rw [in_v]; rfl
theorem everyw_v {l : List Int} (h : l.length ≤ 1000000) (hN : l.length < N) : everyw_S N l = some (l.all okw) := by
  unfold everyw_S cofw_S ixfw_S
  rw [← every_gen (f := check3_S N) (p := okw) (s := l) (N := N) (fun x _ => ?_) h hN]
  · unfold ixS
    rw [ixfw_gen]
    rfl
  · unfold check3_S okw
    rw [in_v]; rfl
theorem everyr_v {l : List Int} (h : l.length ≤ 1000000) (hN : l.length < N) : everyr_S N l = some (l.all okr) := by
  unfold everyr_S cofr_S ixfr_S
  rw [← every_gen (f := check4_S N) (p := okr) (s := l) (N := N) (fun x _ => ?_) h hN]
  · unfold ixS
    rw [ixfr_gen]
    rfl
  · unfold check4_S okr
    rw [in_v]; rfl
theorem everyva_v {l : List (List Int)} (h : l.length ≤ 1000000) (hN : l.length < N) (hr : ∀ x ∈ l, x.length ≤ 1000000 ∧ x.length < N) : everyva_S N l = some (l.all fun r => r.all okv) := by
  unfold everyva_S cofva_S ixfva_S
  rw [← every_gen (f := check2_S N) (p := fun r => r.all okv) (s := l) (N := N) (fun x hx => ?_) h hN]
  · unfold ixS
    rw [ixfva_gen]
    rfl
  · unfold check2_S
    rw [everyv_v (hr x hx).1 (hr x hx).2]; rfl
theorem ixflo_gen : ∀ (n : Nat) (l : List (List Int)) (u u2 : Int), ixflo_l1 N n l u u2 (W, s, L, F, R) = (ixL (fun x => some (!okl W.length x)) n l u u2).map fun r => match r with | .inl i => .inl (i, (W, s, L, F, R)) | .inr _ => .inr (W, s, L, F, R)
  | 0, _, _, _ => rfl
  | n + 1, l, u, u2 => by
    have e : ∀ x, every1lo_S N x (W, s, L, F, R) = some (!okl W.length x, (W, s, L, F, R)) := fun x => by
      unfold every1lo_S check1_S okl
      simp only [Option.bind_some]
      congr 3
      exact decide_eq_decide.2 (by omega)
    unfold ixflo_l1 ixL
    simp only [e, Option.bind_some, ixflo_gen n]
    unfold br
    split
    · unfold idx
      split
      · cases l[u2.toNat]? with
        | none => rfl
        | some a =>
          dsimp only
          cases okl W.length a
          · rfl
          · simp only [Bool.not_true, Bool.false_eq_true, if_false]
            unfold chk
            split <;> rfl
      · rfl
    · rfl
theorem everylo_v {l : List (List Int)} (h : l.length ≤ 1000000) (hN : l.length < N) : everylo_S N l (W, s, L, F, R) = some (l.all (okl W.length)) := by
  unfold everylo_S coflo_S ixflo_S
  rw [← every_gen (f := fun x => some (okl W.length x)) (p := okl W.length) (s := l) (N := N) (fun x _ => rfl) h hN]
  unfold ixS
  rw [ixflo_gen]
  simp only [Option.bind_some]
  cases ixL (fun x => some (!okl W.length x)) N l l.length 0 with
  | none => rfl
  | some r => cases r <;> rfl
end
/-- The error of a desk. -/
def errD (W : List Int) (s : Int) (L F : List (List Int)) (R : List Int) : Int :=
  if ¬ (1 ≤ (W.length : Int) ∧ (W.length : Int) ≤ 5) then 2 else if 6 < (L.length : Int) then 2 else if 6 < (F.length : Int) then 2 else if L.all (okl W.length) = false then 2 else if F.all (okl W.length) = false then 2 else
  if ¬ ((R.length : Int) = (L.length : Int)) then 2 else if (W.all okw && decide (0 ≤ s ∧ s ≤ 3) && R.all okr && (L.all fun r => r.all okv) && F.all fun r => r.all okv) = true then 0 else 3
section
variable {N : Nat} {W : List Int} {s : Int} {L F : List (List Int)} {R : List Int}
theorem check_v (hN : 110 ≤ N) (h : Sm W L F R) : check_S N W s L F R = some (errD W s L F R) := by
  obtain ⟨hw, hl, hf, hr, hlr, hfr⟩ := h
  unfold check_S errD
  rw [in_v]
  simp only [Option.bind_some]
  by_cases c1 : 1 ≤ (W.length : Int) ∧ (W.length : Int) ≤ 5
  rotate_left
  · rw [br_nnd c1, if_pos c1]
  rw [br_nd c1, if_neg (by simpa using c1)]
  by_cases c2 : 6 < (L.length : Int)
  · rw [br_dec c2, if_pos c2]
  rw [br_ndec c2, if_neg c2]
  by_cases c3 : 6 < (F.length : Int)
  · rw [br_dec c3, if_pos c3]
  rw [br_ndec c3, if_neg c3, everylo_v (by omega) (by omega), everylo_v (by omega) (by omega), everyw_v (by omega) (by omega), in_v, everyr_v (by omega) (by omega),
    everyva_v (by omega) (by omega) (fun x hx => ⟨by have := hlr x hx; omega, by have := hlr x hx; omega⟩), everyva_v (by omega) (by omega) (fun x hx => ⟨by have := hfr x hx; omega, by have := hfr x hx; omega⟩)]
  simp only [Option.bind_some]
  cases L.all (okl W.length)
  · rfl
  cases F.all (okl W.length)
  · rfl
  by_cases c4 : (R.length : Int) = (L.length : Int)
  rotate_left
  · simp only [Bool.not_true, br_false, Bool.true_eq_false, if_false]
    rw [br_nnd c4, if_pos c4]
  simp only [Bool.not_true, br_false, Bool.true_eq_false, if_false]
  rw [br_nd c4, if_neg (not_not_intro c4)]
  cases W.all okw <;> cases decide (0 ≤ s ∧ s ≤ 3) <;> cases R.all okr <;> cases (L.all fun r => r.all okv) <;> cases (F.all fun r => r.all okv) <;> rfl
end
section
variable {N : Nat}
end
end Go.Proofs.Ytgeijboidfadaaa.Fd
namespace Go.Proofs.Ytgeijboidfadaaa.Fd
set_option linter.all false
open Go

def tabA (g : Nat → Int) : List Int := (List.range 36).map g
theorem tabA_len (g : Nat → Int) : (tabA g).length = 36 := by simp [tabA]
theorem tabA_get {g : Nat → Int} {x : Nat} (h : x < 36) : (tabA g).getD x 0 = g x := by simp [tabA, List.getD, h]
theorem tabA_set (g : Nat → Int) (x : Nat) (v : Int) : (tabA g).set x v = tabA (upd g x v) := by
  refine List.ext_getElem (by simp [tabA]) fun i h1 h2 => ?_
  simp only [tabA, List.getElem_set, List.getElem_map, List.getElem_range, upd]
  by_cases e : x = i
  · rw [if_pos e, if_pos e.symm]
  · rw [if_neg e, if_neg (Ne.symm e)]
/-- What two descriptions agree in, and how often they slip, up to a trait. -/
def agA (W a b : List Int) (t : Nat) : Int := if a.getD t 0 = b.getD t 0 ∧ a.getD t 0 ≠ -1 then W.getD t 0 else 0
def slA (a b : List Int) (t : Nat) : Int := if a.getD t 0 ≠ -1 ∧ b.getD t 0 ≠ -1 ∧ a.getD t 0 ≠ b.getD t 0 then 1 else 0
def agP (W a b : List Int) (k : Nat) : Int := sumN (agA W a b) k
def slP (a b : List Int) (k : Nat) : Int := sumN (slA a b) k
def agF (W : List Int) (L F : List (List Int)) (i k : Nat) : Int := if i < L.length ∧ k < F.length then agP W (L.getD i []) (F.getD k []) W.length else 0
def slF (W : List Int) (L F : List (List Int)) (i k : Nat) : Int := if i < L.length ∧ k < F.length then slP (L.getD i []) (F.getD k []) W.length else 0
theorem sumN_bound {f : Nat → Int} {m : Int} (h : ∀ i, 0 ≤ f i ∧ f i ≤ m) (hm : 0 ≤ m ∧ m ≤ 10) : ∀ n : Nat, n ≤ 1000 → 0 ≤ sumN f n ∧ sumN f n ≤ 10 * n
  | 0, _ => by simp [sumN]
  | n + 1, hn => by
    have h1 := sumN_bound h hm n (by omega)
    have h2 := h n
    rw [sumN]; omega
/-- A desk without an error. -/
structure Fine (W : List Int) (s : Int) (L F : List (List Int)) (R : List Int) : Prop where
  w1 : 1 ≤ W.length
  w5 : W.length ≤ 5
  l6 : L.length ≤ 6
  f6 : F.length ≤ 6
  lw : ∀ x ∈ L, x.length = W.length
  fw : ∀ x ∈ F, x.length = W.length
  rl : R.length = L.length
  w : ∀ x ∈ W, 1 ≤ x ∧ x ≤ 9
  s : 0 ≤ s ∧ s ≤ 3
  r : ∀ x ∈ R, 0 ≤ x ∧ x ≤ 99
  lv : ∀ r ∈ L, ∀ x ∈ r, -1 ≤ x ∧ x ≤ 5
  fv : ∀ r ∈ F, ∀ x ∈ r, -1 ≤ x ∧ x ≤ 5
section
variable {W : List Int} {s : Int} {L F : List (List Int)} {R : List Int}
theorem errD_iff : errD W s L F R = 0 ↔ Fine W s L F R := by
  unfold errD
  constructor
  · intro h
    split at h
    · cases h
    rename_i c1
    split at h
    · cases h
    rename_i c2
    split at h
    · cases h
    rename_i c3
    split at h
    · cases h
    rename_i c4
    split at h
    · cases h
    rename_i c5
    split at h
    · cases h
    rename_i c6
    split at h
    rotate_left
    · cases h
    rename_i c7
    simp only [Bool.and_eq_true, List.all_eq_true, okw, okr, okv, decide_eq_true_eq] at c7
    simp only [Bool.not_eq_false, List.all_eq_true, okl, decide_eq_true_eq] at c4 c5
    exact ⟨by omega, by omega, by omega, by omega, c4, c5, by omega, c7.1.1.1.1, c7.1.1.1.2, c7.1.1.2, c7.1.2, c7.2⟩
  · intro h
    have c4 : L.all (okl W.length) = true := by simpa [okl] using h.lw
    have c5 : F.all (okl W.length) = true := by simpa [okl] using h.fw
    have h1 := h.w1; have h2 := h.w5; have h3 := h.l6; have h4 := h.f6; have h5 := h.rl
    rw [if_neg (by omega), if_neg (by omega), if_neg (by omega), if_neg (by simp [c4]), if_neg (by simp [c5]), if_neg (by omega), if_pos]
    simp only [Bool.and_eq_true, List.all_eq_true, okw, okr, okv, decide_eq_true_eq]
    exact ⟨⟨⟨⟨h.w, h.s⟩, h.r⟩, h.lv⟩, h.fv⟩
/-- The desk at work. -/
def dkT (W : List Int) (s : Int) (L F : List (List Int)) (R : List Int) (A B : Nat → Nat → Int) : Dk := (W, s, L, F, R, tabA (fun x => A (x / 6) (x % 6)), tabA (fun x => B (x / 6) (x % 6)), ())
def dkO (W : List Int) (s : Int) (L F : List (List Int)) (R : List Int) : Dk := dkT W s L F R (agF W L F) (slF W L F)
theorem getD_W (hw : ∀ x ∈ W, 1 ≤ x ∧ x ≤ 9) (t : Nat) : 0 ≤ W.getD t 0 ∧ W.getD t 0 ≤ 9 := by
  by_cases h : t < W.length
  · have := hw _ (getD_mem (d := 0) h); omega
  · have : W.getD t 0 = 0 := by simp [List.getD, List.getElem?_eq_none (show W.length ≤ t by omega)]
    omega
theorem agA_bound (hw : ∀ x ∈ W, 1 ≤ x ∧ x ≤ 9) (a b : List Int) (t : Nat) : 0 ≤ agA W a b t ∧ agA W a b t ≤ 9 := by
  have := getD_W hw t
  unfold agA; split <;> omega
theorem slA_bound (a b : List Int) (t : Nat) : 0 ≤ slA a b t ∧ slA a b t ≤ 1 := by unfold slA; split <;> omega
theorem agP_bound (hw : ∀ x ∈ W, 1 ≤ x ∧ x ≤ 9) (a b : List Int) {t : Nat} (ht : t ≤ 5) : 0 ≤ agP W a b t ∧ agP W a b t ≤ 50 := by
  have := sumN_bound (agA_bound hw a b) (by omega) t (by omega)
  unfold agP; omega
theorem slP_bound (a b : List Int) {t : Nat} (ht : t ≤ 5) : 0 ≤ slP a b t ∧ slP a b t ≤ 50 := by
  have := sumN_bound (slA_bound a b) (by omega) t (by omega)
  unfold slP; omega
theorem upd_upd {α : Type} (J : Nat → α) (i : Nat) (v w : α) : upd (upd J i v) i w = upd J i w := by
  funext x; unfold upd; split <;> rfl
theorem upd_id {α : Type} (J : Nat → α) (i : Nat) : upd J i (J i) = J := by
  funext x; unfold upd; split
  · rename_i e; rw [e]
  · rfl
theorem opened_l3_p {N : Nat} (h : Fine W s L F R) {i k : Nat} (hi : i < 6) (hk : k < 6) {a b : List Int} (ha : a.length = W.length) (hb : b.length = W.length) {u u4 : List (List Int)} {u2 u3 u5 u6 : Int} {o1 o5 : List Int} {o2 : Int} {o3 o4 : List (List Int)} :
    ∀ (n t : Nat) (g g' : Nat → Int), W.length < n + t → t ≤ W.length → g (i * 6 + k) = agP W a b t → g' (i * 6 + k) = slP a b t →
      opened_l3 N n i a k b u u2 u3 u4 u5 u6 a a.length t W s L F R o1 o2 o3 o4 o5 (tabA g) (tabA g') = some ((i : Int), a, u, u2, u3, u4, u5, u6, W, s, L, F, R, o1, o2, o3, o4, o5, tabA (upd g (i * 6 + k) (agP W a b W.length)), tabA (upd g' (i * 6 + k) (slP a b W.length)))
  | 0, t, _, _, hn, ht, _, _ => by omega
  | n + 1, t, g, g', hn, ht, e1, e2 => by
    unfold opened_l3
    have hw5 := h.w5
    by_cases c : t < W.length
    · have hx : i * 6 + k < 36 := by omega
      have hj : ∀ g g' : Nat → Int, opened_j1 N (opened_l3 N n) i a k b u u2 u3 u4 u5 u6 a a.length t W s L F R o1 o2 o3 o4 o5 (tabA g) (tabA g') = opened_l3 N n i a k b u u2 u3 u4 u5 u6 a a.length ((t + 1 : Nat) : Int) W s L F R o1 o2 o3 o4 o5 (tabA g) (tabA g') := fun g g' => by
        unfold opened_j1
        rw [chk_eq (by omega)]; rfl
      have b1 := agP_bound h.w a b (t := t) (by omega)
      have b2 := slP_bound a b (t := t) (by omega)
      have b3 := getD_W h.w t
      have s1 : agP W a b (t + 1) = agP W a b t + agA W a b t := rfl
      have s2 : slP a b (t + 1) = slP a b t + slA a b t := rfl
      rw [br_dec (by omega), idx_eq (by omega) (gets (by omega) 0)]
      unfold agA at s1
      unfold slA at s2
      by_cases c1 : a.getD t 0 = -1
      · rw [if_neg (by omega)] at s1 s2
        rw [br_dec c1, hj, opened_l3_p h hi hk ha hb n (t + 1) g g' (by omega) (by omega) (by omega) (by omega)]
      rw [br_ndec c1, idx_eq (by omega) (gets (by omega) 0)]
      by_cases c2 : b.getD t 0 = -1
      · rw [if_neg (by omega)] at s1 s2
        rw [br_dec c2, hj, opened_l3_p h hi hk ha hb n (t + 1) g g' (by omega) (by omega) (by omega) (by omega)]
      rw [br_ndec c2, idx_eq (by omega) (gets (by omega) 0)]
      by_cases c3 : a.getD t 0 = b.getD t 0
      · rw [if_pos ⟨c3, c1⟩] at s1
        rw [if_neg (by omega)] at s2
        rw [br_dec c3, rng_eq (by omega), rng_eq (by omega)]
        simp only [Int.toNat_natCast]
        rw [get_get 0 (by rw [tabA_len]; exact hx), tabA_get hx, e1, idx_eq (by omega) (gets (k := t) (l := W) (by omega) 0), chk_eq (by omega), rng_eq (by omega), rng_eq (by omega), get_get 0 (by rw [tabA_len]; exact hx), tabA_set, hj,
          opened_l3_p h hi hk ha hb n (t + 1) _ _ (by omega) (by omega) (by rw [upd_self]; omega) (by omega), upd_upd]
      · rw [if_neg (by omega)] at s1
        rw [if_pos ⟨c1, c2, c3⟩] at s2
        rw [br_ndec c3, rng_eq (by omega), rng_eq (by omega)]
        simp only [Int.toNat_natCast]
        rw [get_get 0 (by rw [tabA_len]; exact hx), tabA_get hx, e2, chk_eq (by omega), rng_eq (by omega), rng_eq (by omega), get_get 0 (by rw [tabA_len]; exact hx), tabA_set, hj,
          opened_l3_p h hi hk ha hb n (t + 1) _ _ (by omega) (by omega) (by omega) (by rw [upd_self]; omega), upd_upd]
    · obtain rfl : t = W.length := by omega
      rw [br_ndec (by omega), ← e1, ← e2, upd_id, upd_id]
/-- Tables that are filled up to a pair. -/
def gK (A : Nat → Nat → Int) (i k : Nat) : Nat → Int := fun x => if x / 6 < i ∨ (x / 6 = i ∧ x % 6 < k) then A (x / 6) (x % 6) else 0
theorem gK_step (A : Nat → Nat → Int) {i k : Nat} (hk : k < 6) : upd (gK A i k) (i * 6 + k) (A i k) = gK A i (k + 1) := by
  funext x
  unfold upd gK
  by_cases e : x = i * 6 + k
  · rw [if_pos e, if_pos (by omega), show x / 6 = i by omega, show x % 6 = k by omega]
  · rw [if_neg e]
    by_cases c : x / 6 < i ∨ (x / 6 = i ∧ x % 6 < k)
    · rw [if_pos c, if_pos (by omega)]
    · rw [if_neg c, if_neg (by omega)]
theorem gK_self (A : Nat → Nat → Int) {i k : Nat} (hk : k < 6) : gK A i k (i * 6 + k) = 0 := if_neg (by omega)
theorem gK_row {A : Nat → Nat → Int} {i m : Nat} (h : ∀ k, m ≤ k → A i k = 0) : gK A i m = gK A (i + 1) 0 := by
  funext x
  unfold gK
  by_cases c : x / 6 < i ∨ (x / 6 = i ∧ x % 6 < m)
  · rw [if_pos c, if_pos (by omega)]
  · rw [if_neg c]
    by_cases d : x / 6 = i
    · rw [if_pos (by omega), d, h _ (by omega)]
    · rw [if_neg (by omega)]
theorem gK_all {A : Nat → Nat → Int} {n : Nat} (h : ∀ i k, n ≤ i → A i k = 0) : gK A n 0 = fun x => A (x / 6) (x % 6) := by
  funext x
  unfold gK
  by_cases c : x / 6 < n
  · rw [if_pos (.inl c)]
  · rw [if_neg (by omega), h _ _ (by omega)]
theorem opened_l2_p {N : Nat} (hN : 110 ≤ N) (h : Fine W s L F R) {i : Nat} (hi : i < L.length) {u : List (List Int)} {u2 u3 : Int} {o1 o5 : List Int} {o2 : Int} {o3 o4 : List (List Int)} :
    ∀ (n k : Nat), F.length < n + k → k ≤ F.length →
      opened_l2 N n i (L.getD i []) u u2 u3 F F.length k W s L F R o1 o2 o3 o4 o5 (tabA (gK (agF W L F) i k)) (tabA (gK (slF W L F) i k)) = some (u, u2, u3, W, s, L, F, R, o1, o2, o3, o4, o5, tabA (gK (agF W L F) (i + 1) 0), tabA (gK (slF W L F) (i + 1) 0))
  | 0, k, hn, hk => by omega
  | n + 1, k, hn, hk => by
    unfold opened_l2
    have hl6 := h.l6; have hf6 := h.f6; have hw5 := h.w5
    by_cases c : k < F.length
    · have ih := opened_l2_p hN h hi (u := u) (u2 := u2) (u3 := u3) (o1 := o1) (o5 := o5) (o2 := o2) (o3 := o3) (o4 := o4) n (k + 1) (by omega) (by omega)
      rw [nat_succ] at ih
      have e := opened_l3_p (N := N) h (i := i) (k := k) (by omega) (by omega) (h.lw _ (getD_mem (d := []) hi)) (h.fw _ (getD_mem (d := []) c)) (u := u) (u4 := F) (u2 := u2) (u3 := u3) (u5 := F.length) (u6 := k) (o1 := o1) (o5 := o5) (o2 := o2) (o3 := o3) (o4 := o4)
        N 0 (gK (agF W L F) i k) (gK (slF W L F) i k) (by omega) (by omega) (gK_self _ (by omega)) (gK_self _ (by omega))
      have a1 : agP W (L.getD i []) (F.getD k []) W.length = agF W L F i k := (if_pos ⟨hi, c⟩).symm
      have a2 : slP (L.getD i []) (F.getD k []) W.length = slF W L F i k := (if_pos ⟨hi, c⟩).symm
      rw [a1, a2, gK_step _ (by omega), gK_step _ (by omega), show ((0 : Nat) : Int) = 0 from rfl] at e
      rw [br_dec (by omega), idx_eq (by omega) (gets c []), e]
      simp only [Option.bind_some]
      rw [chk_eq (by omega)]
      exact ih
    · obtain rfl : k = F.length := by omega
      rw [br_ndec (by omega), gK_row (A := agF W L F) (i := i) (m := F.length) (fun k hk => by unfold agF; exact if_neg (by omega)), gK_row (A := slF W L F) (i := i) (m := F.length) (fun k hk => by unfold slF; exact if_neg (by omega))]
theorem opened_l1_p {N : Nat} (hN : 110 ≤ N) (h : Fine W s L F R) {o1 o5 : List Int} {o2 : Int} {o3 o4 : List (List Int)} :
    ∀ (n i : Nat), L.length < n + i → i ≤ L.length →
      opened_l1 N n L L.length i W s L F R o1 o2 o3 o4 o5 (tabA (gK (agF W L F) i 0)) (tabA (gK (slF W L F) i 0)) = some (o1, o2, o3, o4, o5, tabA (fun x => agF W L F (x / 6) (x % 6)), tabA (fun x => slF W L F (x / 6) (x % 6)))
  | 0, i, hn, hi => by omega
  | n + 1, i, hn, hi => by
    unfold opened_l1
    have hl6 := h.l6; have hf6 := h.f6
    by_cases c : i < L.length
    · have ih := opened_l1_p hN h (o1 := o1) (o5 := o5) (o2 := o2) (o3 := o3) (o4 := o4) n (i + 1) (by omega) (by omega)
      rw [nat_succ] at ih
      have e := opened_l2_p hN h c (u := L) (u2 := L.length) (u3 := i) (o1 := o1) (o5 := o5) (o2 := o2) (o3 := o3) (o4 := o4) N 0 (by omega) (by omega)
      rw [show ((0 : Nat) : Int) = 0 from rfl] at e
      rw [br_dec (by omega), idx_eq (by omega) (gets c []), e]
      simp only [Option.bind_some]
      rw [chk_eq (by omega)]
      exact ih
    · obtain rfl : i = L.length := by omega
      rw [br_ndec (by omega), gK_all (A := agF W L F) (fun i k hi => by unfold agF; exact if_neg (by omega)), gK_all (A := slF W L F) (fun i k hi => by unfold slF; exact if_neg (by omega))]
theorem opened_v {N : Nat} (hN : 110 ≤ N) (h : Sm W L F R) : opened_S N W s L F R = some (if errD W s L F R = 0 then .inl (dkO W s L F R, 0) else .inr (errD W s L F R)) := by
  unfold opened_S
  rw [check_v hN h]
  simp only [Option.bind_some]
  by_cases c : errD W s L F R = 0
  · have hF := errD_iff.1 c
    have e := opened_l1_p hN hF (o1 := W) (o2 := s) (o3 := L) (o4 := F) (o5 := R) N 0 (by have := hF.l6; omega) (by omega)
    have z : ∀ A : Nat → Nat → Int, tabA (gK A 0 0) = List.replicate 36 (0 : Int) := fun A => by
      rw [show gK A 0 0 = fun _ => 0 by funext x; exact if_neg (by omega)]; rfl
    rw [z, z, show ((0 : Nat) : Int) = 0 from rfl] at e
    rw [br_nd c, if_pos c, e]; rfl
  · rw [br_nnd c, if_neg c]
end
end Go.Proofs.Ytgeijboidfadaaa.Fd
namespace Go.Proofs.Ytgeijboidfadaaa.Fd
set_option linter.all false
open Go

def canT (A B : Nat → Nat → Int) (s : Int) (i k : Nat) : Bool := decide (0 < A i k) && decide (B i k ≤ s)
section
variable {W : List Int} {s : Int} {L F : List (List Int)} {R : List Int} {A B : Nat → Nat → Int} {N : Nat}
abbrev canF (W : List Int) (s : Int) (L F : List (List Int)) : Nat → Nat → Bool := canT (agF W L F) (slF W L F) s
end
end Go.Proofs.Ytgeijboidfadaaa.Fd
namespace Go.Proofs.Ytgeijboidfadaaa.Fd
set_option linter.all false
open Go

section
variable {W : List Int} {s : Int} {L F : List (List Int)} {R : List Int} {A B : Nat → Nat → Int} {N : Nat}
end
end Go.Proofs.Ytgeijboidfadaaa.Fd
namespace Go.Proofs.Ytgeijboidfadaaa.Fd
set_option linter.all false
open Go

abbrev MK := List ((Int × Int) × (Int × (Int × Int)))
def lkM (g : MK) (i u : Int) : Option (Int × (Int × Int)) := (g.find? fun (y : (Int × Int) × (Int × (Int × Int))) => Ty.beq (.pair (.int .i64) (.int .i64)) y.1 (i, u)).map (·.2)
theorem lkM_cons (a b : Int) (v : Int × (Int × Int)) (g : MK) (i u : Int) : lkM (((a, b), v) :: g) i u = if a = i ∧ b = u then some v else lkM g i u := by
  have e : Ty.beq (.pair (.int .i64) (.int .i64)) (a, b) (i, u) = decide (a = i ∧ b = u) := by
    show (decide (a = i) && decide (b = u)) = _
    by_cases h1 : a = i <;> by_cases h2 : b = u <;> simp [h1, h2]
  unfold lkM
  rw [List.find?_cons]
  by_cases h : a = i ∧ b = u
  · rw [if_pos h, show (Ty.beq (.pair (.int .i64) (.int .i64)) (((a, b), v) : (Int × Int) × (Int × (Int × Int))).1 (i, u)) = true by rw [e, decide_eq_true h]]; rfl
  · rw [if_neg h, show (Ty.beq (.pair (.int .i64) (.int .i64)) (((a, b), v) : (Int × Int) × (Int × (Int × Int))).1 (i, u)) = false by rw [e, decide_eq_false h]]
def hasM (g : MK) (i u : Nat) : Prop := (lkM g i u).isSome = true
def subM (g g' : MK) : Prop := ∀ i u : Nat, hasM g i u → hasM g' i u
theorem subM.trans {a b c : MK} (h : subM a b) (k : subM b c) : subM a c := fun i u x => k i u (h i u x)
/-- What is remembered is right, and so is what follows from it. -/
structure MOK (can : Nat → Nat → Bool) (t : Nat → Nat → Int) (m n : Nat) (g : MK) : Prop where
  val : ∀ (i u : Nat) v, lkM g i u = some v → v = rsR can t m (n - i) i u
  clo : ∀ i u : Nat, hasM g i u → i + 1 < n → hasM g (i + 1) u ∧ ∀ k ∈ mayL can m i, u.testBit k = false → hasM g (i + 1) (u ||| 2 ^ k)
theorem MOK.nil {can : Nat → Nat → Bool} {t : Nat → Nat → Int} {m n : Nat} : MOK can t m n [] := ⟨fun i u v h => by simp [lkM] at h, fun i u h => by simp [hasM, lkM] at h⟩
theorem MOK.cons {can : Nat → Nat → Bool} {t : Nat → Nat → Int} {m n : Nat} {g : MK} (h : MOK can t m n g) {i u : Nat} (h1 : i + 1 < n → hasM g (i + 1) u ∧ ∀ k ∈ mayL can m i, u.testBit k = false → hasM g (i + 1) (u ||| 2 ^ k)) :
    MOK can t m n ((((i : Int), (u : Int)), rsR can t m (n - i) i u) :: g) ∧ subM g ((((i : Int), (u : Int)), rsR can t m (n - i) i u) :: g) ∧ hasM ((((i : Int), (u : Int)), rsR can t m (n - i) i u) :: g) i u := by
  have hsub : subM g ((((i : Int), (u : Int)), rsR can t m (n - i) i u) :: g) := fun i' u' hh => by
    unfold hasM at *
    rw [lkM_cons]
    split
    · rfl
    · exact hh
  refine ⟨⟨fun i' u' v hv => ?_, fun i' u' hh hi => ?_⟩, hsub, ?_⟩
  · rw [lkM_cons] at hv
    split at hv
    · rename_i e
      obtain rfl : i = i' := by omega
      obtain rfl : u = u' := by omega
      simp only [Option.some.injEq] at hv
      exact hv.symm
    · exact h.val i' u' v hv
  · unfold hasM at hh
    rw [lkM_cons] at hh
    split at hh
    · rename_i e
      obtain rfl : i = i' := by omega
      obtain rfl : u = u' := by omega
      exact ⟨hsub _ _ (h1 hi).1, fun k hk hb => hsub _ _ ((h1 hi).2 k hk hb)⟩
    · obtain ⟨x, y⟩ := h.clo i' u' hh hi
      exact ⟨hsub _ _ x, fun k hk hb => hsub _ _ (y k hk hb)⟩
  · unfold hasM
    rw [lkM_cons, if_pos ⟨rfl, rfl⟩]; rfl
theorem MOK.get {can : Nat → Nat → Bool} {t : Nat → Nat → Int} {m n : Nat} {g : MK} (h : MOK can t m n g) {i u : Nat} (hh : hasM g i u) : lkM g i u = some (rsR can t m (n - i) i u) := by
  unfold hasM at hh
  cases e : lkM g i u with
  | none => rw [e] at hh; cases hh
  | some v => rw [h.val i u v e]
end Go.Proofs.Ytgeijboidfadaaa.Fd
namespace Go.Proofs.Ytgeijboidfadaaa.Fd
set_option linter.all false
open Go

section
variable {W : List Int} {s : Int} {L F : List (List Int)} {R : List Int} {A B : Nat → Nat → Int} {N : Nat}
theorem map_succ (f : Nat → Int) (k : Nat) : (List.range (k + 1)).map f = (List.range k).map f ++ [f k] := by rw [List.range_succ, List.map_append]; rfl
theorem mapR_sum (f : Nat → Int) : ∀ n : Nat, ((List.range n).map f).sum = sumN f n
  | 0 => rfl
  | n + 1 => by rw [map_succ, List.sum_append, mapR_sum f n, sumN]; simp
end
end Go.Proofs.Ytgeijboidfadaaa.Fd
namespace Go.Proofs.Ytgeijboidfadaaa.Fd
set_option linter.all false
open Go

section
variable {W : List Int} {s : Int} {L F : List (List Int)} {R : List Int} {A B : Nat → Nat → Int} {N : Nat}
end
end Go.Proofs.Ytgeijboidfadaaa.Fd
namespace Go.Proofs.Ytgeijboidfadaaa.Fd
set_option linter.all false
open Go

section
variable {W : List Int} {s : Int} {L F : List (List Int)} {R : List Int} {N : Nat}
end
end Go.Proofs.Ytgeijboidfadaaa.Fd
namespace Go.Proofs.Ytgeijboidfadaaa.Fd
set_option linter.all false
open Go
theorem wrap32 (x : Int) : 0 ≤ IntKind.u32.wrap x ∧ IntKind.u32.wrap x < 4294967296 := by
  have := wrap_inR .u32 x
  have h1 : IntKind.u32.min = 0 := by decide
  have h2 : IntKind.u32.max = 4294967295 := by decide
  unfold inR at this
  rw [h1, h2] at this
  omega
def Bell (b : List Int) (b2 : Int) : Prop := b.length ≤ 9223372036854775807 ∧ 0 ≤ b2 ∧ b2 ≤ b.length
abbrev BellR (b : List Int) (r : List Int × Int × Int) : Prop := r.1 = b ∧ Bell b r.2.1
theorem and_small (n : Nat) : 0 ≤ IntKind.i64.wrap ((n &&& 65535 : Nat) : Int) ∧ IntKind.i64.wrap ((n &&& 65535 : Nat) : Int) ≤ 65535 := by
  have : n &&& 65535 ≤ 65535 := Nat.and_le_right
  rw [wrap64 (by omega)]
  omega
theorem fdiv_nonneg {x : Int} (h : 0 ≤ x) : 0 ≤ Int.fdiv x (2 ^ 7) := by
  rw [Int.fdiv_eq_ediv_of_nonneg _ (by decide)]
  exact Int.ediv_nonneg h (by decide)
theorem ring_j1_ok (N : Nat) {b : List Int} {b2 b3 : Int} (hb : b.length ≤ 9223372036854775807) (h0 : 0 ≤ b2) (h1 : b2 < b.length ∨ b.length = 0 ∧ b2 = 0) : Ok (ring_j1 N b b2 b3) fun r => (0 ≤ r.1 ∧ r.1 ≤ 65535) ∧ BellR b r.2 := by
  unfold ring_j1
  refine Ok.brd (fun h => ?_) (fun h => ?_)
  · refine Ok.idx h0 (by omega) (fun a _ _ => Ok.chk (by omega) (Ok.grd ?_ (Ok.grd ?_ (Ok.some ?_))))
    · simp only [decide_eq_true_eq]; exact ⟨(wrap32 _).1, fdiv_nonneg (wrap32 _).1⟩
    · simp only [decide_eq_true_eq]; exact ⟨Int.natCast_nonneg _, by decide⟩
    · exact ⟨and_small _, rfl, hb, by dsimp only; omega, by dsimp only; omega⟩
  · refine Ok.grd ?_ (Ok.grd ?_ (Ok.some ?_))
    · simp only [decide_eq_true_eq]; exact ⟨(wrap32 _).1, fdiv_nonneg (wrap32 _).1⟩
    · simp only [decide_eq_true_eq]; exact ⟨Int.natCast_nonneg _, by decide⟩
    · exact ⟨and_small _, rfl, hb, by dsimp only; omega, by dsimp only; omega⟩
theorem ring_ok (N : Nat) {b : List Int} {b2 b3 : Int} (hb : Bell b b2) : Ok (ring_S N b b2 b3) fun r => (0 ≤ r.1 ∧ r.1 ≤ 65535) ∧ BellR b r.2 := by
  obtain ⟨h1, h2, h3⟩ := hb
  unfold ring_S
  refine Ok.brd (fun h => ring_j1_ok N h1 (by omega) (by omega)) (fun h => ring_j1_ok N h1 h2 (by omega))
theorem stroke_ok (N : Nat) {n : Int} {b : List Int} {b2 b3 : Int} (hb : Bell b b2) (hn : -1000000 ≤ n ∧ n ≤ 1000000) : Ok (stroke_S N n b b2 b3) fun r => (0 ≤ r.1 ∧ r.1 ≤ max 0 n) ∧ BellR b r.2 := by
  unfold stroke_S
  refine Ok.bind (ring_ok N hb) (fun r hr => ?_)
  obtain ⟨x, c, c2, c3⟩ := r
  refine Ok.chk (by omega) (Ok.grd (by simp only [Bool.not_eq_true', decide_eq_false_iff_not]; omega) (Ok.some ⟨?_, hr.2⟩))
  obtain ⟨⟨h1, h2⟩, _⟩ := hr
  dsimp only at *
  have hm : 0 < max 1 (n + 1) := by omega
  have := Int.tmod_lt_of_pos x hm
  have := Int.tmod_nonneg (max 1 (n + 1)) h1
  omega
theorem strike_ok (N : Nat) {lo hi : Int} {b : List Int} {b2 b3 : Int} (hb : Bell b b2) (hn : (-1000 ≤ lo ∧ lo ≤ 1000) ∧ -1000 ≤ hi ∧ hi ≤ 1000) : Ok (strike_S N lo hi b b2 b3) fun r => (lo ≤ r.1 ∧ r.1 ≤ max lo hi) ∧ BellR b r.2 := by
  unfold strike_S
  refine Ok.chk (by omega) (Ok.bind (stroke_ok N hb (by omega)) (fun r hr => ?_))
  obtain ⟨x, c, c2, c3⟩ := r
  obtain ⟨h, h2⟩ := hr
  dsimp only at *
  refine Ok.chk (by omega) (Ok.some ⟨by dsimp only; omega, h2⟩)
theorem seldom_ok (N : Nat) {n : Int} {b : List Int} {b2 b3 : Int} (hb : Bell b b2) (hn : -1000 ≤ n ∧ n ≤ 1000) : Ok (seldom_S N n b b2 b3) fun r => BellR b r.2 := by
  unfold seldom_S
  refine Ok.chk (by omega) (Ok.bind (stroke_ok N hb (by omega)) (fun r hr => ?_))
  obtain ⟨x, c, c2, c3⟩ := r
  exact Ok.some hr.2

def BelR (b b' : List Int) (b2 : Int) : Prop := b' = b ∧ Bell b b2
section
variable {N : Nat} {b : List Int}
theorem made1_ok {often b2 b3 : Int} (ho : -1000 ≤ often ∧ often ≤ 1000) (hb : Bell b b2) : Ok (made1_S N often b b2 b3) fun r => (-1 ≤ r.1 ∧ r.1 ≤ 2) ∧ BelR b r.2.1 r.2.2.1 := by
  unfold made1_S
  refine Ok.bind (seldom_ok N hb ho) ?_
  rintro ⟨x, c1, c2, c3⟩ ⟨hc, hb1⟩
  dsimp only at hc hb1 ⊢
  obtain rfl := hc.symm
  refine Ok.br (fun _ => Ok.some ⟨by dsimp only; omega, rfl, hb1⟩) (fun _ => ?_)
  refine Ok.bind (stroke_ok N hb1 (by omega)) ?_
  rintro ⟨y, d1, d2, d3⟩ ⟨hy, hc, hb2⟩
  dsimp only at hy hc hb2 ⊢
  obtain rfl := hc.symm
  exact Ok.some ⟨by dsimp only; omega, rfl, hb2⟩
theorem made_l1_p {things u g d : Int} (hu : 0 ≤ u ∧ u ≤ 100) : ∀ (n k : Nat) (b2 b3 : Int) (W : List Int), u < n + k → (k : Int) ≤ u → Bell b b2 → W.length = k → (∀ x ∈ W, 1 ≤ x ∧ x ≤ 9) →
    Ok (made_l1 N n things u k b b2 b3 g d W) fun z => z.1 = things ∧ BelR b z.2.1 z.2.2.1 ∧ z.2.2.2.2.1 = g ∧ z.2.2.2.2.2.1 = d ∧ (z.2.2.2.2.2.2.length : Int) = u ∧ ∀ x ∈ z.2.2.2.2.2.2, 1 ≤ x ∧ x ≤ 9
  | 0, k, b2, b3, W, h, _, _, _, _ => by omega
  | n + 1, k, b2, b3, W, h, hk, hb, hW, hw => by
    unfold made_l1
    refine Ok.brd (fun c => ?_) (fun c => Ok.some ⟨rfl, ⟨rfl, hb⟩, rfl, rfl, by dsimp only; omega, hw⟩)
    refine Ok.bind (strike_ok N hb (by omega)) ?_
    rintro ⟨x, c1, c2, c3⟩ ⟨hx, hc, hb1⟩
    dsimp only at hx hc hb1 ⊢
    obtain rfl := hc.symm
    refine Ok.lim (by simp; omega) (Ok.chk (by omega) ?_)
    have := made_l1_p (things := things) (g := g) (d := d) hu n (k + 1) c2 c3 (W ++ [x]) (by omega) (by omega) hb1 (by simp [hW]) (fun w hm => by
      rcases List.mem_append.1 hm with hm | hm
      · exact hw w hm
      · simp at hm; subst hm; omega)
    rw [nat_succ] at this
    exact this
theorem made_l3_p {many often u u2 u3 g d : Int} {d2 : List Int} {d3 : List (List Int)} {d4 : List Int} (ho : 2 ≤ often ∧ often ≤ 5) (hu : 0 ≤ u3 ∧ u3 ≤ 100) : ∀ (n k : Nat) (b2 b3 : Int) (l : List Int), u3 < n + k → (k : Int) ≤ u3 → Bell b b2 → l.length = k → (∀ x ∈ l, -1 ≤ x ∧ x ≤ 2) →
    Ok (made_l3 N n many often u u2 u3 k b b2 b3 g d l d2 d3 d4) fun z => ∃ b2' b3' l', z = (many, often, u, u2, b, b2', b3', g, d, l', d2, d3, d4) ∧ Bell b b2' ∧ (l'.length : Int) = u3 ∧ ∀ x ∈ l', -1 ≤ x ∧ x ≤ 2
  | 0, k, b2, b3, l, h, _, _, _, _ => by omega
  | n + 1, k, b2, b3, l, h, hk, hb, hW, hw => by
    unfold made_l3
    refine Ok.brd (fun c => ?_) (fun c => Ok.some ⟨b2, b3, l, rfl, hb, by omega, hw⟩)
    refine Ok.bind (made1_ok (by omega) hb) ?_
    rintro ⟨x, c1, c2, c3⟩ ⟨hx, hc, hb1⟩
    dsimp only at hx hc hb1 ⊢
    obtain rfl := hc.symm
    refine Ok.lim (by simp; omega) (Ok.chk (by omega) ?_)
    have := made_l3_p (many := many) (often := often) (u := u) (u2 := u2) (g := g) (d := d) (d2 := d2) (d3 := d3) (d4 := d4) ho hu n (k + 1) c2 c3 (l ++ [x]) (by omega) (by omega) hb1 (by simp [hW]) (fun w hm => by
      rcases List.mem_append.1 hm with hm | hm
      · exact hw w hm
      · simp at hm; subst hm; omega)
    rw [nat_succ] at this
    exact this
theorem made_l5_p {often u u2 u3 g d : Int} {d2 : List Int} {d3 d4 : List (List Int)} {d5 : List Int} (ho : 2 ≤ often ∧ often ≤ 5) (hu : 0 ≤ u3 ∧ u3 ≤ 100) : ∀ (n k : Nat) (b2 b3 : Int) (l : List Int), u3 < n + k → (k : Int) ≤ u3 → Bell b b2 → l.length = k → (∀ x ∈ l, -1 ≤ x ∧ x ≤ 2) →
    Ok (made_l5 N n often u u2 u3 k b b2 b3 g d l d2 d3 d4 d5) fun z => ∃ b2' b3' l', z = (often, u, u2, b, b2', b3', g, d, l', d2, d3, d4, d5) ∧ Bell b b2' ∧ (l'.length : Int) = u3 ∧ ∀ x ∈ l', -1 ≤ x ∧ x ≤ 2
  | 0, k, b2, b3, l, h, _, _, _, _ => by omega
  | n + 1, k, b2, b3, l, h, hk, hb, hW, hw => by
    unfold made_l5
    refine Ok.brd (fun c => ?_) (fun c => Ok.some ⟨b2, b3, l, rfl, hb, by omega, hw⟩)
    refine Ok.bind (made1_ok (by omega) hb) ?_
    rintro ⟨x, c1, c2, c3⟩ ⟨hx, hc, hb1⟩
    dsimp only at hx hc hb1 ⊢
    obtain rfl := hc.symm
    refine Ok.lim (by simp; omega) (Ok.chk (by omega) ?_)
    have := made_l5_p (often := often) (u := u) (u2 := u2) (g := g) (d := d) (d2 := d2) (d3 := d3) (d4 := d4) (d5 := d5) ho hu n (k + 1) c2 c3 (l ++ [x]) (by omega) (by omega) hb1 (by simp [hW]) (fun w hm => by
      rcases List.mem_append.1 hm with hm | hm
      · exact hw w hm
      · simp at hm; subst hm; omega)
    rw [nat_succ] at this
    exact this
/-- Descriptions of so many traits. -/
def okRow (m : Nat) (r : List Int) : Prop := r.length = m ∧ ∀ x ∈ r, -1 ≤ x ∧ x ≤ 2
theorem made_l2_p (hN : 110 ≤ N) {many often u g d : Int} {W : List Int} (hW : W.length ≤ 5) (ho : 2 ≤ often ∧ often ≤ 5) (hu : 0 ≤ u ∧ u ≤ 6) : ∀ (n k : Nat) (b2 b3 : Int) (L : List (List Int)) (R : List Int), u < n + k → (k : Int) ≤ u → Bell b b2 → L.length = k → R.length = k → (∀ r ∈ L, okRow W.length r) → (∀ x ∈ R, 0 ≤ x ∧ x ≤ 99) →
    Ok (made_l2 N n many often u k b b2 b3 g d W L R) fun z => ∃ b2' b3' L' R', z = (many, often, b, b2', b3', g, d, W, L', R') ∧ Bell b b2' ∧ ((L'.length : Int) = u ∧ R'.length = L'.length) ∧ (∀ r ∈ L', okRow W.length r) ∧ ∀ x ∈ R', 0 ≤ x ∧ x ≤ 99
  | 0, k, b2, b3, L, R, h, _, _, _, _, _, _ => by omega
  | n + 1, k, b2, b3, L, R, h, hk, hb, hL, hR, hl, hr => by
    unfold made_l2
    refine Ok.brd (fun c => ?_) (fun c => Ok.some ⟨b2, b3, L, R, rfl, hb, ⟨by omega, by omega⟩, hl, hr⟩)
    have e := made_l3_p (N := N) (many := many) (often := often) (u := u) (u2 := (k : Int)) (u3 := W.length) (g := g) (d := d) (d2 := W) (d3 := L) (d4 := R) ho (by omega) N 0 b2 b3 [] (by omega) (by omega) hb rfl (fun x h => by cases h)
    rw [show ((0 : Nat) : Int) = 0 from rfl] at e
    refine Ok.bind e ?_
    rintro _ ⟨b2', b3', l', rfl, hb1, hl1, hl2⟩
    dsimp only
    refine Ok.lim (by simp; omega) (Ok.bind (stroke_ok N hb1 (by omega)) ?_)
    rintro ⟨y, d1, d2, d3⟩ ⟨hy, hc, hb2⟩
    dsimp only at hy hc hb2 ⊢
    obtain rfl := hc.symm
    refine Ok.lim (by simp; omega) (Ok.chk (by omega) ?_)
    have := made_l2_p hN (many := many) (g := g) (d := d) hW ho hu n (k + 1) d2 d3 (L ++ [l']) (R ++ [y]) (by omega) (by omega) hb2 (by simp [hL]) (by simp [hR]) (fun r hm => by
      rcases List.mem_append.1 hm with hm | hm
      · exact hl r hm
      · simp at hm; subst hm; exact ⟨by omega, hl2⟩) (fun x hm => by
      rcases List.mem_append.1 hm with hm | hm
      · exact hr x hm
      · simp at hm; subst hm; omega)
    rw [nat_succ] at this
    exact this
theorem made_l4_p (hN : 110 ≤ N) {often u g d : Int} {W R : List Int} {L : List (List Int)} (hW : W.length ≤ 5) (ho : 2 ≤ often ∧ often ≤ 5) (hu : 0 ≤ u ∧ u ≤ 6) : ∀ (n k : Nat) (b2 b3 : Int) (F : List (List Int)), u < n + k → (k : Int) ≤ u → Bell b b2 → F.length = k → (∀ r ∈ F, okRow W.length r) →
    Ok (made_l4 N n often u k b b2 b3 g d W L F R) fun z => ∃ b2' b3' F', z = (b, b2', b3', g, d, W, L, F', R) ∧ Bell b b2' ∧ (F'.length : Int) = u ∧ ∀ r ∈ F', okRow W.length r
  | 0, k, b2, b3, F, h, _, _, _, _ => by omega
  | n + 1, k, b2, b3, F, h, hk, hb, hL, hl => by
    unfold made_l4
    refine Ok.brd (fun c => ?_) (fun c => Ok.some ⟨b2, b3, F, rfl, hb, by omega, hl⟩)
    have e := made_l5_p (N := N) (often := often) (u := u) (u2 := (k : Int)) (u3 := W.length) (g := g) (d := d) (d2 := W) (d3 := L) (d4 := F) (d5 := R) ho (by omega) N 0 b2 b3 [] (by omega) (by omega) hb rfl (fun x h => by cases h)
    rw [show ((0 : Nat) : Int) = 0 from rfl] at e
    refine Ok.bind e ?_
    rintro _ ⟨b2', b3', l', rfl, hb1, hl1, hl2⟩
    dsimp only
    refine Ok.lim (by simp; omega) (Ok.chk (by omega) ?_)
    have := made_l4_p hN (g := g) (d := d) (L := L) (R := R) hW ho hu n (k + 1) b2' b3' (F ++ [l']) (by omega) (by omega) hb1 (by simp [hL]) (fun r hm => by
      rcases List.mem_append.1 hm with hm | hm
      · exact hl r hm
      · simp at hm; subst hm; exact ⟨by omega, hl2⟩)
    rw [nat_succ] at this
    exact this
theorem made_v (hN : 110 ≤ N) {things b2 b3 : Int} (ht : 0 ≤ things ∧ things ≤ 6) (hb : Bell b b2) :
    Ok (made_S N things b b2 b3) fun z => Fine z.1 z.2.1 z.2.2.1 z.2.2.2.1 z.2.2.2.2.1 ∧ ((z.2.2.1.length : Int) ≤ things ∧ (z.2.2.2.1.length : Int) ≤ things) ∧ ((∀ r ∈ z.2.2.1, ∀ x ∈ r, x ≤ 2) ∧ ∀ r ∈ z.2.2.2.1, ∀ x ∈ r, x ≤ 2) ∧ z.2.1 ≤ 2 ∧ BelR b z.2.2.2.2.2.1 z.2.2.2.2.2.2.1 := by
  unfold made_S
  refine Ok.bind (stroke_ok N hb (by omega)) ?_
  rintro ⟨x, c1, c2, c3⟩ ⟨hx, hc, hb1⟩
  dsimp only at hx hc hb1 ⊢
  obtain rfl := hc.symm
  refine Ok.bind (strike_ok N hb1 (by omega)) ?_
  rintro ⟨m, d1, d2, d3⟩ ⟨hm, hc, hb2⟩
  dsimp only at hm hc hb2 ⊢
  obtain rfl := hc.symm
  have e1 := made_l1_p (N := N) (things := things) (g := 0) (d := x) (u := m) (by omega) N 0 d2 d3 [] (by omega) (by omega) hb2 rfl (fun w h => by cases h)
  rw [show ((0 : Nat) : Int) = 0 from rfl] at e1
  refine Ok.bind e1 ?_
  rintro ⟨t', f1, f2, f3, g', x', W⟩ ⟨q1, ⟨q2, hb3⟩, q3, q4, hl, hW⟩
  dsimp only at q1 q2 q3 q4 hb3 hl hW ⊢
  obtain rfl := q1.symm
  obtain rfl := q2.symm
  obtain rfl := q3.symm
  obtain rfl := q4.symm
  refine Ok.bind (stroke_ok N hb3 (by omega)) ?_
  rintro ⟨many, h1, h2, h3⟩ ⟨hmany, hc, hb4⟩
  dsimp only at hmany hc hb4 ⊢
  obtain rfl := hc.symm
  refine Ok.bind (strike_ok N hb4 (by omega)) ?_
  rintro ⟨often, i1, i2, i3⟩ ⟨hoften, hc, hb5⟩
  dsimp only at hoften hc hb5 ⊢
  obtain rfl := hc.symm
  refine Ok.bind (stroke_ok N hb5 (by omega)) ?_
  rintro ⟨u, j1, j2, j3⟩ ⟨hu, hc, hb6⟩
  dsimp only at hu hc hb6 ⊢
  obtain rfl := hc.symm
  have e2 := made_l2_p hN (many := many) (often := often) (u := u) (g := 0) (d := x) (W := W) (by omega) (by omega) (by omega) N 0 j2 j3 [] [] (by omega) (by omega) hb6 rfl rfl (fun x h => by cases h) (fun x h => by cases h)
  rw [show ((0 : Nat) : Int) = 0 from rfl] at e2
  refine Ok.bind e2 ?_
  rintro _ ⟨k2, k3, L, R, rfl, hb7, ⟨hL, hR⟩, hl2, hr2⟩
  dsimp only
  have e3 := made_l4_p hN (often := often) (u := many) (g := 0) (d := x) (W := W) (L := L) (R := R) (by omega) (by omega) (by omega) N 0 k2 k3 [] (by omega) (by omega) hb7 rfl (fun x h => by cases h)
  rw [show ((0 : Nat) : Int) = 0 from rfl] at e3
  refine Ok.bind e3 ?_
  rintro _ ⟨l2, l3, F, rfl, hb8, hF, hf2⟩
  dsimp only
  exact Ok.some ⟨⟨by dsimp only; omega, by dsimp only; omega, by dsimp only; omega, by dsimp only; omega, fun r hr => (hl2 r hr).1, fun r hr => (hf2 r hr).1, hR, hW, by dsimp only; omega, hr2, fun r hr x hx => by have := (hl2 r hr).2 x hx; omega, fun r hr x hx => by have := (hf2 r hr).2 x hx; omega⟩, ⟨by dsimp only; omega, by dsimp only; omega⟩, ⟨fun r hr x hx => ((hl2 r hr).2 x hx).2, fun r hr x hx => ((hf2 r hr).2 x hx).2⟩, by dsimp only; omega, rfl, hb8⟩
end
end Go.Proofs.Ytgeijboidfadaaa.Fd
namespace Go.Proofs.Ytgeijboidfadaaa.Fd
set_option linter.all false
open Go

section
variable {W : List Int} {s : Int} {L F : List (List Int)} {R : List Int} {N : Nat}
end
end Go.Proofs.Ytgeijboidfadaaa.Fd
namespace Go.Proofs.Ytgeijboidfadaaa.Fd
set_option linter.all false
open Go

structure PermL (u : Nat) (p : List Int) (τ : Nat → Nat) : Prop where
  len : p.length = u
  bd : ∀ i, i < u → ∃ q : Nat, p.getD i 0 = q ∧ q < u ∧ τ q = i
  inv : ∀ x, x < u → τ x < u ∧ p.getD (τ x) 0 = x
/-- Two ways to and fro. -/
structure TwoW (n : Nat) (a b : Nat → Nat) : Prop where
  la : ∀ x, x < n → a x < n ∧ b (a x) = x
  lb : ∀ x, x < n → b x < n ∧ a (b x) = x
theorem TwoW.symm {n : Nat} {a b : Nat → Nat} (h : TwoW n a b) : TwoW n b a := ⟨h.lb, h.la⟩
theorem perm_sum {l l' : List Int} (h : l.Perm l') : l.sum = l'.sum := by
  induction h with
  | nil => rfl
  | cons x _ ih => simp [ih]
  | swap x y l => simp only [List.sum_cons]; omega
  | trans _ _ h1 h2 => exact h1.trans h2
theorem TwoW.perm {n : Nat} {a b : Nat → Nat} (h : TwoW n a b) : ((List.range n).map a).Perm (List.range n) := by
  refine (List.perm_ext_iff_of_nodup ?_ List.nodup_range).2 fun x => ?_
  · unfold List.Nodup
    rw [List.pairwise_map]
    refine List.Pairwise.imp_of_mem ?_ List.nodup_range
    intro x y hx hy hxy e
    rw [List.mem_range] at hx hy
    exact hxy (by rw [← (h.la x hx).2, e, (h.la y hy).2])
  · rw [List.mem_map]
    constructor
    · rintro ⟨y, hy, rfl⟩
      exact List.mem_range.2 (h.la y (List.mem_range.1 hy)).1
    · intro hx
      have hx' := List.mem_range.1 hx
      exact ⟨b x, List.mem_range.2 (h.lb x hx').1, (h.lb x hx').2⟩
theorem TwoW.sum {n : Nat} {a b : Nat → Nat} (h : TwoW n a b) (f : Nat → Int) : sumN (fun x => f (a x)) n = sumN f n := by
  rw [← mapR_sum, ← mapR_sum]
  have := perm_sum (h.perm.map f)
  rw [List.map_map] at this
  exact this
def mvI (b2 : Nat → Nat) (v : Int) : Int := if v = -1 then -1 else (b2 v.toNat : Nat)
def rnJ (n : Nat) (a1 b2 : Nat → Nat) (l : List Int) : List Int := (List.range n).map fun x => mvI b2 (fnJ l (a1 x))
section
variable {n m : Nat} {a1 b1 a2 b2 : Nat → Nat} {can can' : Nat → Nat → Bool} {t t' : Nat → Nat → Int}
theorem rn_val (h1 : TwoW n a1 b1) (h2 : TwoW m a2 b2) (ht : ∀ i k, i < n → k < m → t' i k = t (a1 i) (a2 k)) {l : List Int} (hl : l ∈ joinsL can m n 0 0) : valJ t' 0 (rnJ n a1 b2 l) = valJ t 0 l := by
  obtain ⟨l1, l2, _⟩ := mem_joins.1 hl
  rw [val_joins (n := n) (by simp [rnJ]), val_joins l1]
  unfold wt
  rw [← h1.sum (fun i => pv t i (fnJ l i))]
  refine sumN_congr fun i hi => ?_
  rw [show fnJ (rnJ n a1 b2 l) i = mvI b2 (fnJ l (a1 i)) from fn_map hi]
  rcases l2.ok (a1 i) (h1.la i hi).1 with h | ⟨k, x, y, _⟩
  · rw [h]; simp [mvI, pv]
  · unfold mvI
    rw [if_neg (by omega), x, Int.toNat_natCast, pv_some, pv_some, ht i _ hi (h2.lb k y).1, (h2.lb k y).2]
end
end Go.Proofs.Ytgeijboidfadaaa.Fd
namespace Go.Proofs.Ytgeijboidfadaaa.Fd
set_option linter.all false
open Go

/-- The same desk, but for the order of its things. -/
structure OrdD (L F : List (List Int)) (R : List Int) (Lo Fo : List (List Int)) (Ro : List Int) (a1 b1 a2 b2 : Nat → Nat) : Prop where
  ll : Lo.length = L.length
  fl : Fo.length = F.length
  w1 : TwoW L.length a1 b1
  w2 : TwoW F.length a2 b2
  gl : ∀ x, x < L.length → Lo.getD x [] = L.getD (a1 x) []
  gr : ∀ x, x < L.length → Ro.getD x 0 = R.getD (a1 x) 0
  gf : ∀ x, x < F.length → Fo.getD x [] = F.getD (a2 x) []
section
variable {W : List Int} {s : Int} {L F Lo Fo : List (List Int)} {R Ro : List Int} {a1 b1 a2 b2 : Nat → Nat} {N : Nat}
theorem OrdD.symm (h : OrdD L F R Lo Fo Ro a1 b1 a2 b2) : OrdD Lo Fo Ro L F R b1 a1 b2 a2 :=
  ⟨h.ll.symm, h.fl.symm, by rw [h.ll]; exact h.w1.symm, by rw [h.fl]; exact h.w2.symm,
   fun x hx => by rw [h.ll] at hx; rw [h.gl _ (h.w1.lb x hx).1, (h.w1.lb x hx).2], fun x hx => by rw [h.ll] at hx; rw [h.gr _ (h.w1.lb x hx).1, (h.w1.lb x hx).2],
   fun x hx => by rw [h.fl] at hx; rw [h.gf _ (h.w2.lb x hx).1, (h.w2.lb x hx).2]⟩
theorem OrdD.ag (h : OrdD L F R Lo Fo Ro a1 b1 a2 b2) {i k : Nat} (hi : i < L.length) (hk : k < F.length) : agF W Lo Fo i k = agF W L F (a1 i) (a2 k) := by
  unfold agF
  rw [if_pos ⟨by rw [h.ll]; exact hi, by rw [h.fl]; exact hk⟩, if_pos ⟨(h.w1.la i hi).1, (h.w2.la k hk).1⟩, h.gl i hi, h.gf k hk]
theorem OrdD.sl (h : OrdD L F R Lo Fo Ro a1 b1 a2 b2) {i k : Nat} (hi : i < L.length) (hk : k < F.length) : slF W Lo Fo i k = slF W L F (a1 i) (a2 k) := by
  unfold slF
  rw [if_pos ⟨by rw [h.ll]; exact hi, by rw [h.fl]; exact hk⟩, if_pos ⟨(h.w1.la i hi).1, (h.w2.la k hk).1⟩, h.gl i hi, h.gf k hk]
theorem OrdD.can (h : OrdD L F R Lo Fo Ro a1 b1 a2 b2) {i k : Nat} (hi : i < L.length) (hk : k < F.length) : canF W s Lo Fo i k = canF W s L F (a1 i) (a2 k) := by
  unfold canF canT
  rw [h.ag hi hk, h.sl hi hk]
theorem OrdD.val (h : OrdD L F R Lo Fo Ro a1 b1 a2 b2) {l : List Int} (hl : l ∈ joinsL (canF W s L F) F.length L.length 0 0) : valJ (agF W Lo Fo) 0 (rnJ L.length a1 b2 l) = valJ (agF W L F) 0 l := rn_val h.w1 h.w2 (fun i k hi hk => h.ag hi hk) hl
theorem PermL.two {u : Nat} {p : List Int} {τ : Nat → Nat} (h : PermL u p τ) : TwoW u τ (fun i => (p.getD i 0).toNat) := by
  refine ⟨fun x hx => ⟨(h.inv x hx).1, by rw [(h.inv x hx).2, Int.toNat_natCast]⟩, fun x hx => ?_⟩
  obtain ⟨q, e, h1, h2⟩ := h.bd x hx
  rw [e, Int.toNat_natCast]
  exact ⟨h1, h2⟩
end
end Go.Proofs.Ytgeijboidfadaaa.Fd

namespace Go.Proofs.Ytgeijboidfadaaa.Fe
set_option linter.all false
open Go

abbrev FRd := Int × (Int × List Int)
abbrev FDk := Int × (Int × (Int × (Int × (List FRd × List Int))))
/-- Who may cry a round: the one, the other, or both. -/
def May3 (l : List Int) : Prop := l = [0] ∨ l = [1] ∨ l = [0, 1]
structure Good (w st fi : Int) (rs : List FRd) : Prop where
  w : 0 ≤ w ∧ w ≤ 4
  st : 0 ≤ st ∧ st ≤ 6
  fi : 0 ≤ fi ∧ fi ≤ 3
  n : rs.length ≤ 7
  r : ∀ r ∈ rs, (1 ≤ r.1 ∧ r.1 ≤ 9) ∧ (1 ≤ r.2.1 ∧ r.2.1 ≤ 5) ∧ May3 r.2.2
theorem nat_succ (k : Nat) : ((k + 1 : Nat) : Int) = (k : Int) + 1 := by omega
section
variable {N : Nat} {w st fi : Int} {rs : List FRd}
theorem in_v (N : Nat) (n lo hi : Int) : in__S N n lo hi = some (decide (lo ≤ n ∧ n ≤ hi)) := by
  unfold in__S br
  by_cases h : lo ≤ n <;> simp [h]
theorem getR (h : Good w st fi rs) {k : Nat} (hk : k < rs.length) : (1 ≤ (rs.getD k (0, 0, [])).1 ∧ (rs.getD k (0, 0, [])).1 ≤ 9) ∧ (1 ≤ (rs.getD k (0, 0, [])).2.1 ∧ (rs.getD k (0, 0, [])).2.1 ≤ 5) ∧ May3 (rs.getD k (0, 0, [])).2.2 := h.r _ (getD_mem hk)
theorem gets {α : Type} {l : List α} {k : Nat} (h : k < l.length) (d : α) : l[((k : Nat) : Int).toNat]? = some (l.getD k d) := by simp [List.getD, h]
theorem getD_el {α : Type} {l : List α} {j : Nat} (h : j < l.length) (d : α) : l.getD j d = l[j] := by simp [List.getD, h]
theorem ixfr_l1_p (h : Good w st fi rs) : ∀ (n k : Nat), rs.length < n + k → k ≤ rs.length → ixfr_l1 N n rs (rs.length : Int) k = some (.inr ())
  | 0, k, hn, _ => by omega
  | n + 1, k, hn, hk => by
    have h7 := h.n
    rw [ixfr_l1]
    by_cases c : k < rs.length
    rotate_left
    · rw [br_ndec (by omega)]
    have ih := ixfr_l1_p h n (k + 1) (by omega) (by omega)
    rw [nat_succ] at ih
    obtain ⟨h1, h2, h3⟩ := getR h c
    have e : every1r_S N (rs.getD k (0, 0, [])).1 (rs.getD k (0, 0, [])).2.1 (rs.getD k (0, 0, [])).2.2 = some false := by
      unfold every1r_S check1_S
      rw [in_v, in_v]
      simp only [Option.bind_some]
      rw [br_dec h1, decide_eq_true h2]; rfl
    rw [br_dec (by omega), idx_eq (by omega) (gets c (0, 0, [])), e]
    simp only [Option.bind_some]
    rw [br_false, chk_eq (by omega), ih]
theorem everyr_v (h : Good w st fi rs) (hN : 100 ≤ N) : everyr_S N rs = some true := by
  have h7 := h.n
  have e := ixfr_l1_p (N := N) h N 0 (by omega) (by omega)
  rw [show ((0 : Nat) : Int) = 0 from rfl] at e
  unfold everyr_S cofr_S ixfr_S
  rw [e]; rfl
theorem May3.len {l : List Int} (h : May3 l) : 1 ≤ l.length ∧ l.length ≤ 2 := by
  rcases h with rfl | rfl | rfl <;> simp
theorem May3.in_ {l : List Int} (h : May3 l) : ∀ x ∈ l, x = 0 ∨ x = 1 := by
  rcases h with rfl | rfl | rfl <;> simp
theorem ixfc_l1_p {l : List Int} (hl : May3 l) {b5 : List FRd} : ∀ (n k : Nat), l.length < n + k → k ≤ l.length → ixfc_l1 N n l (l.length : Int) k 2 w st fi b5 = some (.inr (2, w, st, fi, b5))
  | 0, k, hn, _ => by omega
  | n + 1, k, hn, hk => by
    have h2 := hl.len
    rw [ixfc_l1]
    by_cases c : k < l.length
    rotate_left
    · rw [br_ndec (by omega)]
    have ih := ixfc_l1_p hl (b5 := b5) n (k + 1) (by omega) (by omega)
    rw [nat_succ] at ih
    have hx := hl.in_ _ (getD_mem (l := l) (d := 0) c)
    have e : every1c_S N (l.getD k 0) 2 w st fi b5 = some (false, 2, w, st, fi, b5) := by
      unfold every1c_S crier_S
      rw [chk_eq (by omega), in_v]
      simp only [Option.bind_some]
      rw [decide_eq_true (by omega)]; rfl
    rw [br_dec (by omega), idx_eq (by omega) (gets c 0), e]
    simp only [Option.bind_some]
    rw [br_false, chk_eq (by omega), ih]
theorem everyc_v {l : List Int} (hl : May3 l) {b5 : List FRd} (hN : 100 ≤ N) : everyc_S N l 2 w st fi b5 = some true := by
  have h2 := hl.len
  have e := ixfc_l1_p (N := N) (w := w) (st := st) (fi := fi) hl (b5 := b5) N 0 (by omega) (by omega)
  rw [show ((0 : Nat) : Int) = 0 from rfl] at e
  unfold everyc_S cofc_S ixfc_S
  rw [e]; rfl
theorem check_l2_p (hN : 100 ≤ N) {l : List Int} (hl : May3 l) {u b5 : List FRd} {u2 u3 b b2 b3 b4 r r2 : Int} : check_l2 N N u u2 u3 ((l.drop 1).length : Int) 0 b b2 b3 b4 b5 r r2 l = some (.inr (u, u2, u3, b, b2, b3, b4, b5)) := by
  obtain ⟨n, rfl⟩ : ∃ n, N = n + 2 := ⟨N - 2, by omega⟩
  rcases hl with rfl | rfl | rfl
  · rw [check_l2]; rfl
  · rw [check_l2]; rfl
  · rw [check_l2, br_dec (by decide), idx_eq (a := 0) (by omega) rfl, chk_eq (by omega), idx_eq (a := 1) (by omega) rfl, br_ndec (by omega), chk_eq (by omega), check_l2]; rfl
theorem check_l1_p (h : Good w st fi rs) (hN : 100 ≤ N) : ∀ (n k : Nat), rs.length < n + k → k ≤ rs.length → check_l1 N n rs (rs.length : Int) k 2 w st fi rs = some (.inr (.inr (.inr ())))
  | 0, k, hn, _ => by omega
  | n + 1, k, hn, hk => by
    have h7 := h.n
    rw [check_l1]
    by_cases c : k < rs.length
    rotate_left
    · rw [br_ndec (by omega)]
    have ih := check_l1_p h hN n (k + 1) (by omega) (by omega)
    rw [nat_succ] at ih
    obtain ⟨h1, h2, h3⟩ := getR h c
    have h4 := h3.len
    rw [br_dec (by omega), idx_eq (by omega) (gets c (0, 0, [])), br_ndec (by omega), everyc_v h3 hN]
    simp only [Option.bind_some, Bool.not_true]
    rw [br_false, grd_eq (by rw [decide_eq_true_eq]; omega), check_l2_p hN h3]
    simp only [Option.bind_some]
    rw [chk_eq (by omega), ih]
theorem check_v (h : Good w st fi rs) (hN : 100 ≤ N) : check_S N 2 w st fi rs = some 0 := by
  have h7 := h.n; have h1 := h.w; have h2 := h.st; have h3 := h.fi
  have e := check_l1_p (N := N) h hN N 0 (by omega) (by omega)
  rw [show ((0 : Nat) : Int) = 0 from rfl] at e
  unfold check_S
  rw [in_v, in_v, in_v, in_v, everyr_v h hN, e]
  have d1 : decide ((1 : Int) ≤ 2 ∧ (2 : Int) ≤ 4) = true := by decide
  have d2 : decide ((0 : Int) ≤ w ∧ w ≤ 20) = true := decide_eq_true (by omega)
  have d3 : decide ((0 : Int) ≤ st ∧ st ≤ 20) = true := decide_eq_true (by omega)
  have d4 : decide ((0 : Int) ≤ fi ∧ fi ≤ 20) = true := decide_eq_true (by omega)
  simp only [Option.bind_some, d1, d2, d3, d4, Bool.not_true, br_false]
  rw [br_ndec (by omega)]
/-- The fee of a round. -/
def feeR (w st : Int) (r : FRd) : Int := r.2.1 * (st + r.1 * w)
theorem mul_bnd {a b m n : Int} (h1 : 0 ≤ a ∧ a ≤ m) (h2 : 0 ≤ b ∧ b ≤ n) : 0 ≤ a * b ∧ a * b ≤ m * n :=
  ⟨Int.mul_nonneg h1.1 h2.1, Int.mul_le_mul h1.2 h2.2 h2.1 (by omega)⟩
theorem feeR_bnd (h : Good w st fi rs) {r : FRd} (hr : r ∈ rs) : (0 ≤ r.1 * w ∧ r.1 * w ≤ 36) ∧ 0 ≤ feeR w st r ∧ feeR w st r ≤ 210 := by
  obtain ⟨h1, h2, -⟩ := h.r r hr
  have a := mul_bnd (a := r.1) (b := w) (m := 9) (n := 4) (by omega) h.w
  have hs := h.st
  have b := mul_bnd (a := r.2.1) (b := st + r.1 * w) (m := 5) (n := 42) (by omega) (by omega)
  unfold feeR
  omega
theorem opened_l1_p (h : Good w st fi rs) : ∀ (n k : Nat), rs.length < n + k → k ≤ rs.length → opened_l1 N n rs (rs.length : Int) k 2 w st fi rs 2 w st fi rs ((rs.take k).map (feeR w st)) = some (2, w, st, fi, rs, rs.map (feeR w st))
  | 0, k, hn, _ => by omega
  | n + 1, k, hn, hk => by
    have h7 := h.n
    rw [opened_l1]
    by_cases c : k < rs.length
    rotate_left
    · rw [br_ndec (by omega), List.take_of_length_le (by omega)]
    have ih := opened_l1_p h n (k + 1) (by omega) (by omega)
    rw [nat_succ] at ih
    have hb := feeR_bnd h (getD_mem (l := rs) (d := (0, 0, [])) c)
    have hs := h.st
    have et : (rs.take (k + 1)).map (feeR w st) = (rs.take k).map (feeR w st) ++ [feeR w st (rs.getD k (0, 0, []))] := by
      rw [List.take_succ, List.getElem?_eq_getElem c, getD_el c, List.map_append]; rfl
    rw [et] at ih
    unfold feeR at hb ih ⊢
    rw [br_dec (by omega), idx_eq (by omega) (gets c (0, 0, [])), chk_eq (by omega), chk_eq (by omega), chk_eq (by omega), lim_eq (by simp; omega), chk_eq (by omega)]
    exact ih
abbrev dkF (w st fi : Int) (rs : List FRd) : FDk := (2, w, st, fi, rs, rs.map (feeR w st))
theorem opened_v (h : Good w st fi rs) (hN : 100 ≤ N) : opened_S N 2 w st fi rs = some (.inl (dkF w st fi rs, 0)) := by
  have h7 := h.n
  have e := opened_l1_p (N := N) h N 0 (by omega) (by omega)
  rw [show ((0 : Nat) : Int) = 0 from rfl, List.take_zero, List.map_nil] at e
  unfold opened_S
  rw [check_v h hN]
  simp only [Option.bind_some]
  rw [br_nd (by first | trivial | rfl), e]; rfl

/-! ### Fees so far, and how bad the least bad share is -/
/-- Fees of four criers, none greater than so many rounds make. -/
inductive OkF (m : Nat) : List Int → Prop where
  | mk {a b c d : Int} (ha : 0 ≤ a ∧ a ≤ 210 * m) (hb : 0 ≤ b ∧ b ≤ 210 * m) (hc : 0 ≤ c ∧ c ≤ 210 * m) (hd : 0 ≤ d ∧ d ≤ 210 * m) : OkF m [a, b, c, d]
def stp (F : List Int) (c v : Int) : List Int := F.set c.toNat (F.getD c.toNat 0 + v)
theorem OkF.step {m : Nat} {F : List Int} (h : OkF m F) {c v : Int} (hc : c = 0 ∨ c = 1) (hv : 0 ≤ v ∧ v ≤ 210) : OkF (m + 1) (stp F c v) := by
  obtain ⟨ha, hb, hc', hd⟩ := h
  rcases hc with rfl | rfl
  · exact .mk (by simp; omega) (by omega) (by omega) (by omega)
  · exact .mk (by omega) (by simp; omega) (by omega) (by omega)
def fstep (g : Int → Int) (best c : Int) : Int := if best < 0 ∨ g c < best then g c else best
def V : List (Int × List Int) → List Int → Int
  | [], F => max (F.getD 0 0) (F.getD 1 0)
  | q :: qs, F => q.2.foldl (fstep fun c => V qs (stp F c q.1)) (-1)
def qsF (w st : Int) (rs : List FRd) : List (Int × List Int) := rs.map fun r => (feeR w st r, r.2.2)
def OkQ (qs : List (Int × List Int)) : Prop := ∀ q ∈ qs, (0 ≤ q.1 ∧ q.1 ≤ 210) ∧ May3 q.2
theorem fold3 {g : Int → Int} {l : List Int} (hl : May3 l) (hg : ∀ c ∈ l, 0 ≤ g c) : 0 ≤ l.foldl (fstep g) (-1) ∧ ∃ c ∈ l, l.foldl (fstep g) (-1) = g c := by
  have h1 : ∀ c, fstep g (-1) c = g c := fun c => if_pos (.inl (by decide))
  rcases hl with rfl | rfl | rfl
  · have := hg 0 (by simp)
    simp only [List.foldl_cons, List.foldl_nil, h1]
    exact ⟨this, 0, by simp, rfl⟩
  · have := hg 1 (by simp)
    simp only [List.foldl_cons, List.foldl_nil, h1]
    exact ⟨this, 1, by simp, rfl⟩
  · have a := hg 0 (by simp)
    have b := hg 1 (by simp)
    simp only [List.foldl_cons, List.foldl_nil, h1]
    unfold fstep
    split
    · exact ⟨b, 1, by simp, rfl⟩
    · exact ⟨a, 0, by simp, rfl⟩
theorem V_nonneg : ∀ (qs : List (Int × List Int)), OkQ qs → ∀ (m : Nat) (F : List Int), OkF m F → 0 ≤ V qs F
  | [], _, m, F, h => by
    obtain ⟨ha, hb, hc, hd⟩ := h
    simp only [V, List.getD_cons_zero, List.getD_cons_succ]
    omega
  | q :: qs, hq, m, F, h => by
    obtain ⟨h1, h2⟩ := hq q (by simp)
    rw [V]
    exact (fold3 h2 (fun c hc => V_nonneg qs (fun x hx => hq x (List.mem_cons_of_mem _ hx)) (m + 1) _ (h.step (h2.in_ c hc) h1))).1
theorem V_some {q : Int × List Int} {qs : List (Int × List Int)} (hq : OkQ (q :: qs)) {m : Nat} {F : List Int} (h : OkF m F) : ∃ c ∈ q.2, V qs (stp F c q.1) = V (q :: qs) F := by
  obtain ⟨h1, h2⟩ := hq q (by simp)
  obtain ⟨c, hc, e⟩ := (fold3 (g := fun c => V qs (stp F c q.1)) h2 (fun c hc => V_nonneg qs (fun x hx => hq x (List.mem_cons_of_mem _ hx)) (m + 1) _ (h.step (h2.in_ c hc) h1))).2
  exact ⟨c, hc, by rw [V]; exact e.symm⟩
theorem okQ (h : Good w st fi rs) : OkQ (qsF w st rs) := fun q hq => by
  obtain ⟨r, hr, rfl⟩ := List.mem_map.1 hq
  exact ⟨(feeR_bnd h hr).2, (h.r r hr).2.2⟩
theorem qs_drop {k : Nat} (hk : k < rs.length) : (qsF w st rs).drop k = (feeR w st (rs.getD k (0, 0, [])), (rs.getD k (0, 0, [])).2.2) :: (qsF w st rs).drop (k + 1) := by
  unfold qsF
  rw [List.drop_eq_getElem_cons (by simpa using hk)]
  simp [List.getD, hk]
theorem most_v (hN : 100 ≤ N) {m : Nat} {F : List Int} (h : OkF m F) {d : FDk} (hd : d.1 = 2) : most_S N d F = some (V [] F) := by
  obtain ⟨n, rfl⟩ : ∃ n, N = n + 2 := ⟨N - 2, by omega⟩
  obtain ⟨ha, hb, hc, hd'⟩ := h
  rename_i a b c e
  unfold most_S max__S max__j1
  rw [hd, grd_eq (by decide), show ([a, b, c, e] : List Int).take (2 : Int).toNat = [a, b] from rfl, br_ndec (by simp), idx_eq (a := a) (by omega) rfl, max__l1, br_dec (by simp), idx_eq (a := b) (by omega) rfl, chk_eq (by omega), max__l1, br_ndec (by simp)]
  rfl
theorem given_v (h : Good w st fi rs) {k : Nat} (hk : k < rs.length) {m : Nat} {F : List Int} (hF : OkF m F) (hm : m ≤ 100) {c : Int} (hc : c = 0 ∨ c = 1) : given_S N (dkF w st fi rs) k F c = some ((k : Int) + 1, stp F c (feeR w st (rs.getD k (0, 0, [])))) := by
  have h7 := h.n
  have hb := (feeR_bnd h (getD_mem (l := rs) (d := (0, 0, [])) hk)).2
  have eg : (rs.map (feeR w st))[((k : Nat) : Int).toNat]? = some (feeR w st (rs.getD k (0, 0, []))) := by simp [List.getD, hk]
  obtain ⟨ha, hb', hc', hd⟩ := hF
  unfold given_S
  rcases hc with rfl | rfl
  · rw [rng_eq (by omega), get_eq (a := _) rfl, idx_eq (by omega) eg, chk_eq (by omega), rng_eq (by omega), get_eq (a := _) rfl, chk_eq (by omega)]
    rfl
  · rw [rng_eq (by omega), get_eq (a := _) rfl, idx_eq (by omega) eg, chk_eq (by omega), rng_eq (by omega), get_eq (a := _) rfl, chk_eq (by omega)]
    rfl

/-! ### What was found already -/
abbrev FKey := Int × (Int × (Int × (Int × Int)))
abbrev FMemo := List (FKey × Int)
abbrev keyT5 : Ty := .pair (.int .i64) (.pair (.int .i64) (.pair (.int .i64) (.pair (.int .i64) (.int .i64))))
def keyF (r : Int) (F : List Int) : FKey := (r, F.getD 0 (0 : Int), F.getD 1 (0 : Int), F.getD 2 (0 : Int), F.getD 3 (0 : Int))
def FMok (qs : List (Int × List Int)) (m : FMemo) : Prop := ∀ e ∈ m, ∃ (r : Nat) (F : List Int), OkF r F ∧ e = (keyF r F, V (qs.drop r) F)
theorem FMok.find {qs : List (Int × List Int)} {m : FMemo} (h : FMok qs m) {r : Nat} {F : List Int} (hF : OkF r F) {e : FKey × Int} (he : m.find? (fun y => Ty.beq keyT5 y.1 (keyF r F)) = some e) : e.2 = V (qs.drop r) F := by
  obtain ⟨r', F', hF', rfl⟩ := h e (List.mem_of_find?_eq_some he)
  have hb := List.find?_some he
  have hk : keyF r' F' = keyF r F := (beq_iff_ (y := keyT5) rfl).1 hb
  obtain ⟨-, -, -, -⟩ := hF
  obtain ⟨-, -, -, -⟩ := hF'
  simp only [keyF, List.getD_cons_zero, List.getD_cons_succ, Prod.mk.injEq] at hk
  obtain ⟨h0, rfl, rfl, rfl, rfl⟩ := hk
  have : r' = r := by omega
  subst this; rfl
theorem rest_l1_p {self : Int → List Int → FDk → FDk → FDk → FDk → FMemo → Option (Int × FDk × FDk × FMemo)} (h : Good w st fi rs) {r : Nat} (hr : r < rs.length) {F : List Int} (hF : OkF r F) {l : List Int} (hl : May3 l)
    (hself : ∀ (F' : List Int) (m : FMemo), OkF (r + 1) F' → FMok (qsF w st rs) m → ∃ m', self ((r : Int) + 1) F' (dkF w st fi rs) (dkF w st fi rs) (dkF w st fi rs) (dkF w st fi rs) m = some (V ((qsF w st rs).drop (r + 1)) F', dkF w st fi rs, dkF w st fi rs, m') ∧ FMok (qsF w st rs) m') :
    ∀ (n k : Nat) (best : Int) (m : FMemo), l.length < n + k → k ≤ l.length → FMok (qsF w st rs) m →
      ∃ m', rest_l1 N self n (dkF w st fi rs) best l (l.length : Int) k (dkF w st fi rs) (dkF w st fi rs) m r F = some ((l.drop k).foldl (fstep fun c => V ((qsF w st rs).drop (r + 1)) (stp F c (feeR w st (rs.getD r (0, 0, []))))) best, dkF w st fi rs, dkF w st fi rs, m', (r : Int), F) ∧ FMok (qsF w st rs) m'
  | 0, k, best, m, hn, _, _ => by omega
  | n + 1, k, best, m, hn, hk, hm => by
    have h2 := hl.len; have h7 := h.n
    rw [rest_l1]
    by_cases c : k < l.length
    rotate_left
    · rw [br_ndec (by omega), List.drop_of_length_le (show l.length ≤ k by omega)]
      exact ⟨m, rfl, hm⟩
    have hx := hl.in_ _ (getD_mem (l := l) (d := 0) c)
    have hb := (feeR_bnd h (getD_mem (l := rs) (d := (0, 0, [])) hr)).2
    obtain ⟨m1, e1, hm1⟩ := hself _ m (hF.step hx hb) hm
    have ih := fun best => rest_l1_p h hr hF hl hself n (k + 1) best m1 (by omega) (by omega) hm1
    rw [br_dec (by omega), idx_eq (by omega) (gets c 0), given_v h hr hF (by omega) hx]
    simp only [Option.bind_some]
    rw [e1]
    simp only [Option.bind_some]
    have ed : l.drop k = l.getD k 0 :: l.drop (k + 1) := by rw [List.drop_eq_getElem_cons c]; simp [List.getD, c]
    rw [ed, List.foldl_cons]
    have hj : ∀ best : Int, ∃ m', rest_j1 N self (rest_l1 N self n) (dkF w st fi rs) best l (l.length : Int) k (dkF w st fi rs) (dkF w st fi rs) m1 r F = some ((l.drop (k + 1)).foldl (fstep fun c => V ((qsF w st rs).drop (r + 1)) (stp F c (feeR w st (rs.getD r (0, 0, []))))) best, dkF w st fi rs, dkF w st fi rs, m', (r : Int), F) ∧ FMok (qsF w st rs) m' := fun best => by
      obtain ⟨m', e, hm'⟩ := ih best
      refine ⟨m', ?_, hm'⟩
      unfold rest_j1
      rw [chk_eq (by omega), ← nat_succ]
      exact e
    by_cases c1 : best < 0
    · rw [br_dec c1, show fstep (fun c => V ((qsF w st rs).drop (r + 1)) (stp F c (feeR w st (rs.getD r (0, 0, []))))) best (l.getD k 0) = _ from if_pos (.inl c1)]
      exact hj _
    · rw [br_ndec c1]
      by_cases c2 : V ((qsF w st rs).drop (r + 1)) (stp F (l.getD k 0) (feeR w st (rs.getD r (0, 0, [])))) < best
      · rw [br_dec c2, show fstep (fun c => V ((qsF w st rs).drop (r + 1)) (stp F c (feeR w st (rs.getD r (0, 0, []))))) best (l.getD k 0) = _ from if_pos (.inr c2)]
        exact hj _
      · rw [br_ndec c2, show fstep (fun c => V ((qsF w st rs).drop (r + 1)) (stp F c (feeR w st (rs.getD r (0, 0, []))))) best (l.getD k 0) = _ from if_neg (fun h => h.elim c1 c2)]
        exact hj _
theorem rest_R_p (hN : 100 ≤ N) (h : Good w st fi rs) : ∀ (fu r : Nat) (F : List Int) (m : FMemo), rs.length < fu + r → r ≤ rs.length → OkF r F → FMok (qsF w st rs) m →
    ∃ m', rest_R N fu r F (dkF w st fi rs) (dkF w st fi rs) (dkF w st fi rs) (dkF w st fi rs) m = some (V ((qsF w st rs).drop r) F, dkF w st fi rs, dkF w st fi rs, m') ∧ FMok (qsF w st rs) m'
  | 0, r, F, m, hn, _, _, _ => by omega
  | fu + 1, r, F, m, hn, hr, hF, hm => by
    have h7 := h.n
    show ∃ m', rest_S N (rest_R N fu) r F (dkF w st fi rs) (dkF w st fi rs) (dkF w st fi rs) (dkF w st fi rs) m = _ ∧ _
    unfold rest_S
    by_cases c : r = rs.length
    · rw [br_dec (by dsimp only; omega), most_v hN hF rfl]
      simp only [Option.bind_some]
      have : (qsF w st rs).drop r = [] := List.drop_of_length_le (by unfold qsF; simp; omega)
      rw [this]
      exact ⟨m, rfl, hm⟩
    have c' : r < rs.length := by omega
    rw [br_ndec (by dsimp only; omega)]
    have hfind : (m.find? fun (y : FKey × Int) => Ty.beq keyT5 y.1 ((r : Int), F.getD 0 (0 : Int), F.getD 1 (0 : Int), F.getD 2 (0 : Int), F.getD 3 (0 : Int))) = m.find? fun (y : FKey × Int) => Ty.beq keyT5 y.1 (keyF r F) := rfl
    cases hf : m.find? fun (y : FKey × Int) => Ty.beq keyT5 y.1 (keyF r F) with
    | some e =>
      have hv := hm.find hF hf
      rw [hfind, hf]
      simp only [Option.isSome_some, Option.map_some, Option.getD_some]
      rw [br_true, hv]
      exact ⟨m, rfl, hm⟩
    | none =>
      rw [hfind, hf]
      simp only [Option.isSome_none]
      obtain ⟨h1, h2, h3⟩ := getR h c'
      obtain ⟨m', e, hm'⟩ := rest_l1_p (N := N) h c' hF h3 (self := rest_R N fu) (fun F' m hF' hm => by
        have := rest_R_p hN h fu (r + 1) F' m (by omega) (by omega) hF' hm
        rw [nat_succ] at this
        exact this) N 0 (-1) m (by have := h3.len; omega) (by omega) hm
      rw [show ((0 : Nat) : Int) = 0 from rfl, List.drop_zero] at e
      rw [br_false, idx_eq (by omega) (gets c' (0, 0, [])), e]
      simp only [Option.bind_some]
      have ev : V ((qsF w st rs).drop r) F = (rs.getD r (0, 0, [])).2.2.foldl (fstep fun c => V ((qsF w st rs).drop (r + 1)) (stp F c (feeR w st (rs.getD r (0, 0, []))))) (-1) := by
        rw [qs_drop c', V]
      rw [← ev]
      refine ⟨_, rfl, fun x hx => ?_⟩
      rcases List.mem_cons.1 hx with rfl | hx
      · exact ⟨r, F, hF, rfl⟩
      · exact hm' x hx
theorem ixfp_l1_p (hN : 100 ≤ N) (h : Good w st fi rs) {r : Nat} (hr : r < rs.length) {F : List Int} (hF : OkF r F) {l : List Int} (hl : May3 l) {bad : Int} : ∀ (n k : Nat) (m : FMemo), l.length < n + k → k ≤ l.length → FMok (qsF w st rs) m →
    (∃ j, k ≤ j ∧ j < l.length ∧ V ((qsF w st rs).drop (r + 1)) (stp F (l.getD j 0) (feeR w st (rs.getD r (0, 0, [])))) = bad) →
    ∃ (i : Nat) (m' : FMemo), ixfp_l1 N n l (dkF w st fi rs) (l.length : Int) k (dkF w st fi rs) (dkF w st fi rs) m r F bad = some (.inl ((i : Int), dkF w st fi rs, dkF w st fi rs, m', (r : Int), F, bad)) ∧ i < l.length ∧ V ((qsF w st rs).drop (r + 1)) (stp F (l.getD i 0) (feeR w st (rs.getD r (0, 0, [])))) = bad ∧ FMok (qsF w st rs) m'
  | 0, k, m, hn, _, _, _ => by omega
  | n + 1, k, m, hn, hk, hm, ⟨j, hj1, hj2, hj3⟩ => by
    have h2 := hl.len; have h7 := h.n
    rw [ixfp_l1]
    have c : k < l.length := by omega
    have hx := hl.in_ _ (getD_mem (l := l) (d := 0) c)
    have hb := (feeR_bnd h (getD_mem (l := rs) (d := (0, 0, [])) hr)).2
    obtain ⟨m1, e1, hm1⟩ := rest_R_p hN h N (r + 1) _ m (by omega) (by omega) (hF.step hx hb) hm
    rw [nat_succ] at e1
    have ep : pred_S N (l.getD k 0) (dkF w st fi rs) (dkF w st fi rs) (dkF w st fi rs) m r F bad = some (decide (V ((qsF w st rs).drop (r + 1)) (stp F (l.getD k 0) (feeR w st (rs.getD r (0, 0, [])))) = bad), dkF w st fi rs, dkF w st fi rs, m1, (r : Int), F, bad) := by
      unfold pred_S
      rw [given_v h hr hF (by omega) hx]
      simp only [Option.bind_some]
      rw [e1]; rfl
    rw [br_dec (by omega), idx_eq (by omega) (gets c 0), ep]
    simp only [Option.bind_some]
    by_cases c1 : V ((qsF w st rs).drop (r + 1)) (stp F (l.getD k 0) (feeR w st (rs.getD r (0, 0, [])))) = bad
    · rw [br_dec c1]
      exact ⟨k, m1, rfl, c, c1, hm1⟩
    · rw [br_ndec c1, chk_eq (by omega)]
      have hjk : k + 1 ≤ j := by
        rcases Nat.lt_or_ge k j with hlt | hge
        · omega
        · have : j = k := by omega
          subst this
          exact absurd hj3 c1
      obtain ⟨i, m', e, q1, q2, q3⟩ := ixfp_l1_p hN h hr hF hl (bad := bad) n (k + 1) m1 (by omega) (by omega) hm1 ⟨j, hjk, hj2, hj3⟩
      rw [nat_succ] at e
      exact ⟨i, m', e, q1, q2, q3⟩
theorem least_l1_p (hN : 100 ≤ N) (h : Good w st fi rs) {bad : Int} : ∀ (n r : Nat) (F : List Int) (m : FMemo) (out : List Int), rs.length < n + r → r ≤ rs.length → OkF r F → FMok (qsF w st rs) m → out.length = r → (∀ x ∈ out, x = 0 ∨ x = 1) → V ((qsF w st rs).drop r) F = bad →
    ∃ share, least_l1 N n (dkF w st fi rs) (dkF w st fi rs) (dkF w st fi rs) out r F bad m = some (share, bad) ∧ share.length = rs.length ∧ ∀ x ∈ share, x = 0 ∨ x = 1
  | 0, r, F, m, out, hn, _, _, _, _, _, _ => by omega
  | n + 1, r, F, m, out, hn, hr, hF, hm, ho, ho2, hV => by
    have h7 := h.n
    rw [least_l1]
    by_cases c : r < rs.length
    rotate_left
    · rw [br_ndec (by dsimp only; omega)]
      exact ⟨out, rfl, by omega, ho2⟩
    obtain ⟨h1, h2, h3⟩ := getR h c
    have h4 := h3.len
    have hq : OkQ ((qsF w st rs).drop r) := fun q hq => okQ h q (List.mem_of_mem_drop hq)
    rw [qs_drop c] at hq
    obtain ⟨x, hx, ex⟩ := V_some hq hF
    rw [← qs_drop c, hV] at ex
    dsimp only at hx ex
    obtain ⟨j, hj, ej⟩ := List.getElem_of_mem hx
    obtain ⟨i, m', e, q1, q2, q3⟩ := ixfp_l1_p hN h c hF h3 (bad := bad) N 0 m (by omega) (by omega) hm ⟨j, by omega, hj, by rw [← ex, ← ej, getD_el hj]⟩
    rw [show ((0 : Nat) : Int) = 0 from rfl] at e
    have hi := h3.in_ _ (getD_mem (l := (rs.getD r (0, 0, [])).2.2) (d := 0) q1)
    have hb := (feeR_bnd h (getD_mem (l := rs) (d := (0, 0, [])) c)).2
    have ei : ixfp_S N (rs.getD r (0, 0, [])).2.2 (dkF w st fi rs) (dkF w st fi rs) (dkF w st fi rs) m r F bad = some ((i : Int), dkF w st fi rs, dkF w st fi rs, m', (r : Int), F, bad) := by
      unfold ixfp_S
      rw [e]; rfl
    rw [br_dec (by dsimp only; omega), idx_eq (by omega) (gets c (0, 0, [])), ei]
    simp only [Option.bind_some]
    rw [idx_eq (by omega) (gets q1 0), lim_eq (by simp; omega), given_v h c hF (by omega) hi]
    simp only [Option.bind_some]
    have ih := least_l1_p hN h (bad := bad) n (r + 1) _ m' (out ++ [(rs.getD r (0, 0, [])).2.2.getD i 0]) (by omega) (by omega) (hF.step hi hb) q3 (by simp [ho]) (fun y hy => by
      rcases List.mem_append.1 hy with hy | hy
      · exact ho2 y hy
      · simp only [List.mem_singleton] at hy
        subst hy; exact hi) q2
    rw [nat_succ] at ih
    exact ih
theorem best_v (hN : 100 ≤ N) (h : Good w st fi rs) : ∃ share n, best_S N 2 w st fi rs = some (share, n, 0) ∧ share.length = rs.length ∧ ∀ x ∈ share, x = 0 ∨ x = 1 := by
  have h7 := h.n
  have h0 : OkF 0 [0, 0, 0, 0] := .mk (by omega) (by omega) (by omega) (by omega)
  obtain ⟨m, e1, hm⟩ := rest_R_p hN h N 0 [0, 0, 0, 0] [] (by omega) (by omega) h0 (fun x hx => by cases hx)
  obtain ⟨share, e2, h1, h2⟩ := least_l1_p hN h (bad := V ((qsF w st rs).drop 0) [0, 0, 0, 0]) N 0 [0, 0, 0, 0] m [] (by omega) (by omega) h0 hm rfl (fun x hx => by cases hx) rfl
  rw [show ((0 : Nat) : Int) = 0 from rfl] at e1 e2
  refine ⟨share, V ((qsF w st rs).drop 0) [0, 0, 0, 0], ?_, h1, h2⟩
  unfold best_S
  rw [opened_v h hN]
  simp only [Option.bind_some]
  rw [br_nd (by first | trivial | rfl)]
  unfold least_S least_j1
  rw [show List.replicate 4 (0 : Int) = [0, 0, 0, 0] from rfl, e1]
  simp only [Option.bind_some]
  rw [e2]; rfl
end
end Go.Proofs.Ytgeijboidfadaaa.Fe

namespace Go.Proofs.Ytgeijboidfadaaa.Fe
set_option linter.all false
open Go

section
variable {N : Nat} {b : List Int}
theorem made_l2_p {sure u u2 u3 g g2 g3 g4 x x2 x3 x4 r r2 : Int} {x5 : List FRd} (hu : 0 ≤ u3 ∧ u3 ≤ 4) : ∀ (n k : Nat) (b2 b3 : Int) (r3 : List Int), u3 < n + k → (k : Int) ≤ u3 → Fd.Bell b b2 → r3.length ≤ k →
    Fd.Ok (made_l2 N n sure u u2 u3 k b b2 b3 g g2 g3 g4 x x2 x3 x4 r r2 x5 r3) fun z => ∃ b2' b3' r3', z = (u, u2, b, b2', b3', g, g2, g3, g4, x, x2, x3, x4, r, r2, x5, r3') ∧ Fd.Bell b b2'
  | 0, k, b2, b3, r3, hn, _, _, _ => by omega
  | n + 1, k, b2, b3, r3, hn, hk, hb, hr => by
    rw [made_l2]
    by_cases c : (k : Int) < u3
    rotate_left
    · rw [br_ndec c]
      exact Fd.Ok.some ⟨b2, b3, r3, rfl, hb⟩
    have next := fun b2 b3 r3 hb hr => made_l2_p (sure := sure) (u := u) (u2 := u2) (g := g) (g2 := g2) (g3 := g3) (g4 := g4) (x := x) (x2 := x2) (x3 := x3) (x4 := x4) (r := r) (r2 := r2) (x5 := x5) hu n (k + 1) b2 b3 r3 (by omega) (by omega) hb hr
    rw [nat_succ] at next
    rw [br_dec c]
    by_cases c1 : (k : Int) = sure
    · rw [br_dec c1, lim_eq (by simp; omega)]
      unfold made_j1
      rw [chk_eq (by omega)]
      exact next _ _ _ hb (by simp; omega)
    · rw [br_ndec c1]
      refine Fd.Ok.bind (Fd.seldom_ok N hb (by omega)) ?_
      rintro ⟨y, d, d2, d3⟩ ⟨hd, hb1⟩
      dsimp only at hd hb1 ⊢
      obtain rfl := hd.symm
      refine Fd.Ok.br (fun _ => ?_) (fun _ => ?_)
      · rw [lim_eq (by simp; omega)]
        unfold made_j1
        rw [chk_eq (by omega)]
        exact next _ _ _ hb1 (by simp; omega)
      · unfold made_j1
        rw [chk_eq (by omega)]
        exact next _ _ _ hb1 (by omega)
theorem made_l1_p (hN : 100 ≤ N) {u g g2 g3 g4 x x2 x3 x4 : Int} (hu : 0 ≤ u ∧ u ≤ 7) (hx : 1 ≤ x ∧ x ≤ 4) : ∀ (n k : Nat) (b2 b3 : Int) (rs : List FRd), u < n + k → (k : Int) ≤ u → Fd.Bell b b2 → rs.length = k → (∀ r ∈ rs, (1 ≤ r.1 ∧ r.1 ≤ 9) ∧ 1 ≤ r.2.1 ∧ r.2.1 ≤ 5) →
    Fd.Ok (made_l1 N n u k b b2 b3 g g2 g3 g4 x x2 x3 x4 rs) fun z => ∃ b2' b3' rs', z = (b, b2', b3', g, g2, g3, g4, x, x2, x3, x4, rs') ∧ (rs'.length : Int) = u ∧ ∀ r ∈ rs', (1 ≤ r.1 ∧ r.1 ≤ 9) ∧ 1 ≤ r.2.1 ∧ r.2.1 ≤ 5
  | 0, k, b2, b3, rs, hn, _, _, _, _ => by omega
  | n + 1, k, b2, b3, rs, hn, hk, hb, hr, hg => by
    rw [made_l1]
    by_cases c : (k : Int) < u
    rotate_left
    · rw [br_ndec c]
      exact Fd.Ok.some ⟨b2, b3, rs, rfl, by omega, hg⟩
    rw [br_dec c]
    refine Fd.Ok.bind (Fd.strike_ok N hb (by omega)) ?_
    rintro ⟨y, d, d2, d3⟩ ⟨hy, hd, hb1⟩
    dsimp only at hy hd hb1 ⊢
    obtain rfl := hd.symm
    refine Fd.Ok.bind (Fd.strike_ok N hb1 (by omega)) ?_
    rintro ⟨y', d', d2', d3'⟩ ⟨hy', hd', hb2⟩
    dsimp only at hy' hd' hb2 ⊢
    obtain rfl := hd'.symm
    rw [chk_eq (by omega)]
    refine Fd.Ok.bind (Fd.stroke_ok N hb2 (by omega)) ?_
    rintro ⟨sure, e, e2, e3⟩ ⟨-, he, hb3⟩
    dsimp only at he hb3 ⊢
    obtain rfl := he.symm
    have hl := made_l2_p (N := N) (b := b) (sure := sure) (u := u) (u2 := (k : Int)) (u3 := x) (g := g) (g2 := g2) (g3 := g3) (g4 := g4) (x := x) (x2 := x2) (x3 := x3) (x4 := x4) (r := y) (r2 := y') (x5 := rs) (by omega) N 0 e2 e3 [] (by omega) (by omega) hb3 (by simp)
    rw [show ((0 : Nat) : Int) = 0 from rfl] at hl
    refine Fd.Ok.bind hl ?_
    rintro _ ⟨f2, f3, r3, rfl, hb4⟩
    dsimp only
    rw [lim_eq (by simp; omega), chk_eq (by omega)]
    have := made_l1_p hN (g := g) (g2 := g2) (g3 := g3) (g4 := g4) (x2 := x2) (x3 := x3) (x4 := x4) hu hx n (k + 1) f2 f3 (rs ++ [(y, y', r3)]) (by omega) (by omega) hb4 (by simp [hr]) (fun q hq => by
      rcases List.mem_append.1 hq with hq | hq
      · exact hg q hq
      · simp only [List.mem_singleton] at hq
        subst hq
        exact ⟨hy, hy'⟩)
    rw [nat_succ] at this
    exact this
theorem made_v (hN : 100 ≤ N) {b2 b3 : Int} (hb : Fd.Bell b b2) : ∃ cr w st fi b' b2' b3' rs, made_S N 7 b b2 b3 = some (cr, w, st, fi, b', b2', b3', rs) ∧ (0 ≤ w ∧ w ≤ 4) ∧ (0 ≤ st ∧ st ≤ 6) ∧ (0 ≤ fi ∧ fi ≤ 3) ∧ rs.length ≤ 7 ∧ ∀ r ∈ rs, (1 ≤ r.1 ∧ r.1 ≤ 9) ∧ 1 ≤ r.2.1 ∧ r.2.1 ≤ 5 := by
  have key : Fd.Ok (made_S N 7 b b2 b3) fun z => (0 ≤ z.2.1 ∧ z.2.1 ≤ 4) ∧ (0 ≤ z.2.2.1 ∧ z.2.2.1 ≤ 6) ∧ (0 ≤ z.2.2.2.1 ∧ z.2.2.2.1 ≤ 3) ∧ z.2.2.2.2.2.2.2.length ≤ 7 ∧ ∀ r ∈ z.2.2.2.2.2.2.2, (1 ≤ r.1 ∧ r.1 ≤ 9) ∧ 1 ≤ r.2.1 ∧ r.2.1 ≤ 5 := by
    unfold made_S
    refine Fd.Ok.bind (Fd.strike_ok N hb (by omega)) ?_
    rintro ⟨x, c, c2, c3⟩ ⟨hx, hc, hb1⟩
    dsimp only at hx hc hb1 ⊢
    obtain rfl := hc.symm
    refine Fd.Ok.bind (Fd.stroke_ok N hb1 (by omega)) ?_
    rintro ⟨w, d, d2, d3⟩ ⟨hw, hd, hb2⟩
    dsimp only at hw hd hb2 ⊢
    obtain rfl := hd.symm
    refine Fd.Ok.bind (Fd.stroke_ok N hb2 (by omega)) ?_
    rintro ⟨st, e, e2, e3⟩ ⟨hs, he, hb3⟩
    dsimp only at hs he hb3 ⊢
    obtain rfl := he.symm
    refine Fd.Ok.bind (Fd.stroke_ok N hb3 (by omega)) ?_
    rintro ⟨fi, f, f2, f3⟩ ⟨hf, hf', hb4⟩
    dsimp only at hf hf' hb4 ⊢
    obtain rfl := hf'.symm
    refine Fd.Ok.bind (Fd.stroke_ok N hb4 (by omega)) ?_
    rintro ⟨u, g, g2, g3⟩ ⟨hu, hg, hb5⟩
    dsimp only at hu hg hb5 ⊢
    obtain rfl := hg.symm
    have hl := made_l1_p (N := N) (b := b) hN (u := u) (g := 0) (g2 := 0) (g3 := 0) (g4 := 0) (x := x) (x2 := w) (x3 := st) (x4 := fi) (by omega) (by omega) N 0 g2 g3 [] (by omega) (by omega) hb5 rfl (fun x hx => by cases hx)
    rw [show ((0 : Nat) : Int) = 0 from rfl] at hl
    refine Fd.Ok.bind hl ?_
    rintro _ ⟨i2, i3, rs, rfl, hl, hr⟩
    exact Fd.Ok.some ⟨by dsimp only; omega, by dsimp only; omega, by dsimp only; omega, by dsimp only; omega, hr⟩
  obtain ⟨⟨cr, w, st, fi, b', b2', b3', rs⟩, e, h⟩ := key
  exact ⟨cr, w, st, fi, b', b2', b3', rs, e, h⟩
end
end Go.Proofs.Ytgeijboidfadaaa.Fe
namespace Go.Proofs.Ytgeijboidfadaaa
set_option linter.all false
open Go

section
variable {N : Nat}
abbrev FRd := Fe.FRd
/-- Rounds of which the first k are cried by the one, the other, or both. -/
def RsTo (k : Nat) (cs : List FRd) : Prop := (∀ i, i < cs.length → (1 ≤ (cs.getD i (0, 0, [])).1 ∧ (cs.getD i (0, 0, [])).1 ≤ 9) ∧ 1 ≤ (cs.getD i (0, 0, [])).2.1 ∧ (cs.getD i (0, 0, [])).2.1 ≤ 5) ∧ ∀ i, i < k → i < cs.length → Fe.May3 (cs.getD i (0, 0, [])).2.2
theorem getD_setR {cs : List FRd} {k i : Nat} {x : FRd} (hk : k < cs.length) : (cs.set k x).getD i (0, 0, []) = if k = i then x else cs.getD i (0, 0, []) := by
  simp only [List.getD, List.getElem?_set]
  split
  · rename_i e
    subst e
    first | rfl | (rw [if_pos hk]; rfl)
  · rfl
theorem toverheard_l1_p {lost : List Int} {b b2 b3 b4 : Int} : ∀ (n k : Nat) (cs : List FRd), cs.length ≤ 7 → cs.length < n + k → k ≤ cs.length → RsTo k cs →
    ∃ cs', toverheard_l1 N n lost (cs.length : Int) k b b2 b3 b4 cs = some (lost, b, b2, b3, b4, cs') ∧ cs'.length = cs.length ∧ RsTo cs.length cs'
  | 0, k, cs, h7, hn, hk, hr => by omega
  | n + 1, k, cs, h7, hn, hk, hr => by
    rw [toverheard_l1]
    by_cases c : k < cs.length
    rotate_left
    · rw [br_ndec (by omega)]
      obtain rfl : k = cs.length := by omega
      exact ⟨cs, rfl, rfl, hr⟩
    obtain ⟨h1, h2⟩ := hr.1 k c
    have g : cs[((k : Nat) : Int).toNat]? = some (cs.getD k (0, 0, [])) := Fe.gets c (0, 0, [])
    generalize hq : cs.getD k (0, 0, []) = q at *
    obtain ⟨q1, q2, q3⟩ := q
    dsimp only at h1 h2
    have hm : 0 ≤ Int.tmod ((k : Int) + q1) 3 ∧ Int.tmod ((k : Int) + q1) 3 < 3 := ⟨Int.tmod_nonneg _ (by omega), Int.tmod_lt_of_pos _ (by decide)⟩
    obtain ⟨v, hv, ev⟩ : ∃ v, ([[0], [1], [0, 1]] : List (List Int))[(Int.tmod ((k : Int) + q1) 3).toNat]? = some v ∧ Fe.May3 v := by
      obtain ⟨j, hj⟩ : ∃ j : Nat, Int.tmod ((k : Int) + q1) 3 = j := ⟨_, (Int.toNat_of_nonneg hm.1).symm⟩
      rw [hj] at hm ⊢
      have : j = 0 ∨ j = 1 ∨ j = 2 := by omega
      rcases this with rfl | rfl | rfl
      · exact ⟨[0], rfl, .inl rfl⟩
      · exact ⟨[1], rfl, .inr (.inl rfl)⟩
      · exact ⟨[0, 1], rfl, .inr (.inr rfl)⟩
    rw [br_dec (by omega), rng_eq (by omega), get_eq g]
    dsimp only
    rw [chk_eq (by omega), rng_eq ⟨hm.1, by simpa using hm.2⟩, get_eq hv, rng_eq (by omega), get_eq g, chk_eq (by omega)]
    simp only [Int.toNat_natCast]
    have hlen : (cs.set k (q1, q2, v)).length = cs.length := List.length_set
    obtain ⟨cs', e, l', r'⟩ := toverheard_l1_p (lost := lost) (b := b) (b2 := b2) (b3 := b3) (b4 := b4) n (k + 1) (cs.set k (q1, q2, v)) (by omega) (by omega) (by omega) (by
      refine ⟨fun i hi => ?_, fun i hi hi' => ?_⟩
      · rw [getD_setR c]
        split
        · exact ⟨h1, h2⟩
        · exact hr.1 i (by omega)
      · rw [getD_setR c]
        split
        · exact ev
        · exact hr.2 i (by omega) (by omega))
    rw [hlen, Fe.nat_succ] at e
    rw [hlen] at l' r'
    exact ⟨cs', e, l', r'⟩

/-! ### What is heard -/
/-- Words of two texts, in the order of both, and of which text each is; up to where. -/
inductive Mz (A B : List Int) : Nat → Nat → List Int → List Int → Prop where
  | nil : Mz A B 0 0 [] []
  | a {i k x : Nat} {L W : List Int} (h : Mz A B i k L W) (h1 : i ≤ x) (h2 : x < A.length) : Mz A B (x + 1) k (L ++ [A.getD x 0]) (W ++ [1])
  | b {i k y : Nat} {L W : List Int} (h : Mz A B i k L W) (h1 : k ≤ y) (h2 : y < B.length) : Mz A B i (y + 1) (L ++ [B.getD y 0]) (W ++ [2])
/-- The same, from where on. -/
inductive Mx (A B : List Int) : Nat → Nat → List Int → List Int → Prop where
  | nil (i k : Nat) : Mx A B i k [] []
  | a {i k x : Nat} {L W : List Int} (h1 : i ≤ x) (h2 : x < A.length) (h : Mx A B (x + 1) k L W) : Mx A B i k (A.getD x 0 :: L) (1 :: W)
  | b {i k y : Nat} {L W : List Int} (h1 : k ≤ y) (h2 : y < B.length) (h : Mx A B i (y + 1) L W) : Mx A B i k (B.getD y 0 :: L) (2 :: W)
theorem Mz.to {A B : List Int} {i k : Nat} {L W : List Int} (h : Mz A B i k L W) : ∀ (L' W' : List Int), Mx A B i k L' W' → Mx A B 0 0 (L ++ L') (W ++ W') := by
  induction h with
  | nil => exact fun L' W' h => h
  | a _ h1 h2 ih => exact fun L' W' h => by simpa using ih _ _ (.a h1 h2 h)
  | b _ h1 h2 ih => exact fun L' W' h => by simpa using ih _ _ (.b h1 h2 h)
theorem getD_app {A : List Int} {x : Nat} (h : x < A.length) (r : Int) : (A ++ [r]).getD x 0 = A.getD x 0 := by
  simp [List.getD, List.getElem?_append_left h]
theorem Mz.growA {A B : List Int} {i k : Nat} {L W : List Int} (r : Int) (h : Mz A B i k L W) : Mz (A ++ [r]) B i k L W := by
  induction h with
  | nil => exact .nil
  | a _ h1 h2 ih => have := Mz.a ih h1 (by simp; omega); rwa [getD_app h2] at this
  | b _ h1 h2 ih => exact .b ih h1 h2
theorem Mz.growB {A B : List Int} {i k : Nat} {L W : List Int} (r : Int) (h : Mz A B i k L W) : Mz A (B ++ [r]) i k L W := by
  induction h with
  | nil => exact .nil
  | a _ h1 h2 ih => exact .a ih h1 h2
  | b _ h1 h2 ih => have := Mz.b ih h1 (by simp; omega); rwa [getD_app h2] at this
theorem Mz.lt {A B : List Int} {i k : Nat} {L W : List Int} (h : Mz A B i k L W) : i ≤ A.length ∧ k ≤ B.length := by
  induction h with
  | nil => omega
  | a _ _ _ ih => omega
  | b _ _ _ ih => omega
theorem Mz.endA {A B : List Int} {i k : Nat} {L W : List Int} (r : Int) (h : Mz A B i k L W) : Mz (A ++ [r]) B (A.length + 1) k (L ++ [r]) (W ++ [1]) := by
  have := Mz.a (x := A.length) (h.growA r) h.lt.1 (by simp)
  have e : (A ++ [r]).getD A.length 0 = r := by simp [List.getD]
  rwa [e] at this
theorem Mz.endB {A B : List Int} {i k : Nat} {L W : List Int} (r : Int) (h : Mz A B i k L W) : Mz A (B ++ [r]) i (B.length + 1) (L ++ [r]) (W ++ [2]) := by
  have := Mz.b (y := B.length) (h.growB r) h.lt.2 (by simp)
  have e : (B ++ [r]).getD B.length 0 = r := by simp [List.getD]
  rwa [e] at this
/-- Two texts without a word twice, or in common. -/
structure Two2 (A B : List Int) : Prop where
  a : ∀ i j, i < A.length → j < A.length → (A.getD i 0 = A.getD j 0 ↔ i = j)
  b : ∀ i j, i < B.length → j < B.length → (B.getD i 0 = B.getD j 0 ↔ i = j)
  ab : ∀ i j, i < A.length → j < B.length → A.getD i 0 ≠ B.getD j 0
theorem getD_end {A : List Int} {r : Int} {i : Nat} (hi : i < (A ++ [r]).length) : (i < A.length ∧ (A ++ [r]).getD i 0 = A.getD i 0) ∨ (i = A.length ∧ (A ++ [r]).getD i 0 = r) := by
  rw [List.length_append, List.length_singleton] at hi
  by_cases c : i < A.length
  · exact .inl ⟨c, getD_app c r⟩
  · obtain rfl : i = A.length := by omega
    exact .inr ⟨rfl, by simp [List.getD]⟩
theorem Two2.growA {A B : List Int} {r : Int} (h : Two2 A B) (ha : ∀ x ∈ A, x < r) (hb : ∀ x ∈ B, x < r) : Two2 (A ++ [r]) B := by
  have hA : ∀ i, i < A.length → A.getD i 0 < r := fun i hi => ha _ (getD_mem hi)
  have hB : ∀ i, i < B.length → B.getD i 0 < r := fun i hi => hb _ (getD_mem hi)
  refine ⟨fun i j hi hj => ?_, h.b, fun i j hi hj => ?_⟩
  · rcases getD_end hi with ⟨a1, e1⟩ | ⟨a1, e1⟩ <;> rcases getD_end hj with ⟨a2, e2⟩ | ⟨a2, e2⟩ <;> rw [e1, e2]
    · exact h.a i j a1 a2
    · have := hA i a1; omega
    · have := hA j a2; omega
    · omega
  · rcases getD_end hi with ⟨a1, e1⟩ | ⟨a1, e1⟩ <;> rw [e1]
    · exact h.ab i j a1 hj
    · have := hB j hj; omega
theorem Two2.growB {A B : List Int} {r : Int} (h : Two2 A B) (ha : ∀ x ∈ A, x < r) (hb : ∀ x ∈ B, x < r) : Two2 A (B ++ [r]) := by
  have hA : ∀ i, i < A.length → A.getD i 0 < r := fun i hi => ha _ (getD_mem hi)
  have hB : ∀ i, i < B.length → B.getD i 0 < r := fun i hi => hb _ (getD_mem hi)
  refine ⟨h.a, fun i j hi hj => ?_, fun i j hi hj => ?_⟩
  · rcases getD_end hi with ⟨a1, e1⟩ | ⟨a1, e1⟩ <;> rcases getD_end hj with ⟨a2, e2⟩ | ⟨a2, e2⟩ <;> rw [e1, e2]
    · exact h.b i j a1 a2
    · have := hB i a1; omega
    · have := hB j a2; omega
    · omega
  · rcases getD_end hj with ⟨a1, e1⟩ | ⟨a1, e1⟩ <;> rw [e1]
    · exact h.ab i j hi a1
    · have := hA i hi; omega
theorem standsL_none {l : List Int} {w : Int} {i : Nat} (h : ∀ j, i ≤ j → j < l.length → l.getD j 0 ≠ w) : standsL l w i = [] := by
  apply List.eq_nil_iff_forall_not_mem.2
  intro j hj
  obtain ⟨h1, h2, h3⟩ := mem_standsL.1 hj
  exact h j h1 h2 h3
theorem filter_one : ∀ (c i x : Nat), i ≤ x → x < i + c → (List.range' i c).filter (fun j => j == x) = [x]
  | 0, i, x, h1, h2 => by omega
  | c + 1, i, x, h1, h2 => by
    rw [List.range'_succ, List.filter_cons]
    by_cases e : i = x
    · subst e
      rw [if_pos (by simp)]
      congr 1
      rw [List.filter_eq_nil_iff]
      intro j hj
      have := List.mem_range'_1.1 hj
      simp; omega
    · rw [if_neg (by simpa using e)]
      exact filter_one c (i + 1) x (by omega) (by omega)
theorem standsL_one {l : List Int} {w : Int} {i x : Nat} (h1 : i ≤ x) (h2 : x < l.length) (h : ∀ j, i ≤ j → j < l.length → (l.getD j 0 = w ↔ j = x)) : standsL l w i = [x] := by
  unfold standsL
  rw [← filter_one (l.length - i) i x h1 (by omega)]
  apply List.filter_congr
  intro j hj
  have hj := List.mem_range'_1.1 hj
  rw [Bool.eq_iff_iff, beq_iff_eq, beq_iff_eq]
  exact h j hj.1 (by omega)
section
variable {A B : List Int}
theorem Mx.len {i k : Nat} {L W : List Int} (h : Mx A B i k L W) : W.length = L.length := by
  induction h with
  | nil => rfl
  | a _ _ _ ih => simp [ih]
  | b _ _ _ ih => simp [ih]
theorem Mx.moves (hT : Two2 A B) {i k : Nat} {w s : Int} {L W : List Int} (h : Mx A B i k (w :: L) (s :: W)) (hh : Nat) : ∃ (p : Int) (y : At3), movesL A B w (hh, i, k) = [((3, 0), (hh + 1, i, k)), ((s, p), y)] ∧ y.1 = hh + 1 ∧ s ≠ 3 ∧ Mx A B y.2.1 y.2.2 L W := by
  cases h with
  | @a _ _ x _ _ h1 h2 h =>
    have e1 : standsL A (A.getD x 0) i = [x] := standsL_one h1 h2 (fun j _ hj => hT.a j x hj h2)
    have e2 : standsL B (A.getD x 0) k = [] := standsL_none (fun j _ hj e => hT.ab x j h2 hj e.symm)
    refine ⟨(x : Int), (hh + 1, x + 1, k), ?_, rfl, by decide, h⟩
    unfold movesL
    dsimp only
    rw [e1, e2]; rfl
  | @b _ _ y _ _ h1 h2 h =>
    have e1 : standsL A (B.getD y 0) i = [] := standsL_none (fun j _ hj e => hT.ab j y hj h2 e)
    have e2 : standsL B (B.getD y 0) k = [y] := standsL_one h1 h2 (fun j _ hj => hT.b j y hj h2)
    refine ⟨(y : Int), (hh + 1, i, y + 1), ?_, rfl, by decide, h⟩
    unfold movesL
    dsimp only
    rw [e1, e2]; rfl
theorem Mx.drop {H : List Int} {h : Nat} {w : Int} {L : List Int} (e : H.drop h = w :: L) : H.getD h 0 = w ∧ H.drop (h + 1) = L := by
  constructor
  · have := congrArg List.head? e
    rw [List.head?_drop] at this
    simp only [List.head?_cons] at this
    simp [List.getD, this]
  · have := congrArg List.tail e
    rw [List.tail_drop] at this
    simpa using this
theorem Mx.tvx (hT : Two2 A B) (lA : A.length ≤ 6) (lB : B.length ≤ 6) {H : List Int} : ∀ (L W : List Int) (x : At3), Mx A B x.2.1 x.2.2 L W → H.drop x.1 = L → tvx mayA H A B L.length x = ((L.length : Int), 1) ∧ ∀ r ∈ rdx H A B L.length x, toldN r = L.length → r.map (·.1) = W
  | [], W, x, h, _ => by
    cases h
    refine ⟨rfl, fun r hr _ => ?_⟩
    simp [rdx] at hr; subst hr; rfl
  | w :: L, W, (hh, i, k), h, e => by
    obtain ⟨s, W', rfl⟩ : ∃ s W', W = s :: W' := by
      cases h
      · exact ⟨_, _, rfl⟩
      · exact ⟨_, _, rfl⟩
    obtain ⟨e1, e2⟩ := Mx.drop e
    obtain ⟨p, y, em, ey, hs, hy⟩ := Mx.moves hT h hh
    obtain ⟨t1, t2⟩ := Mx.tvx hT lA lB L W' y hy (by rw [ey]; exact e2)
    have bn := tvx_bnd mayA (H := H) lA lB L.length (hh + 1, i, k)
    have hHl : H.length = (hh + 1) + L.length := by
      have := congrArg List.length e
      rw [List.length_drop, List.length_cons] at this
      omega
    have nn := tvx_nonneg H A B (n := L.length) (h := hh + 1) (i := i) (k := k) hHl
    constructor
    · rw [List.length_cons, Proofs.Ytgeijboidfadaaa.tvx]
      dsimp only
      rw [e1, em, List.foldl_cons, List.foldl_cons, List.foldl_nil]
      have st : ∀ (t : At3 → Int × Int) (best : Int × Int) (mv : Mv), stepT mayA hh t best mv = (if best.1 < wT mv.1.1 (t mv.2).1 then (wT mv.1.1 (t mv.2).1, (t mv.2).2) else if wT mv.1.1 (t mv.2).1 = best.1 then (best.1, best.2 + (t mv.2).2) else best) := fun t best mv => by
        unfold stepT; exact if_pos rfl
      have st1 : stepT mayA hh (Proofs.Ytgeijboidfadaaa.tvx mayA H A B L.length) (-1, 0) ((3, 0), (hh + 1, i, k)) = Proofs.Ytgeijboidfadaaa.tvx mayA H A B L.length (hh + 1, i, k) := by
        rw [st]
        have hw : wT 3 (Proofs.Ytgeijboidfadaaa.tvx mayA H A B L.length (hh + 1, i, k)).1 = (Proofs.Ytgeijboidfadaaa.tvx mayA H A B L.length (hh + 1, i, k)).1 := if_neg (fun h => h.2 rfl)
        dsimp only
        rw [hw, if_pos (by omega)]
      rw [st1, st]
      dsimp only
      rw [t1]
      have hw : wT s (L.length : Int) = (L.length : Int) + 1 := if_pos ⟨by omega, hs⟩
      dsimp only
      rw [hw, if_pos (by have := bn.2.1; omega)]
      simp
    · intro r hr ht
      rw [List.length_cons, rdx] at hr
      dsimp only at hr
      rw [e1, em, List.flatMap_cons, List.flatMap_cons, List.flatMap_nil, List.append_nil] at hr
      rcases List.mem_append.1 hr with hr | hr
      · obtain ⟨r', hr', rfl⟩ := List.mem_map.1 hr
        have l' := rdx_length L.length _ r' hr'
        have b' := toldN_bnd r'
        have : toldN (((3 : Int), (0 : Int)) :: r') = 0 + toldN r' := rfl
        rw [this, List.length_cons] at ht
        omega
      · obtain ⟨r', hr', rfl⟩ := List.mem_map.1 hr
        have : toldN ((s, p) :: r') = 1 + toldN r' := by show (if s = 3 then (0 : Int) else 1) + toldN r' = _; rw [if_neg hs]
        rw [this, List.length_cons] at ht
        rw [List.map_cons, t2 r' hr' (by omega)]
theorem heard_sure (hT : Two2 A B) (lA : A.length ≤ 6) (lB : B.length ≤ 6) {H W : List Int} (h : Mx A B 0 0 H W) : (List.range H.length).map (sureV H A B) = W ∧ (bestR H A B).length = 1 ∧ (tv mayA H A B (0, 0, 0)).1 = H.length := by
  obtain ⟨t1, t2⟩ := Mx.tvx hT lA lB H W (0, 0, 0) h rfl
  have tve : tv mayA H A B (0, 0, 0) = ((H.length : Int), 1) := t1
  have hl := h.len
  have sides : ∀ r ∈ bestR H A B, r.map (·.1) = W := fun r hr => by
    obtain ⟨h1, h2⟩ := List.mem_filter.1 hr
    rw [tve] at h2
    exact t2 r h1 (by simpa using h2)
  obtain ⟨r0, hr0⟩ := bestR_ne (H := H) (A := A) (B := B)
  refine ⟨?_, ?_, by rw [tve]⟩
  · have hget : ∀ i, i < H.length → sureV H A B i = W.getD i 0 := fun i hi => by
      have hs : ∀ s, allS H A B i s = decide (W.getD i 0 = s) := fun s => by
        have key : ∀ r ∈ bestR H A B, (r.getD i (0, 0)).1 = W.getD i 0 := fun r hr => by
          rw [← sides r hr]
          have := bestR_len hr
          have hi' : i < r.length := by omega
          simp [List.getD, hi']
        unfold allS
        rw [Bool.eq_iff_iff, List.all_eq_true, decide_eq_true_eq]
        constructor
        · intro h
          have := h r0 hr0
          rw [decide_eq_true_eq, key r0 hr0] at this
          exact this
        · intro h r hr
          rw [decide_eq_true_eq, key r hr]
          exact h
      have h3 : W.getD i 0 = 1 ∨ W.getD i 0 = 2 ∨ W.getD i 0 = 3 := by
        have hb := bestR_len hr0
        have hq : r0.getD i (0, 0) ∈ r0 := getD_mem (by omega)
        have hd := rdx_side (H := H) (A := A) (B := B) H.length (0, 0, 0) r0 (List.mem_filter.1 hr0).1 _ hq
        have hi' : i < r0.length := by omega
        have e : W.getD i 0 = (r0.getD i (0, 0)).1 := by
          rw [← sides r0 hr0]
          simp [List.getD, hi']
        rw [e]; exact hd
      unfold sureV
      rw [hs 1, hs 2, hs 3]
      rcases h3 with h3 | h3 | h3 <;> rw [h3] <;> rfl
    apply List.ext_getElem
    · simp [hl]
    · intro i h1 h2
      rw [List.getElem_map, List.getElem_range, hget i (by simpa using h1)]
      simp [List.getD, h2]
  · have c := rdAll_count (H := H) (A := A) (B := B)
    rw [tve] at c
    have : (bestR H A B).length = (rdAll H A B).countP fun r => decide (toldN r = (tv mayA H A B (0, 0, 0)).1) := by
      rw [List.countP_eq_length_filter]; rfl
    rw [this, tve]
    dsimp only at c ⊢
    omega
end
theorem equals_l1_p {s : List Int} (hs : s.length ≤ 1000) : ∀ (n k : Nat), s.length < n + k → k ≤ s.length → equals_l1 N n s s (s.length : Int) k = some (.inr ())
  | 0, k, h, _ => by omega
  | n + 1, k, h, hk => by
    rw [equals_l1]
    by_cases c : k < s.length
    · rw [br_dec (by omega), idx_get 0 (by omega) (by omega), idx_get 0 (by omega) (by omega), br_nd (by first | trivial | rfl), chk_eq (by omega)]
      have := equals_l1_p hs n (k + 1) (by omega) (by omega)
      rw [show ((k + 1 : Nat) : Int) = (k : Int) + 1 by omega] at this
      exact this
    · rw [br_ndec (by omega)]
theorem likes_v {s : List Int} (hs : s.length ≤ 1000) (hN : s.length < N) : likes_S N s s = some true := by
  unfold likes_S equals_S
  have := equals_l1_p (N := N) hs N 0 (by omega) (by omega)
  rw [show ((0 : Nat) : Int) = 0 from rfl] at this
  rw [br_nd (by first | trivial | rfl), this]; rfl
/-- What has been cried and heard up to a round. -/
structure Hd (k : Nat) (want H A B : List Int) : Prop where
  n : A.length + B.length = k
  a : ∀ x ∈ A, 0 ≤ x ∧ x < k
  b : ∀ x ∈ B, 0 ≤ x ∧ x < k
  t : Two2 A B
  h : ∀ x ∈ H, 0 ≤ x ∧ x < k
  hl : H.length ≤ k
  m : ∃ i j, Mz A B i j H want
theorem Hd.wl {k : Nat} {want H A B : List Int} (h : Hd k want H A B) : want.length = H.length := by
  obtain ⟨i, j, hm⟩ := h.m
  have := (hm.to [] [] (.nil i j)).len
  simpa using this
theorem in_succ {l : List Int} {k : Nat} (h : ∀ x ∈ l, 0 ≤ x ∧ x < k) : ∀ x ∈ l ++ [(k : Int)], 0 ≤ x ∧ x < ((k + 1 : Nat) : Int) := fun x hx => by
  rcases List.mem_append.1 hx with hx | hx
  · have := h x hx; omega
  · simp only [List.mem_singleton] at hx
    omega
theorem in_more {l : List Int} {k : Nat} (h : ∀ x ∈ l, 0 ≤ x ∧ x < k) : ∀ x ∈ l, 0 ≤ x ∧ x < ((k + 1 : Nat) : Int) := fun x hx => by
  have := h x hx; omega
theorem toverheard_l2_p {share : List Int} (h7 : share.length ≤ 7) (hs : ∀ x ∈ share, x = 0 ∨ x = 1) {q : List Int} : ∀ (n k : Nat) (q2 q3 : Int) (want H A B : List Int), share.length < n + k → k ≤ share.length → Fd.Bell q q2 → Hd k want H A B →
    ∃ want' H' A' B', toverheard_l2 N n share share (share.length : Int) k q q2 q3 0 want H A B = some (.inr (share, 0, want', H', A', B')) ∧ Hd share.length want' H' A' B'
  | 0, k, q2, q3, want, H, A, B, hn, _, _, _ => by omega
  | n + 1, k, q2, q3, want, H, A, B, hn, hk, hb, hd => by
    rw [toverheard_l2]
    by_cases c : k < share.length
    rotate_left
    · rw [br_ndec (by omega)]
      obtain rfl : k = share.length := by omega
      exact ⟨want, H, A, B, rfl, hd⟩
    have hx := hs _ (getD_mem (l := share) (d := 0) c)
    have hw := hd.wl
    have hn' := hd.n
    have hl' := hd.hl
    obtain ⟨i, j, hm⟩ := hd.m
    have la : ∀ x ∈ A, x < (k : Int) := fun x hx => (hd.a x hx).2
    have lb : ∀ x ∈ B, x < (k : Int) := fun x hx => (hd.b x hx).2
    have next := fun q2 q3 want H A B hb hd => toverheard_l2_p h7 hs (q := q) n (k + 1) q2 q3 want H A B (by omega) (by omega) hb hd
    rw [Fe.nat_succ] at next
    obtain ⟨⟨y, d, d2, d3⟩, ey, hd', hb1⟩ := Fd.seldom_ok N (n := 3) (b3 := q3) hb (by omega)
    dsimp only at hd' hb1
    obtain rfl := hd'.symm
    rw [br_dec (by omega), idx_eq (by omega) (Fe.gets c 0)]
    generalize share.getD k 0 = sk at hx ⊢
    rcases hx with rfl | rfl
    · rw [br_nd rfl, br_dec rfl, lim_eq (by simp; omega), br_dec rfl, ey]
      simp only [Option.bind_some]
      have hA : Hd (k + 1) want H (A ++ [(k : Int)]) B := ⟨by simp; omega, in_succ hd.a, in_more hd.b, hd.t.growA la lb, in_more hd.h, by omega, i, j, hm.growA _⟩
      have hAH : Hd (k + 1) (want ++ [1]) (H ++ [(k : Int)]) (A ++ [(k : Int)]) B := ⟨by simp; omega, in_succ hd.a, in_more hd.b, hd.t.growA la lb, in_succ hd.h, by simp; omega, _, _, hm.endA _⟩
      cases y with
      | true =>
        rw [Bool.not_true, br_false]
        unfold toverheard_j1
        rw [chk_eq (by omega)]
        exact next _ _ _ _ _ _ hb1 hA
      | false =>
        rw [Bool.not_false, br_true, lim_eq (by simp; omega), chk_eq (by omega), lim_eq (by simp; omega)]
        unfold toverheard_j1
        rw [chk_eq (by omega)]
        exact next _ _ _ _ _ _ hb1 hAH
    · rw [br_nnd (by decide), br_nd rfl, br_ndec (by decide), br_dec rfl, lim_eq (by simp; omega), br_ndec (by decide), br_dec rfl, ey]
      simp only [Option.bind_some]
      have hB : Hd (k + 1) want H A (B ++ [(k : Int)]) := ⟨by simp; omega, in_more hd.a, in_succ hd.b, hd.t.growB la lb, in_more hd.h, by omega, i, j, hm.growB _⟩
      have hBH : Hd (k + 1) (want ++ [2]) (H ++ [(k : Int)]) A (B ++ [(k : Int)]) := ⟨by simp; omega, in_more hd.a, in_succ hd.b, hd.t.growB la lb, in_succ hd.h, by simp; omega, _, _, hm.endB _⟩
      cases y with
      | true =>
        rw [Bool.not_true, br_false]
        unfold toverheard_j1
        rw [chk_eq (by omega)]
        exact next _ _ _ _ _ _ hb1 hB
      | false =>
        rw [Bool.not_false, br_true, lim_eq (by simp; omega), chk_eq (by omega), lim_eq (by simp; omega)]
        unfold toverheard_j1
        rw [chk_eq (by omega)]
        exact next _ _ _ _ _ _ hb1 hBH
theorem awake10_v2 : awake10_S 1100 = some true := by kernel_rfl
theorem toverheard_true {ns ls : List Int} (h0 : (Ty.sl (.int .u8)).inB ns) (h1 : (Ty.sl (.int .u8)).inB ls) : toverheard_S 1100 ns ls = some true := by
  unfold toverheard_S hang_S
  simp only [Option.bind_some]
  obtain ⟨cr, w, st, fi, b', b2', b3', rs, e1, hw, hst, hfi, hl, hr⟩ := Fe.made_v (N := 1100) (by omega) (b := ns) (b2 := 0) (b3 := 0) ⟨h0.1, by omega, by omega⟩
  have e1 : fe_made_S 1100 7 ns 0 0 = some (cr, w, st, fi, b', b2', b3', rs) := e1
  rw [e1]
  simp only [Option.bind_some]
  obtain ⟨cs, e2, l2, r2⟩ := toverheard_l1_p (N := 1100) (lost := ls) (b := 2) (b2 := w) (b3 := st) (b4 := fi) 1100 0 rs hl (by omega) (by omega) ⟨fun i hi => hr _ (getD_mem hi), fun i hi => by omega⟩
  rw [show ((0 : Nat) : Int) = 0 from rfl] at e2
  rw [e2]
  simp only [Option.bind_some]
  have hG : Fe.Good w st fi cs := ⟨hw, hst, hfi, by omega, fun r hr => by
    obtain ⟨i, hi, rfl⟩ := List.getElem_of_mem hr
    have a := r2.1 i hi
    have c := r2.2 i (by omega) hi
    rw [Fe.getD_el hi] at a c
    exact ⟨a.1, a.2, c⟩⟩
  obtain ⟨share, n, e3, l3, hs⟩ := Fe.best_v (N := 1100) (by omega) hG
  have e3 : fe_best_S 1100 2 w st fi cs = some (share, n, 0) := e3
  rw [e3]
  simp only [Option.bind_some]
  rw [br_nd (by first | trivial | rfl), br_nd (by omega)]
  obtain ⟨want, H, A, B, e4, hd⟩ := toverheard_l2_p (N := 1100) (share := share) (by omega) hs (q := ls) 1100 0 0 0 [] [] [] [] (by omega) (by omega) ⟨h1.1, by omega, by omega⟩ ⟨rfl, fun x hx => (by cases hx), fun x hx => (by cases hx), ⟨fun i j hi => absurd hi (by simp), fun i j hi => absurd hi (by simp), fun i j hi => absurd hi (by simp)⟩, fun x hx => (by cases hx), by simp, 0, 0, .nil⟩
  rw [show ((0 : Nat) : Int) = 0 from rfl] at e4
  rw [e4]
  simp only [Option.bind_some]
  have hn := hd.n
  have hwl := hd.wl
  have hHl := hd.hl
  by_cases c1 : A.length = 0
  · rw [br_dec (by omega), awake10_v2]; rfl
  rw [br_ndec (by omega)]
  by_cases c2 : B.length = 0
  · rw [br_dec (by omega), awake10_v2]; rfl
  rw [br_ndec (by omega)]
  by_cases c3 : 6 < max (A.length : Int) (B.length : Int)
  · rw [br_dec c3, awake10_v2]; rfl
  rw [br_ndec c3]
  obtain ⟨i, j, hm⟩ := hd.m
  have hx := hm.to [] [] (.nil i j)
  rw [List.append_nil, List.append_nil] at hx
  obtain ⟨f1, f2, f3⟩ := heard_sure hd.t (by omega) (by omega) hx
  have hF : Fine [A, B] H 0 := by
    refine ⟨by simp, by omega, fun x hx => ?_, fun x hx => ?_, fun x hx => ?_, by omega⟩
    · simp only [List.mem_cons, List.not_mem_nil, or_false] at hx
      rcases hx with rfl | rfl <;> omega
    · simp only [List.mem_cons, List.not_mem_nil, or_false] at hx
      rcases hx with rfl | rfl
      · intro y hy; have := hd.a y hy; omega
      · intro y hy; have := hd.b y hy; omega
    · have := hd.h x hx; omega
  have hop := hF.open (a := 0) (b := 1) (by simp) (by simp)
  rw [least_v (by omega) hF (by simp) (by simp), sure_v (by omega) hop, count_v2 (by omega) hop]
  have eA : [A, B].getD (0 : Int).toNat [] = A := rfl
  have eB : [A, B].getD (1 : Int).toNat [] = B := rfl
  rw [eA, eB, f1, f2]
  simp only [Option.bind_some]
  have lv : leastV H A B = (share.length : Int) - H.length := by
    unfold leastV
    rw [f3]; omega
  rw [br_dec (by first | trivial | rfl), br_dec (by first | trivial | rfl), br_dec (by first | trivial | rfl), chk_eq (by omega), lv, br_dec rfl, br_dec (by rfl), likes_v (by omega) (by omega)]
  simp only [Option.bind_some]
  rw [br_true, awake10_v2]; rfl
end
end Go.Proofs.Ytgeijboidfadaaa

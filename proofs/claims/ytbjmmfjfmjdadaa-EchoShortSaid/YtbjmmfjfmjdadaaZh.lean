/-
  Parts of a proof, put together: SFk, SW, SW2, SL, SPf.
  Conditions: none.
-/
import Derived.Test.YtbjmmfjfmjdadaaZd
import Derived.Test.YtbjmmfjfmjdadaaZf
import Derived.Test.YtbjmmfjfmjdadaaZg
namespace Go.Proofs.Ytbjmmfjfmjdadaa
set_option linter.all false
open Go

/-- A row of our own. -/
def CR (w : World) (lo : Nat) (r : List Int) (v : Value) : Prop := ∃ b c rest ty, v = .slice (some ⟨b, 0, none⟩) r.length c ∧ r.length ≤ c ∧ lo ≤ b ∧ r.length ≤ 1000000 ∧ (∀ x ∈ r, inR .i64 x) ∧ Blk w b (r.map (.int .i64) ++ rest) ty
def blkN : Value → Nat
  | .slice (some p) _ _ => p.block
  | _ => 0
theorem CR.upd {w w' : World} {lo : Nat} {r : List Int} {v : Value} {S : List Nat} (h : CR w lo r v) (hu : Upd S w w') (hb : blkN v ∉ S) : CR w' lo r v := by
  obtain ⟨b, c, rest, ty, rfl, h1, h2, h3, h4, h5⟩ := h
  exact ⟨b, c, rest, ty, rfl, h1, h2, h3, h4, hu.blk h5 hb⟩
theorem CR.lo {w : World} {lo lo' : Nat} {r : List Int} {v : Value} (h : CR w lo r v) (hl : lo' ≤ lo) : CR w lo' r v := by
  obtain ⟨b, c, rest, ty, rfl, h1, h2, h3⟩ := h
  exact ⟨b, c, rest, ty, rfl, h1, by omega, h3⟩
theorem CR.lt {w : World} {lo : Nat} {r : List Int} {v : Value} (h : CR w lo r v) : lo ≤ blkN v ∧ blkN v < w.heap.size := by
  obtain ⟨b, c, rest, ty, rfl, h1, h2, h3, h4, h5⟩ := h
  exact ⟨h2, lt_of_blk h5⟩
end Go.Proofs.Ytbjmmfjfmjdadaa
namespace Go.Proofs.Ytbjmmfjfmjdadaa
set_option linter.all false
open Go

/-- Blocks that are frozen at once. -/
def frzM (M : Nat → Option Obj) (S : List Nat) (n : Nat) (w : World) : Nat → Option Obj := fun b => match M b with
  | some o => some o
  | none => if b ∈ S ∨ n ≤ b then (match w.heap[b]? with | some o => if isCel o then some o else none | none => none) else none
theorem frzM_mono {M : Nat → Option Obj} {S : List Nat} {n : Nat} {w : World} (b : Nat) (o : Obj) (h : M b = some o) : frzM M S n w b = some o := by
  unfold frzM; rw [h]
theorem frzM_new {M : Nat → Option Obj} {S : List Nat} {n : Nat} {w : World} {b : Nat} {cs : Array Value} {ty : TypeId} {z : Nat × Nat} (h : M b = none) (hb : b ∈ S ∨ n ≤ b) (hw : w.heap[b]? = some (.cells cs ty z)) : frzM M S n w b = some (.cells cs ty z) := by
  unfold frzM; rw [h]; simp only [if_pos hb, hw, isCel]; rfl
theorem frzM_inv {M : Nat → Option Obj} {S : List Nat} {n : Nat} {w : World} {b : Nat} {o : Obj} (h : frzM M S n w b = some o) : M b = some o ∨ (M b = none ∧ (b ∈ S ∨ n ≤ b) ∧ w.heap[b]? = some o ∧ isCel o = true) := by
  unfold frzM at h
  cases e : M b with
  | some o' => rw [e] at h; exact .inl h
  | none =>
    rw [e] at h
    dsimp only at h
    split at h
    · rename_i hb
      split at h
      · rename_i o' hw
        split at h
        · rename_i hc
          cases h
          exact .inr ⟨rfl, hb, hw, hc⟩
        · cases h
      · cases h
    · cases h
theorem frzM_none {M : Nat → Option Obj} {S : List Nat} {n : Nat} {w : World} {b : Nat} (h : M b = none) (hb : b ∉ S) (hn : b < n) : frzM M S n w b = none := by
  cases e : frzM M S n w b with
  | none => rfl
  | some o =>
    rcases frzM_inv e with h1 | ⟨_, h1 | h1, _⟩
    · rw [h] at h1; cases h1
    · exact absurd h1 hb
    · omega
/-- Rows, each a block of our own. -/
def RowsOK (w : World) (lo : Nat) (l : List (List Int)) (bl : Nat) : Prop := ∃ vs rest ty, Blk w bl (vs ++ rest) ty ∧ vs.length = l.length ∧ ∀ j, j < l.length → CR w lo (l.getD j []) (vs.getD j undef)
theorem RowsOK.rep {M : Nat → Option Obj} {S : List Nat} {n : Nat} {w : World} {l : List (List Int)} {bl c : Nat} (h : RowsOK w n l bl) (hM : ∀ b o, M b = some o → b < n) (hb : M bl = none) (hS : bl ∈ S ∨ n ≤ bl) (hl : l.length ≤ 1000000) (hc : l.length ≤ c) :
    RepS (frzM M S n w) 1 (RepC (frzM M S n w) (.sl (.int .i64))) l (.slice (some ⟨bl, 0, none⟩) l.length c) := by
  obtain ⟨vs, rest, ty, h1, h2, h3⟩ := h
  refine ⟨by omega, _, c, rfl, hc, .inr ⟨bl, 0, vs ++ rest, (ty, (0, 0)), rfl, frzM_new hb hS h1, fun i x hx => ?_⟩⟩
  obtain ⟨hi, rfl⟩ := List.getElem?_eq_some_iff.1 hx
  have h4 := h3 i hi
  have e : l.getD i [] = l[i] := by simp [List.getD_eq_getElem?_getD, List.getElem?_eq_getElem hi]
  rw [e] at h4
  have ev : vs[i]? = some (vs.getD i undef) := by simp [List.getD_eq_getElem?_getD, List.getElem?_eq_getElem (show i < vs.length by omega)]
  obtain ⟨b, cc, rst, ty', e2, h5, h6, h7, h8, h9⟩ := h4
  refine ⟨[vs.getD i undef], fun j u hj => ?_, vs.getD i undef, rfl, ?_⟩
  · cases j with
    | zero =>
      simp only [List.getElem?_cons_zero, Option.some.injEq] at hj
      subst hj
      simp only [Nat.mul_one, Nat.zero_add, Nat.add_zero]
      rw [List.getElem?_append_left (by omega)]; exact ev
    | succ j => simp at hj
  · rw [e2]
    have hMb : M b = none := by
      cases e3 : M b with
      | none => rfl
      | some o => have := hM b o e3; omega
    refine ⟨by omega, _, cc, rfl, h5, .inr ⟨b, 0, _, (ty', (0, 0)), rfl, frzM_new hMb (.inr h6) h9, fun k x hk => ?_⟩⟩
    refine ⟨[.int .i64 x], fun j u hj => ?_, rfl, h8 x (List.mem_of_getElem? hk)⟩
    cases j with
    | zero =>
      simp only [List.getElem?_cons_zero, Option.some.injEq] at hj
      subst hj
      simp only [Ty.cells, Nat.mul_one, Nat.zero_add, Nat.add_zero]
      rw [List.getElem?_append_left (by have := (List.getElem?_eq_some_iff.1 hk).1; simpa using this)]
      simp [hk]
    | succ j => simp at hj
theorem has_mem {tm : Array Value} : ∀ (L : Tms), (∀ p ∈ L, tm.getD p.1 undef = p.2) → ∀ t v, L.lookup t = some v → tm.getD t undef = v
  | [], _, t, v, h => by simp at h
  | p :: L, hL, t, v, h => by
    rw [List.lookup_cons] at h
    split at h
    · rename_i e
      have := hL p (by simp)
      simp only [beq_iff_eq] at e
      rw [e]
      simp only [Option.some.injEq] at h
      rw [← h]; exact this
    · exact has_mem L (fun q hq => hL q (by simp [hq])) t v h
end Go.Proofs.Ytbjmmfjfmjdadaa
namespace Go.Proofs.Ytbjmmfjfmjdadaa
set_option linter.all false
open Go

theorem Upd.trans_old {S T : List Nat} {a b c : World} (h : Upd S a b) (k : Upd T b c) (hT : ∀ x ∈ T, a.heap.size ≤ x) : Upd S a c :=
  ⟨k.os.trans h.os, k.tape.trans h.tape, k.output.trans h.output, Nat.le_trans h.size k.size, fun i hi hs => (k.same i (Nat.lt_of_lt_of_le hi h.size) (fun hk => by have := hT i hk; omega)).trans (h.same i hi hs)⟩
end Go.Proofs.Ytbjmmfjfmjdadaa

namespace Go.Proofs.Ytbjmmfjfmjdadaa
set_option linter.all false
open Go

noncomputable def c3 : Code := (Try.f3.body).getD .skip
noncomputable def K3_14 : List Item := [.code (sub c3 [1, 1, 1, 1, 1, 1, 1, 1, 0]), .code (sub c3 [1, 1, 1, 1, 1, 1, 1, 1, 1])]
noncomputable def K3_15 : List Item := [.code (sub c3 [1, 1, 1, 1, 1, 1, 1, 1, 1, 0, 0]), .code (sub c3 [1, 1, 1, 1, 1, 1, 1, 1, 1, 0, 1]), .code (sub c3 [1, 1, 1, 1, 1, 1, 1, 1, 1, 1])]
noncomputable def K3_16 : List Item := [.code (sub c3 [1, 1, 1, 1, 1, 1, 1, 1, 1, 0, 1, 0, 0, 0]), .code (sub c3 [1, 1, 1, 1, 1, 1, 1, 1, 1, 0, 1, 0, 0, 1]), .inLoop (sub c3 [1, 1, 1, 1, 1, 1, 1, 1, 1, 0, 1, 0, 0]), .inBlock 0, .code (sub c3 [1, 1, 1, 1, 1, 1, 1, 1, 1, 1])]
noncomputable def K3_17 : List Item := [.code (sub c3 [1, 1, 1, 1, 1, 1, 1, 1, 1, 0, 1, 0, 0, 1, 0]), .code (sub c3 [1, 1, 1, 1, 1, 1, 1, 1, 1, 0, 1, 0, 0, 1, 1]), .inLoop (sub c3 [1, 1, 1, 1, 1, 1, 1, 1, 1, 0, 1, 0, 0]), .inBlock 0, .code (sub c3 [1, 1, 1, 1, 1, 1, 1, 1, 1, 1])]
noncomputable def K3_18 : List Item := [.code (sub c3 [1, 1, 1, 1, 1, 1, 1, 1, 1, 0, 1, 0, 0, 1, 1, 0, 0, 0]), .code (sub c3 [1, 1, 1, 1, 1, 1, 1, 1, 1, 0, 1, 0, 0, 1, 1, 0, 0, 1]), .inBlock 1, .code (sub c3 [1, 1, 1, 1, 1, 1, 1, 1, 1, 0, 1, 0, 0, 1, 1, 1]), .inLoop (sub c3 [1, 1, 1, 1, 1, 1, 1, 1, 1, 0, 1, 0, 0]), .inBlock 0, .code (sub c3 [1, 1, 1, 1, 1, 1, 1, 1, 1, 1])]
noncomputable def K3_19 : List Item := [.code (sub c3 [1, 1, 1, 1, 1, 1, 1, 1, 1, 1, 0, 0]), .code (sub c3 [1, 1, 1, 1, 1, 1, 1, 1, 1, 1, 0, 1]), .code (sub c3 [1, 1, 1, 1, 1, 1, 1, 1, 1, 1, 1])]
noncomputable def K3_20 : List Item := [.code (sub c3 [1, 1, 1, 1, 1, 1, 1, 1, 1, 0, 1, 0, 0, 1, 1, 0, 0, 1]), .inBlock 1, .code (sub c3 [1, 1, 1, 1, 1, 1, 1, 1, 1, 0, 1, 0, 0, 1, 1, 1]), .inLoop (sub c3 [1, 1, 1, 1, 1, 1, 1, 1, 1, 0, 1, 0, 0]), .inBlock 0, .code (sub c3 [1, 1, 1, 1, 1, 1, 1, 1, 1, 1])]
noncomputable def K3_21 : List Item := [.code (sub c3 [1, 1, 1, 1, 1, 1, 1, 1, 1, 1, 0, 1, 0, 0, 0]), .code (sub c3 [1, 1, 1, 1, 1, 1, 1, 1, 1, 1, 0, 1, 0, 0, 1]), .inLoop (sub c3 [1, 1, 1, 1, 1, 1, 1, 1, 1, 1, 0, 1, 0, 0]), .inBlock 2, .code (sub c3 [1, 1, 1, 1, 1, 1, 1, 1, 1, 1, 1])]
noncomputable def K3_22 : List Item := [.code (sub c3 [1, 1, 1, 1, 1, 1, 1, 1, 1, 0, 1, 0, 0, 1, 1, 1]), .inLoop (sub c3 [1, 1, 1, 1, 1, 1, 1, 1, 1, 0, 1, 0, 0]), .inBlock 0, .code (sub c3 [1, 1, 1, 1, 1, 1, 1, 1, 1, 1])]
noncomputable def K3_23 : List Item := [.code (sub c3 [1, 1, 1, 1, 1, 1, 1, 1, 1, 1, 0, 1, 0, 0, 1, 0]), .code (sub c3 [1, 1, 1, 1, 1, 1, 1, 1, 1, 1, 0, 1, 0, 0, 1, 1]), .inLoop (sub c3 [1, 1, 1, 1, 1, 1, 1, 1, 1, 1, 0, 1, 0, 0]), .inBlock 2, .code (sub c3 [1, 1, 1, 1, 1, 1, 1, 1, 1, 1, 1])]
noncomputable def K3_24 : List Item := [.code (sub c3 [1, 1, 1, 1, 1, 1, 1, 1, 1, 1, 0, 1, 0, 0, 1, 1, 0, 0, 0]), .code (sub c3 [1, 1, 1, 1, 1, 1, 1, 1, 1, 1, 0, 1, 0, 0, 1, 1, 0, 0, 1]), .inBlock 3, .code (sub c3 [1, 1, 1, 1, 1, 1, 1, 1, 1, 1, 0, 1, 0, 0, 1, 1, 1]), .inLoop (sub c3 [1, 1, 1, 1, 1, 1, 1, 1, 1, 1, 0, 1, 0, 0]), .inBlock 2, .code (sub c3 [1, 1, 1, 1, 1, 1, 1, 1, 1, 1, 1])]
noncomputable def K3_25 : List Item := [.code (sub c3 [1, 1, 1, 1, 1, 1, 1, 1, 1, 1, 1, 0]), .code (sub c3 [1, 1, 1, 1, 1, 1, 1, 1, 1, 1, 1, 1])]
noncomputable def K3_26 : List Item := [.code (sub c3 [1, 1, 1, 1, 1, 1, 1, 1, 1, 1, 0, 1, 0, 0, 1, 1, 0, 0, 1]), .inBlock 3, .code (sub c3 [1, 1, 1, 1, 1, 1, 1, 1, 1, 1, 0, 1, 0, 0, 1, 1, 1]), .inLoop (sub c3 [1, 1, 1, 1, 1, 1, 1, 1, 1, 1, 0, 1, 0, 0]), .inBlock 2, .code (sub c3 [1, 1, 1, 1, 1, 1, 1, 1, 1, 1, 1])]
noncomputable def K3_28 : List Item := [.code (sub c3 [1, 1, 1, 1, 1, 1, 1, 1, 1, 1, 0, 1, 0, 0, 1, 1, 1]), .inLoop (sub c3 [1, 1, 1, 1, 1, 1, 1, 1, 1, 1, 0, 1, 0, 0]), .inBlock 2, .code (sub c3 [1, 1, 1, 1, 1, 1, 1, 1, 1, 1, 1])]
set_option maxHeartbeats 1000000 in
theorem short_rows0 {X : Ctx} {df : List Deferred} (b9 b10 b15 bt n : Nat) (vA vB x1 x2 u1 : Value) (ty15 tyT : TypeId) (w0 : World) (hn : n ≤ 1000) (h15 : b15 ≠ bt) (hB15 : Blk w0 b15 [(.slice (some ⟨bt, 0, none⟩) 2 2), x1, x2] ty15) (hBt : Blk w0 bt [.slice none 0 0, u1] tyT)
    (hk : ∀ v ab w, Upd [bt] w0 w → Blk w bt [v, u1] tyT → Acc 3 1 w0.heap.size w v n ((List.range n).map fun (k : Nat) => Value.int .i64 (k : Int)) ab → St Try.prog X 209 K3_19 [(9, .pointer (some ⟨b9, 0, none⟩)), (10, .pointer (some ⟨b10, 0, none⟩)), (11, vA), (13, vB), (15, .pointer (some ⟨b15, 0, none⟩))] df w) :
    St Try.prog X 209 K3_16 [(80, .int .i64 0), (79, .int .i64 (n : Int)), (9, .pointer (some ⟨b9, 0, none⟩)), (10, .pointer (some ⟨b10, 0, none⟩)), (11, vA), (13, vB), (15, .pointer (some ⟨b15, 0, none⟩))] df w0 := by
  have hb15 := lt_of_blk hB15; have hbt := lt_of_blk hBt
  obtain ⟨-, -, by1, zv1, hT1, -⟩ := elemT_of (P := Try.prog) (t := 30) (e := 3) (y := .int .i64) (by kernel_rfl)
  have hT1 : ElemT Try.prog 30 3 1 by1 zv1 := hT1
  have loop : ∀ (N i : Nat) (v : Value) (ab : List Nat) (w : World), i ≤ n → N = n - i → Upd [bt] w0 w → Blk w bt [v, u1] tyT → Acc 3 1 w0.heap.size w v i ((List.range i).map fun (k : Nat) => Value.int .i64 (k : Int)) ab →
      St Try.prog X 209 K3_16 [(80, .int .i64 (i : Int)), (79, .int .i64 (n : Int)), (9, .pointer (some ⟨b9, 0, none⟩)), (10, .pointer (some ⟨b10, 0, none⟩)), (11, vA), (13, vB), (15, .pointer (some ⟨b15, 0, none⟩))] df w := by
    intro N
    induction N using Nat.strongRecOn with
    | ind N ih => ?_
    intro i v ab w hi hN hu hb hA
    have hsz := hu.size
    have habl := hA.lt
    have hb15w : Blk w b15 [(.slice (some ⟨bt, 0, none⟩) 2 2), x1, x2] ty15 := hu.blk hB15 (by simp [h15])
    refine St.reg K3_17 [(0, true)] (by kernel_rfl) (by kernel_rfl) ?_
    refine RX.q 1 [] [(81, .bool (decide ((i : Int) < (n : Int)))), (80, .int .i64 (i : Int)), (79, .int .i64 (n : Int)), (9, .pointer (some ⟨b9, 0, none⟩)), (10, .pointer (some ⟨b10, 0, none⟩)), (11, vA), (13, vB), (15, .pointer (some ⟨b15, 0, none⟩))] [] (by kernel_rfl) trivial ?_
    refine RX.done [(81, .bool (decide ((i : Int) < (n : Int)))), (80, .int .i64 (i : Int)), (79, .int .i64 (n : Int)), (9, .pointer (some ⟨b9, 0, none⟩)), (10, .pointer (some ⟨b10, 0, none⟩)), (11, vA), (13, vB), (15, .pointer (some ⟨b15, 0, none⟩))] (by kernel_rfl) (by kernel_rfl) ?_
    refine St.cond (k1 := K3_18) (k2 := K3_19) (decide ((i : Int) < (n : Int))) (by kernel_rfl) (fun hc => ?_) (fun hc => ?_)
    rotate_left
    · have hh : (n : Int) ≤ (i : Int) := by simpa using hc
      clear hc
      obtain rfl : i = n := by omega
      exact St.weak (L' := [(9, .pointer (some ⟨b9, 0, none⟩)), (10, .pointer (some ⟨b10, 0, none⟩)), (11, vA), (13, vB), (15, .pointer (some ⟨b15, 0, none⟩))]) (by kernel_rfl) (hk v ab w hu hb hA)
    have hh : (i : Int) < (n : Int) := by simpa using hc
    clear hc
    have hil : i < n := by omega
    refine St.weak (L' := [(80, .int .i64 (i : Int)), (79, .int .i64 (n : Int)), (9, .pointer (some ⟨b9, 0, none⟩)), (10, .pointer (some ⟨b10, 0, none⟩)), (11, vA), (13, vB), (15, .pointer (some ⟨b15, 0, none⟩))]) (by kernel_rfl) ?_
    refine St.reg K3_20 [(0, true), (1, true)] (by kernel_rfl) (by kernel_rfl) ?_
    refine RX.q 2 [] [(16, .int .i64 (i : Int)), (80, .int .i64 (i : Int)), (79, .int .i64 (n : Int)), (9, .pointer (some ⟨b9, 0, none⟩)), (10, .pointer (some ⟨b10, 0, none⟩)), (11, vA), (13, vB), (15, .pointer (some ⟨b15, 0, none⟩))] [] (by kernel_rfl) trivial ?_
    refine RX.done [(16, .int .i64 (i : Int)), (80, .int .i64 (i : Int)), (79, .int .i64 (n : Int)), (9, .pointer (some ⟨b9, 0, none⟩)), (10, .pointer (some ⟨b10, 0, none⟩)), (11, vA), (13, vB), (15, .pointer (some ⟨b15, 0, none⟩))] (by kernel_rfl) (by kernel_rfl) ?_
    refine St.drw K3_22 ab [(0, true), (1, true), (2, true), (3, true), (4, true), (5, true), (6, true), (7, false), (8, false), (9, true), (10, false)] mixed (by kernel_rfl) (by kernel_rfl) ?_
    intro w1 hd hds
    have hu1 : Upd [bt] w0 w1 := Upd.ext hu hd
    have htab : bt ∉ ab := fun h => by have := (habl _ h).1; omega
    have h15ab : b15 ∉ ab := fun h => by have := (habl _ h).1; omega
    have hix : ∀ w', (Instr.indexAt 35 (.slice (some ⟨bt, 0, none⟩) 2 2) (.int .i64 0)).run Try.prog w' = .ok (.pointer (some ⟨bt, 0 + 0 * 1, none⟩)) w' := fun w' => idx_sl (e := 30) (sz := 1) (by kernel_rfl) (by kernel_rfl) bt 0 2 2 0 (by decide) _
    refine RX.qd 7 [(1, true, (.slice (some ⟨bt, 0, none⟩) 2 2)), (3, true, (.slice (some ⟨bt, 0, none⟩) 2 2)), (4, true, (.pointer (some ⟨bt, 0 + 0 * 1, none⟩))), (5, true, v)] [(89, (.int .i64 (i : Int))), (88, v), (84, (.slice (some ⟨bt, 0, none⟩) 2 2)), (80, .int .i64 (i : Int)), (79, .int .i64 (n : Int)), (9, .pointer (some ⟨b9, 0, none⟩)), (10, .pointer (some ⟨b10, 0, none⟩)), (11, vA), (13, vB), (15, .pointer (some ⟨b15, 0, none⟩))] [.cell ⟨b15, 0, none⟩ (.slice (some ⟨bt, 0, none⟩) 2 2), .cell ⟨b15, 0, none⟩ (.slice (some ⟨bt, 0, none⟩) 2 2), .raw (Instr.indexAt 35 (.slice (some ⟨bt, 0, none⟩) 2 2) (.int .i64 0)) (.pointer (some ⟨bt, 0 + 0 * 1, none⟩)), .cell ⟨bt, 0 + 0 * 1, none⟩ v] (by kernel_rfl) ⟨Blk.cell (Ext.blk hd hb15w) rfl, Blk.cell (Ext.blk hd hb15w) rfl, hix _, Blk.cell (Ext.blk hd hb) rfl⟩ ⟨h15ab, h15ab, fun w' _ => hix w', htab⟩ ?_
    refine RX.newD 90 (.cells #[(.int .i64 (i : Int))] 3) (.sl 1) [(89, (.int .i64 (i : Int))), (88, v), (84, (.slice (some ⟨bt, 0, none⟩) 2 2)), (80, .int .i64 (i : Int)), (79, .int .i64 (n : Int)), (9, .pointer (some ⟨b9, 0, none⟩)), (10, .pointer (some ⟨b10, 0, none⟩)), (11, vA), (13, vB), (15, .pointer (some ⟨b15, 0, none⟩))] (by kernel_rfl) ?_
    intro bx w2 hn2
    have hs2 := hn2.size; have ha2 := hn2.at_
    have hBx : Blk w2 bx [(.int .i64 (i : Int))] 3 := hn2.blk
    have hx2 : Ext w w2 := hd.trans hn2.ext
    have hA2 := hA.ext hx2
    have hsx : Sl 0 w2 (.slice (some ⟨bx, 0, none⟩) 1 1) 1 1 [(.int .i64 (i : Int))] := ⟨_, 1, rfl, Nat.le_refl _, rfl, .inr ⟨bx, 0, rfl, Nat.zero_le _, lt_of_blk hBx, fun j u hj => by rw [addr_add, Nat.zero_add]; exact Blk.cell hBx hj⟩⟩
    obtain ⟨v', w3, ab', hr3, hA3, hU3, hab', hs3⟩ := append_run (P := Try.prog) (u := 30) (ty := 30) hT1 (by kernel_rfl) hA2 hsx (fun c hc => by simp at hc; subst hc; rfl) (by omega) (by have := hx2.size; omega)
    obtain ⟨av, cv, rfl⟩ := hA3.shape
    refine RX.runD 91 (Builtin.append_ #[30, 30] 30 #[v, (.slice (some ⟨bx, 0, none⟩) 1 1)]) [(90, (.slice (some ⟨bx, 0, none⟩) 1 1)), (89, (.int .i64 (i : Int))), (88, v), (84, (.slice (some ⟨bt, 0, none⟩) 2 2)), (80, .int .i64 (i : Int)), (79, .int .i64 (n : Int)), (9, .pointer (some ⟨b9, 0, none⟩)), (10, .pointer (some ⟨b10, 0, none⟩)), (11, vA), (13, vB), (15, .pointer (some ⟨b15, 0, none⟩))] (by kernel_rfl) hr3 hU3 ?_
    refine RX.qd 1 [(9, true, (.pointer (some ⟨bt, 0 + 0 * 1, none⟩)))] [(91, .slice av (i + 1) cv), (92, (.pointer (some ⟨bt, 0 + 0 * 1, none⟩))), (80, .int .i64 (i : Int)), (79, .int .i64 (n : Int)), (9, .pointer (some ⟨b9, 0, none⟩)), (10, .pointer (some ⟨b10, 0, none⟩)), (11, vA), (13, vB), (15, .pointer (some ⟨b15, 0, none⟩))] [.raw (Instr.indexAt 35 (.slice (some ⟨bt, 0, none⟩) 2 2) (.int .i64 0)) (.pointer (some ⟨bt, 0 + 0 * 1, none⟩))] (by kernel_rfl) (hix _) (fun w' _ => hix w') ?_
    have hb3 : Blk w3 bt [v, u1] tyT := hU3.blk (Ext.blk hx2 hb) htab
    refine RX.store1L bt 0 (.slice av (i + 1) cv) [v, u1] tyT (by kernel_rfl) rfl hb3 (by simp) (by kernel_rfl) ?_
    intro w4 hp
    have hs4 := hp.size
    refine RX.done [(80, .int .i64 (i : Int)), (79, .int .i64 (n : Int)), (9, .pointer (some ⟨b9, 0, none⟩)), (10, .pointer (some ⟨b10, 0, none⟩)), (11, vA), (13, vB), (15, .pointer (some ⟨b15, 0, none⟩))] (by kernel_rfl) (by kernel_rfl) ?_
    refine St.reg K3_16 [(0, true), (1, true)] (by kernel_rfl) (by kernel_rfl) ?_
    refine RX.q 2 [(0, false, .int .i64 ((i : Int) + 1))] [(80, .int .i64 ((i : Int) + 1)), (79, .int .i64 (n : Int)), (9, .pointer (some ⟨b9, 0, none⟩)), (10, .pointer (some ⟨b10, 0, none⟩)), (11, vA), (13, vB), (15, .pointer (some ⟨b15, 0, none⟩))] [.eq (.int .i64 (IntKind.i64.wrap ((i : Int) + 1))) (.int .i64 ((i : Int) + 1))] (by kernel_rfl) (int64 (by omega)) ?_
    refine RX.done [(80, .int .i64 ((i : Int) + 1)), (79, .int .i64 (n : Int)), (9, .pointer (some ⟨b9, 0, none⟩)), (10, .pointer (some ⟨b10, 0, none⟩)), (11, vA), (13, vB), (15, .pointer (some ⟨b15, 0, none⟩))] (by kernel_rfl) (by kernel_rfl) ?_
    have hab3 : ∀ k ∈ ab', w0.heap.size ≤ k := fun k hk => (hA3.lt k hk).1
    have hU4 : Upd [bt] w0 w4 := ((Upd.ext hu hx2).trans_old hU3 (fun k hk => (habl k hk).1)).trans hp.upd
    have hb4 : Blk w4 bt [(.slice av (i + 1) cv), u1] tyT := hp.blk
    have hA4 := hA3.put hp (fun h => by have := hab3 _ h; omega)
    have exs : ((List.range (i + 1)).map fun (k : Nat) => Value.int .i64 (k : Int)) = ((List.range i).map fun (k : Nat) => Value.int .i64 (k : Int)) ++ [(.int .i64 (i : Int))] := by rw [List.range_succ, List.map_append]; rfl
    rw [← exs] at hA4
    exact St.weak (by kernel_rfl) (ih _ (by omega) (i + 1) (.slice av (i + 1) cv) ab' w4 (by omega) rfl hU4 hb4 hA4)
  exact St.weak (by kernel_rfl) (loop _ 0 (.slice none 0 0) [] w0 (by omega) rfl (Upd.refl _ _) hBt (Acc.nil _ _ _ _))
set_option maxHeartbeats 1000000 in
theorem short_rows1 {X : Ctx} {df : List Deferred} (b9 b10 b15 bt n : Nat) (vA vB x1 x2 u1 : Value) (ty15 tyT : TypeId) (w0 : World) (hn : n ≤ 1000) (h15 : b15 ≠ bt) (hB15 : Blk w0 b15 [(.slice (some ⟨bt, 0, none⟩) 2 2), x1, x2] ty15) (hBt : Blk w0 bt [u1, .slice none 0 0] tyT)
    (hk : ∀ v ab w, Upd [bt] w0 w → Blk w bt [u1, v] tyT → Acc 3 1 w0.heap.size w v n ((List.range n).map fun (k : Nat) => Value.int .i64 (5 + (k : Int))) ab → St Try.prog X 209 K3_25 [(9, .pointer (some ⟨b9, 0, none⟩)), (10, .pointer (some ⟨b10, 0, none⟩)), (11, vA), (13, vB), (15, .pointer (some ⟨b15, 0, none⟩))] df w) :
    St Try.prog X 209 K3_21 [(97, .int .i64 0), (96, .int .i64 (n : Int)), (9, .pointer (some ⟨b9, 0, none⟩)), (10, .pointer (some ⟨b10, 0, none⟩)), (11, vA), (13, vB), (15, .pointer (some ⟨b15, 0, none⟩))] df w0 := by
  have hb15 := lt_of_blk hB15; have hbt := lt_of_blk hBt
  obtain ⟨-, -, by1, zv1, hT1, -⟩ := elemT_of (P := Try.prog) (t := 30) (e := 3) (y := .int .i64) (by kernel_rfl)
  have hT1 : ElemT Try.prog 30 3 1 by1 zv1 := hT1
  have loop : ∀ (N i : Nat) (v : Value) (ab : List Nat) (w : World), i ≤ n → N = n - i → Upd [bt] w0 w → Blk w bt [u1, v] tyT → Acc 3 1 w0.heap.size w v i ((List.range i).map fun (k : Nat) => Value.int .i64 (5 + (k : Int))) ab →
      St Try.prog X 209 K3_21 [(97, .int .i64 (i : Int)), (96, .int .i64 (n : Int)), (9, .pointer (some ⟨b9, 0, none⟩)), (10, .pointer (some ⟨b10, 0, none⟩)), (11, vA), (13, vB), (15, .pointer (some ⟨b15, 0, none⟩))] df w := by
    intro N
    induction N using Nat.strongRecOn with
    | ind N ih => ?_
    intro i v ab w hi hN hu hb hA
    have hsz := hu.size
    have habl := hA.lt
    have hb15w : Blk w b15 [(.slice (some ⟨bt, 0, none⟩) 2 2), x1, x2] ty15 := hu.blk hB15 (by simp [h15])
    refine St.reg K3_23 [(0, true)] (by kernel_rfl) (by kernel_rfl) ?_
    refine RX.q 1 [] [(98, .bool (decide ((i : Int) < (n : Int)))), (97, .int .i64 (i : Int)), (96, .int .i64 (n : Int)), (9, .pointer (some ⟨b9, 0, none⟩)), (10, .pointer (some ⟨b10, 0, none⟩)), (11, vA), (13, vB), (15, .pointer (some ⟨b15, 0, none⟩))] [] (by kernel_rfl) trivial ?_
    refine RX.done [(98, .bool (decide ((i : Int) < (n : Int)))), (97, .int .i64 (i : Int)), (96, .int .i64 (n : Int)), (9, .pointer (some ⟨b9, 0, none⟩)), (10, .pointer (some ⟨b10, 0, none⟩)), (11, vA), (13, vB), (15, .pointer (some ⟨b15, 0, none⟩))] (by kernel_rfl) (by kernel_rfl) ?_
    refine St.cond (k1 := K3_24) (k2 := K3_25) (decide ((i : Int) < (n : Int))) (by kernel_rfl) (fun hc => ?_) (fun hc => ?_)
    rotate_left
    · have hh : (n : Int) ≤ (i : Int) := by simpa using hc
      clear hc
      obtain rfl : i = n := by omega
      exact St.weak (L' := [(9, .pointer (some ⟨b9, 0, none⟩)), (10, .pointer (some ⟨b10, 0, none⟩)), (11, vA), (13, vB), (15, .pointer (some ⟨b15, 0, none⟩))]) (by kernel_rfl) (hk v ab w hu hb hA)
    have hh : (i : Int) < (n : Int) := by simpa using hc
    clear hc
    have hil : i < n := by omega
    refine St.weak (L' := [(97, .int .i64 (i : Int)), (96, .int .i64 (n : Int)), (9, .pointer (some ⟨b9, 0, none⟩)), (10, .pointer (some ⟨b10, 0, none⟩)), (11, vA), (13, vB), (15, .pointer (some ⟨b15, 0, none⟩))]) (by kernel_rfl) ?_
    refine St.reg K3_26 [(0, true), (1, true)] (by kernel_rfl) (by kernel_rfl) ?_
    refine RX.q 2 [] [(17, .int .i64 (i : Int)), (97, .int .i64 (i : Int)), (96, .int .i64 (n : Int)), (9, .pointer (some ⟨b9, 0, none⟩)), (10, .pointer (some ⟨b10, 0, none⟩)), (11, vA), (13, vB), (15, .pointer (some ⟨b15, 0, none⟩))] [] (by kernel_rfl) trivial ?_
    refine RX.done [(17, .int .i64 (i : Int)), (97, .int .i64 (i : Int)), (96, .int .i64 (n : Int)), (9, .pointer (some ⟨b9, 0, none⟩)), (10, .pointer (some ⟨b10, 0, none⟩)), (11, vA), (13, vB), (15, .pointer (some ⟨b15, 0, none⟩))] (by kernel_rfl) (by kernel_rfl) ?_
    refine St.drw K3_28 ab [(0, true), (1, true), (2, true), (3, true), (4, true), (5, true), (6, true), (7, true), (8, false), (9, false), (10, true), (11, false)] mixed (by kernel_rfl) (by kernel_rfl) ?_
    intro w1 hd hds
    have hu1 : Upd [bt] w0 w1 := Upd.ext hu hd
    have htab : bt ∉ ab := fun h => by have := (habl _ h).1; omega
    have h15ab : b15 ∉ ab := fun h => by have := (habl _ h).1; omega
    have hix : ∀ w', (Instr.indexAt 35 (.slice (some ⟨bt, 0, none⟩) 2 2) (.int .i64 1)).run Try.prog w' = .ok (.pointer (some ⟨bt, 0 + 1 * 1, none⟩)) w' := fun w' => idx_sl (e := 30) (sz := 1) (by kernel_rfl) (by kernel_rfl) bt 0 2 2 1 (by decide) _
    refine RX.qd 8 [(1, true, (.slice (some ⟨bt, 0, none⟩) 2 2)), (3, true, (.slice (some ⟨bt, 0, none⟩) 2 2)), (4, true, (.pointer (some ⟨bt, 0 + 1 * 1, none⟩))), (5, true, v), (7, false, (.int .i64 (5 + (i : Int))))] [(107, (.int .i64 (5 + (i : Int)))), (105, v), (101, (.slice (some ⟨bt, 0, none⟩) 2 2)), (97, .int .i64 (i : Int)), (96, .int .i64 (n : Int)), (9, .pointer (some ⟨b9, 0, none⟩)), (10, .pointer (some ⟨b10, 0, none⟩)), (11, vA), (13, vB), (15, .pointer (some ⟨b15, 0, none⟩))] [.cell ⟨b15, 0, none⟩ (.slice (some ⟨bt, 0, none⟩) 2 2), .cell ⟨b15, 0, none⟩ (.slice (some ⟨bt, 0, none⟩) 2 2), .raw (Instr.indexAt 35 (.slice (some ⟨bt, 0, none⟩) 2 2) (.int .i64 1)) (.pointer (some ⟨bt, 0 + 1 * 1, none⟩)), .cell ⟨bt, 0 + 1 * 1, none⟩ v, .eq (.int .i64 (IntKind.i64.wrap (5 + (i : Int)))) (.int .i64 (5 + (i : Int)))] (by kernel_rfl) ⟨Blk.cell (Ext.blk hd hb15w) rfl, Blk.cell (Ext.blk hd hb15w) rfl, hix _, Blk.cell (Ext.blk hd hb) rfl, int64 (by omega)⟩ ⟨h15ab, h15ab, fun w' _ => hix w', htab, trivial⟩ ?_
    refine RX.newD 108 (.cells #[(.int .i64 (5 + (i : Int)))] 3) (.sl 1) [(107, (.int .i64 (5 + (i : Int)))), (105, v), (101, (.slice (some ⟨bt, 0, none⟩) 2 2)), (97, .int .i64 (i : Int)), (96, .int .i64 (n : Int)), (9, .pointer (some ⟨b9, 0, none⟩)), (10, .pointer (some ⟨b10, 0, none⟩)), (11, vA), (13, vB), (15, .pointer (some ⟨b15, 0, none⟩))] (by kernel_rfl) ?_
    intro bx w2 hn2
    have hs2 := hn2.size; have ha2 := hn2.at_
    have hBx : Blk w2 bx [(.int .i64 (5 + (i : Int)))] 3 := hn2.blk
    have hx2 : Ext w w2 := hd.trans hn2.ext
    have hA2 := hA.ext hx2
    have hsx : Sl 0 w2 (.slice (some ⟨bx, 0, none⟩) 1 1) 1 1 [(.int .i64 (5 + (i : Int)))] := ⟨_, 1, rfl, Nat.le_refl _, rfl, .inr ⟨bx, 0, rfl, Nat.zero_le _, lt_of_blk hBx, fun j u hj => by rw [addr_add, Nat.zero_add]; exact Blk.cell hBx hj⟩⟩
    obtain ⟨v', w3, ab', hr3, hA3, hU3, hab', hs3⟩ := append_run (P := Try.prog) (u := 30) (ty := 30) hT1 (by kernel_rfl) hA2 hsx (fun c hc => by simp at hc; subst hc; rfl) (by omega) (by have := hx2.size; omega)
    obtain ⟨av, cv, rfl⟩ := hA3.shape
    refine RX.runD 109 (Builtin.append_ #[30, 30] 30 #[v, (.slice (some ⟨bx, 0, none⟩) 1 1)]) [(108, (.slice (some ⟨bx, 0, none⟩) 1 1)), (107, (.int .i64 (5 + (i : Int)))), (105, v), (101, (.slice (some ⟨bt, 0, none⟩) 2 2)), (97, .int .i64 (i : Int)), (96, .int .i64 (n : Int)), (9, .pointer (some ⟨b9, 0, none⟩)), (10, .pointer (some ⟨b10, 0, none⟩)), (11, vA), (13, vB), (15, .pointer (some ⟨b15, 0, none⟩))] (by kernel_rfl) hr3 hU3 ?_
    refine RX.qd 1 [(10, true, (.pointer (some ⟨bt, 0 + 1 * 1, none⟩)))] [(109, .slice av (i + 1) cv), (110, (.pointer (some ⟨bt, 0 + 1 * 1, none⟩))), (97, .int .i64 (i : Int)), (96, .int .i64 (n : Int)), (9, .pointer (some ⟨b9, 0, none⟩)), (10, .pointer (some ⟨b10, 0, none⟩)), (11, vA), (13, vB), (15, .pointer (some ⟨b15, 0, none⟩))] [.raw (Instr.indexAt 35 (.slice (some ⟨bt, 0, none⟩) 2 2) (.int .i64 1)) (.pointer (some ⟨bt, 0 + 1 * 1, none⟩))] (by kernel_rfl) (hix _) (fun w' _ => hix w') ?_
    have hb3 : Blk w3 bt [u1, v] tyT := hU3.blk (Ext.blk hx2 hb) htab
    refine RX.store1L bt 1 (.slice av (i + 1) cv) [u1, v] tyT (by kernel_rfl) rfl hb3 (by simp) (by kernel_rfl) ?_
    intro w4 hp
    have hs4 := hp.size
    refine RX.done [(97, .int .i64 (i : Int)), (96, .int .i64 (n : Int)), (9, .pointer (some ⟨b9, 0, none⟩)), (10, .pointer (some ⟨b10, 0, none⟩)), (11, vA), (13, vB), (15, .pointer (some ⟨b15, 0, none⟩))] (by kernel_rfl) (by kernel_rfl) ?_
    refine St.reg K3_21 [(0, true), (1, true)] (by kernel_rfl) (by kernel_rfl) ?_
    refine RX.q 2 [(0, false, .int .i64 ((i : Int) + 1))] [(97, .int .i64 ((i : Int) + 1)), (96, .int .i64 (n : Int)), (9, .pointer (some ⟨b9, 0, none⟩)), (10, .pointer (some ⟨b10, 0, none⟩)), (11, vA), (13, vB), (15, .pointer (some ⟨b15, 0, none⟩))] [.eq (.int .i64 (IntKind.i64.wrap ((i : Int) + 1))) (.int .i64 ((i : Int) + 1))] (by kernel_rfl) (int64 (by omega)) ?_
    refine RX.done [(97, .int .i64 ((i : Int) + 1)), (96, .int .i64 (n : Int)), (9, .pointer (some ⟨b9, 0, none⟩)), (10, .pointer (some ⟨b10, 0, none⟩)), (11, vA), (13, vB), (15, .pointer (some ⟨b15, 0, none⟩))] (by kernel_rfl) (by kernel_rfl) ?_
    have hab3 : ∀ k ∈ ab', w0.heap.size ≤ k := fun k hk => (hA3.lt k hk).1
    have hU4 : Upd [bt] w0 w4 := ((Upd.ext hu hx2).trans_old hU3 (fun k hk => (habl k hk).1)).trans hp.upd
    have hb4 : Blk w4 bt [u1, (.slice av (i + 1) cv)] tyT := hp.blk
    have hA4 := hA3.put hp (fun h => by have := hab3 _ h; omega)
    have exs : ((List.range (i + 1)).map fun (k : Nat) => Value.int .i64 (5 + (k : Int))) = ((List.range i).map fun (k : Nat) => Value.int .i64 (5 + (k : Int))) ++ [(.int .i64 (5 + (i : Int)))] := by rw [List.range_succ, List.map_append]; rfl
    rw [← exs] at hA4
    exact St.weak (by kernel_rfl) (ih _ (by omega) (i + 1) (.slice av (i + 1) cv) ab' w4 (by omega) rfl hU4 hb4 hA4)
  exact St.weak (by kernel_rfl) (loop _ 0 (.slice none 0 0) [] w0 (by omega) rfl (Upd.refl _ _) hBt (Acc.nil _ _ _ _))
end Go.Proofs.Ytbjmmfjfmjdadaa

namespace Go.Proofs.Ytbjmmfjfmjdadaa
set_option linter.all false
open Go

/-- The words of the first text. -/
def txA (n : Nat) : List Int := (List.range n).map fun (k : Nat) => (k : Int)
/-- The words of the second text. -/
def txB (n : Nat) : List Int := (List.range n).map fun (k : Nat) => (5 + (k : Int))
theorem txA_len (n : Nat) : (txA n).length = n := by simp [txA]
theorem txB_len (n : Nat) : (txB n).length = n := by simp [txB]
theorem Acc.cr {lo n : Nat} {w : World} {v : Value} {l : List Int} {ab : List Nat} (h : Acc 3 1 lo w v n (l.map (.int .i64)) ab) (hn : n ≠ 0) (hl : l.length = n) (hn2 : n ≤ 1000000) (hi : ∀ x ∈ l, inR .i64 x) : CR w lo l v := by
  obtain ⟨h1, ⟨_, h2, _⟩ | ⟨b, cap, rest, rfl, rfl, hlo, hc, hr, ty, hB⟩⟩ := h
  · exact absurd h2 hn
  · exact ⟨b, cap, rest, ty, by rw [hl], by omega, hlo, by omega, hi, hB⟩
theorem inR_of {x : Int} (h : 0 ≤ x ∧ x ≤ 10000) : inR .i64 x := by
  constructor
  · have : IntKind.i64.min = -9223372036854775808 := by decide
    omega
  · have : IntKind.i64.max = 9223372036854775807 := by decide
    omega
set_option maxHeartbeats 1000000 in
theorem short_walk {X : Ctx} {df : List Deferred} (b9 b10 b15 n m c9 c10 : Nat) (a9 a10 : Option Addr) (vA vB x1 x2 y0 z1 z2 p1 p2 : Value) (ty9 ty10 ty15 : TypeId) (w0 : World) (hn : 1 ≤ n ∧ n ≤ 1000) (hm : 1 ≤ m ∧ m ≤ 1000)
    (h9 : b9 ≠ b15) (h10 : b10 ≠ b15) (hB9 : Blk w0 b9 [.slice a9 n c9, z1, z2] ty9) (hB10 : Blk w0 b10 [.slice a10 m c10, p1, p2] ty10) (hB15 : Blk w0 b15 [y0, x1, x2] ty15)
    (hk : ∀ bt w, Upd [b15] w0 w → Blk w b15 [.slice (some ⟨bt, 0, none⟩) 2 2, x1, x2] ty15 → w0.heap.size ≤ bt → RowsOK w w0.heap.size [txA n, txB m] bt → St Try.prog X 209 K3_25 [(9, .pointer (some ⟨b9, 0, none⟩)), (10, .pointer (some ⟨b10, 0, none⟩)), (11, vA), (13, vB), (15, .pointer (some ⟨b15, 0, none⟩))] df w) :
    St Try.prog X 209 K3_14 [(9, .pointer (some ⟨b9, 0, none⟩)), (10, .pointer (some ⟨b10, 0, none⟩)), (11, vA), (13, vB), (15, .pointer (some ⟨b15, 0, none⟩))] df w0 := by
  have hb9 := lt_of_blk hB9; have hb10 := lt_of_blk hB10; have hb15 := lt_of_blk hB15
  obtain ⟨-, -, by2, zv, hT2, -⟩ := elemT_of (P := Try.prog) (t := 35) (e := 30) (y := .sl (.int .i64)) (by kernel_rfl)
  have hT2 : ElemT Try.prog 35 30 1 by2 zv := hT2
  have hz : zv = .slice none 0 0 := by
    have h1 := hT2.zero
    have h2 : Sem.pv Try.prog (zeroValue 30) = some (.slice none 0 0) := by kernel_rfl
    rw [h2] at h1
    exact (Option.some.inj h1).symm
  subst hz
  obtain ⟨bt, w1, hr, hn1⟩ := makeSlice_run hT2 2 (by omega) w0
  have hs1 := hn1.size; have ha1 := hn1.at_
  have hBt : Blk w1 bt [.slice none 0 0, .slice none 0 0] 30 := hn1.blk
  refine St.reg K3_15 [(0, false), (1, true), (2, false)] (by kernel_rfl) (by kernel_rfl) ?_
  refine RX.run 75 (Instr.makeSlice 35 (.int .i64 2) (.int .i64 2)) [(9, .pointer (some ⟨b9, 0, none⟩)), (10, .pointer (some ⟨b10, 0, none⟩)), (11, vA), (13, vB), (15, .pointer (some ⟨b15, 0, none⟩))] (by kernel_rfl) hr ?_
  refine RX.q 1 [] [(76, .pointer (some ⟨b15, 0, none⟩)), (75, .slice (some ⟨bt, 0, none⟩) 2 2), (9, .pointer (some ⟨b9, 0, none⟩)), (10, .pointer (some ⟨b10, 0, none⟩)), (11, vA), (13, vB), (15, .pointer (some ⟨b15, 0, none⟩))] [] (by kernel_rfl) trivial ?_
  refine RX.store1 b15 0 (.slice (some ⟨bt, 0, none⟩) 2 2) [y0, x1, x2] ty15 (by kernel_rfl) rfl (Ext.blk hn1.ext hB15) (by simp) ?_
  intro w2 hp
  have hs2 := hp.size
  have hb15t : b15 ≠ bt := by omega
  have hB15' : Blk w2 b15 [.slice (some ⟨bt, 0, none⟩) 2 2, x1, x2] ty15 := hp.blk
  have hBt2 : Blk w2 bt [.slice none 0 0, .slice none 0 0] 30 := hp.upd.blk hBt (by simp; omega)
  have hB9' : Blk w2 b9 [.slice a9 n c9, z1, z2] ty9 := hp.upd.blk (Ext.blk hn1.ext hB9) (by simp [h9])
  have hB10' : Blk w2 b10 [.slice a10 m c10, p1, p2] ty10 := hp.upd.blk (Ext.blk hn1.ext hB10) (by simp [h10])
  have hU2 : Upd [b15] w0 w2 := (hn1.ext.mono (fun k h => by cases h)).trans hp.upd
  refine RX.done [(9, .pointer (some ⟨b9, 0, none⟩)), (10, .pointer (some ⟨b10, 0, none⟩)), (11, vA), (13, vB), (15, .pointer (some ⟨b15, 0, none⟩))] (by kernel_rfl) (by kernel_rfl) ?_
  refine St.reg K3_16 [(0, true), (1, true), (2, true), (3, true)] (by kernel_rfl) (by kernel_rfl) ?_
  refine RX.q 4 [(1, true, (.slice a9 n c9))] [(80, .int .i64 0), (79, .int .i64 (n : Int)), (9, .pointer (some ⟨b9, 0, none⟩)), (10, .pointer (some ⟨b10, 0, none⟩)), (11, vA), (13, vB), (15, .pointer (some ⟨b15, 0, none⟩))] [.cell ⟨b9, 0, none⟩ (.slice a9 n c9)] (by kernel_rfl) (Blk.cell hB9' rfl) ?_
  refine RX.done [(80, .int .i64 0), (79, .int .i64 (n : Int)), (9, .pointer (some ⟨b9, 0, none⟩)), (10, .pointer (some ⟨b10, 0, none⟩)), (11, vA), (13, vB), (15, .pointer (some ⟨b15, 0, none⟩))] (by kernel_rfl) (by kernel_rfl) ?_
  refine short_rows0 b9 b10 b15 bt n vA vB x1 x2 (.slice none 0 0) ty15 30 w2 hn.2 hb15t hB15' hBt2 ?_
  intro v ab w3 hu3 hBt3 hA3
  have hs3 := hu3.size
  have hB10'' : Blk w3 b10 [.slice a10 m c10, p1, p2] ty10 := hu3.blk hB10' (by simp; omega)
  have hB15'' : Blk w3 b15 [.slice (some ⟨bt, 0, none⟩) 2 2, x1, x2] ty15 := hu3.blk hB15' (by simp; omega)
  refine St.reg K3_21 [(0, true), (1, true), (2, true), (3, true)] (by kernel_rfl) (by kernel_rfl) ?_
  refine RX.q 4 [(1, true, (.slice a10 m c10))] [(97, .int .i64 0), (96, .int .i64 (m : Int)), (9, .pointer (some ⟨b9, 0, none⟩)), (10, .pointer (some ⟨b10, 0, none⟩)), (11, vA), (13, vB), (15, .pointer (some ⟨b15, 0, none⟩))] [.cell ⟨b10, 0, none⟩ (.slice a10 m c10)] (by kernel_rfl) (Blk.cell hB10'' rfl) ?_
  refine RX.done [(97, .int .i64 0), (96, .int .i64 (m : Int)), (9, .pointer (some ⟨b9, 0, none⟩)), (10, .pointer (some ⟨b10, 0, none⟩)), (11, vA), (13, vB), (15, .pointer (some ⟨b15, 0, none⟩))] (by kernel_rfl) (by kernel_rfl) ?_
  refine short_rows1 b9 b10 b15 bt m vA vB x1 x2 v ty15 30 w3 hm.2 hb15t hB15'' hBt3 ?_
  intro v' ab' w4 hu4 hBt4 hA4
  have hs4 := hu4.size
  have hu34 : Upd [bt] w2 w4 := hu3.trans hu4
  have hB15F : Blk w4 b15 [.slice (some ⟨bt, 0, none⟩) 2 2, x1, x2] ty15 := hu4.blk hB15'' (by simp; omega)
  have hcr0 : CR w3 w2.heap.size (txA n) v := Acc.cr (by unfold txA; rw [List.map_map]; exact hA3) (by omega) (txA_len n) (by omega) (fun x hx => by
    obtain ⟨k, hk, rfl⟩ := List.mem_map.1 hx
    have := List.mem_range.1 hk
    exact inR_of (by omega))
  have hcr1 : CR w4 w3.heap.size (txB m) v' := Acc.cr (by unfold txB; rw [List.map_map]; exact hA4) (by omega) (txB_len m) (by omega) (fun x hx => by
    obtain ⟨k, hk, rfl⟩ := List.mem_map.1 hx
    have := List.mem_range.1 hk
    exact inR_of (by omega))
  have hlt0 := hcr0.lt
  refine hk bt w4 ?_ hB15F (by omega) ⟨[v, v'], [], 30, hBt4, rfl, fun j hj => ?_⟩
  · exact hU2.trans_old hu34 (fun k h => by simp at h; omega)
  · match j, hj with
    | 0, _ => exact (hcr0.upd hu4 (by rw [List.mem_singleton]; omega)).lo (by omega)
    | 1, _ => exact hcr1.lo (by omega)
    | j + 2, hj => exact absurd hj (by simp only [List.length_cons, List.length_nil]; omega)
end Go.Proofs.Ytbjmmfjfmjdadaa

namespace Go.Proofs.Ytbjmmfjfmjdadaa
set_option linter.all false
open Go

noncomputable abbrev sp_txmade := Tx.sp_made
theorem sp_txmade_ok (N : Nat) : SpecOK Try.prog (sp_txmade N) := Tx.sp_made_ok N
abbrev txmade_S := Tx.made_S
noncomputable abbrev sp_txleast := Tx.sp_least
theorem sp_txleast_ok (N : Nat) : SpecOK Try.prog (sp_txleast N) := Tx.sp_least_ok N
abbrev txleast_S := Tx.least_S
def eshort_l1 (N : Nat) : Nat → (List Int) → (List Int) → Int → Int → (List (Int × (Int × Bool))) → (List (Int × (Int × Int))) → Int → (List (Int × (Int × Bool))) → (List (Int × (Int × Int))) → Int → (List (List Int)) → Int → (List Int) → (List Int) → Option ((List (Int × (Int × Bool))) × (List (Int × (Int × Int))) × Int × (List (Int × (Int × Bool))) × (List (Int × (Int × Int))) × Int × List (List Int) × Int × List Int × List Int)
  | 0, _, _, _, _, _, _, _, _, _, _, _, _, _, _ => none
  | n_ + 1, a, b, u, u2, s, s2, s3, t, t2, t3, x, x2, want, x3 =>
    br (decide (u2 < u))
      (br (decide (u2 < (a.length : Int)))
        (idx a u2 fun x_25 =>
        lim (x3.length + [x_25].length) <|
        lim (want.length + [1].length) <|
        br (decide (u2 < (b.length : Int)))
          (idx b u2 fun x_26 =>
          chk (5 + x_26) <|
          lim ((x3 ++ [x_25]).length + [(5 + x_26)].length) <|
          lim ((want ++ [1]).length + [2].length) <|
          chk (u2 + 1) <|
          eshort_l1 N n_ a b u (u2 + 1) s s2 s3 t t2 t3 x x2 ((want ++ [1]) ++ [2]) ((x3 ++ [x_25]) ++ [(5 + x_26)]))
          (chk (u2 + 1) <|
          eshort_l1 N n_ a b u (u2 + 1) s s2 s3 t t2 t3 x x2 (want ++ [1]) (x3 ++ [x_25])))
        (br (decide (u2 < (b.length : Int)))
          (idx b u2 fun x_27 =>
          chk (5 + x_27) <|
          lim (x3.length + [(5 + x_27)].length) <|
          lim (want.length + [2].length) <|
          chk (u2 + 1) <|
          eshort_l1 N n_ a b u (u2 + 1) s s2 s3 t t2 t3 x x2 (want ++ [2]) (x3 ++ [(5 + x_27)]))
          (chk (u2 + 1) <|
          eshort_l1 N n_ a b u (u2 + 1) s s2 s3 t t2 t3 x x2 want x3)))
      (some ((s, s2, s3, t, t2, t3, x, x2, want, x3)))
def eshort_j2 (N : Nat) (a : List Int) (b : List Int) (s : List (Int × (Int × Bool))) (s2 : List (Int × (Int × Int))) (s3 : Int) (t : List (Int × (Int × Bool))) (t2 : List (Int × (Int × Int))) (t3 : Int) (x : List (List Int)) (x2 : Int) : Option Bool :=
  (eshort_l1 N N a b (max (a.length : Int) (b.length : Int)) 0 s s2 s3 t t2 t3 x x2 [] []).bind fun (s_28, s2_29, s3_30, t_31, t2_32, t3_33, x_34, x2_35, want_36, x3_37) =>
  (least_S N x_34 x3_37 x2_35 0 1).bind fun (x_38, y_39) =>
  (sure_S N x_34 x3_37 x2_35 0 1).bind fun (x_40, y_41) =>
  (count_S N x_34 x3_37 x2_35 0 1).bind fun (x_42, y_43) =>
  br (decide (y_39 = 0))
    (br (decide (y_41 = 0))
      (br (decide (y_43 = 0))
        (chk ((s_28.length : Int) + (t_31.length : Int)) <|
        chk (((s_28.length : Int) + (t_31.length : Int)) - (x3_37.length : Int)) <|
        br (decide (x_38 = (((s_28.length : Int) + (t_31.length : Int)) - (x3_37.length : Int))))
          (br (decide (x_42 = 1))
            ((likes_S N x_40 want_36).bind fun x_44 =>
            br x_44
              ((awake_S N).bind fun x_45 =>
              some x_45)
              (some false))
            (some false))
          (some false))
        (some false))
      (some false))
    (some false)
def eshort_j1 (N : Nat) (a : List Int) (b : List Int) (s : List (Int × (Int × Bool))) (s2 : List (Int × (Int × Int))) (s3 : Int) (t : List (Int × (Int × Bool))) (t2 : List (Int × (Int × Int))) (t3 : Int) (x : Int) : Option Bool :=
  if (1 ≤ s.length ∧ s.length ≤ 1000) ∧ 1 ≤ t.length ∧ t.length ≤ 1000 then
    eshort_j2 N a b s s2 s3 t t2 t3 [txA s.length, txB t.length] x
  else none
def eshort_S (N : Nat) (numbers : List Int) (others : List Int) (one : Int) (two : Int) : Option Bool :=
  (hang_S N numbers).bind fun (x_1, y_2, y_3) =>
  (txmade_S N 5 2 x_1 y_2 y_3).bind fun (x_4, y_5, y_6, y_7, y_8, y_9) =>
  (hang_S N others).bind fun (x_10, y_11, y_12) =>
  (txmade_S N 5 2 x_10 y_11 y_12).bind fun (x_13, y_14, y_15, y_16, y_17, y_18) =>
  (txleast_S N x_4 y_5 y_6 (Int.tmod (IntKind.i64.wrap one) 20)).bind fun (x_19, y_20) =>
  (txleast_S N x_13 y_14 y_15 (Int.tmod (IntKind.i64.wrap two) 20)).bind fun (x_21, y_22) =>
  br (decide (y_20 = 6))
    ((awake_S N).bind fun x_23 =>
    some x_23)
    (br (decide (y_22 = 6))
      ((awake_S N).bind fun x_24 =>
      some x_24)
      (br (!decide (y_20 = 0))
        (some false)
        (br (!decide (y_22 = 0))
          (some false)
          (br (decide ((x_4.length : Int) < (x_19.length : Int)))
            (some false)
            (br (decide ((x_13.length : Int) < (x_21.length : Int)))
              (some false)
              (eshort_j1 N x_19 x_21 x_4 y_5 y_6 x_13 y_14 y_15 0))))))
noncomputable def eshort_sp (N : Nat) : List Spec := [sp_hang N, sp_least N, sp_count N, sp_sure N, sp_likes N, sp_awake N, sp_txmade N, sp_txleast N]
theorem eshort_all (N : Nat) : AllP (SpecOK Try.prog) (eshort_sp N) := ⟨sp_hang_ok N, sp_least_ok N, sp_count_ok N, sp_sure_ok N, sp_likes_ok N, sp_awake_ok N, sp_txmade_ok N, sp_txleast_ok N, trivial⟩
noncomputable def eshort_c : Code := (Try.f3.body).getD .skip
noncomputable abbrev eshort_B : Body := { c := eshort_c, n := 209, res := [.tmp 8], outs := [⟨[.b], []⟩], m0 := 0 }
abbrev eshort_rt : altD eshort_B.outs → Option Bool := fun r => some r.1.1
abbrev eshort_l1_at : List PI := [.c [1, 1, 1, 1, 1, 1, 1, 1, 1, 1, 1, 1, 0, 1, 0, 0, 0], .c [1, 1, 1, 1, 1, 1, 1, 1, 1, 1, 1, 1, 0, 1, 0, 0, 1], .l [1, 1, 1, 1, 1, 1, 1, 1, 1, 1, 1, 1, 0, 1, 0, 0], .b 4, .c [1, 1, 1, 1, 1, 1, 1, 1, 1, 1, 1, 1, 1]]
abbrev eshort_l1_st : Sta := ⟨[9, 10, 11, 13, 15, 18, 116, 117], ⟨[.own 0 0, .own 1 0, .sl (.int .i64), .sl (.int .i64), .own 2 0, .ols 3, .i .i64, .i .i64], [.segs [.sl (.pair (.int .i64) (.pair (.int .i64) .bool)), .sl (.pair (.int .i64) (.pair (.int .i64) (.int .i64))), .i .i64], .segs [.sl (.pair (.int .i64) (.pair (.int .i64) .bool)), .sl (.pair (.int .i64) (.pair (.int .i64) (.int .i64))), .i .i64], .segs [.sl (.sl (.int .i64)), .ols 4, .i .i64], .lst (.int .i64), .lst (.int .i64)]⟩⟩
abbrev eshort_l1_h (rec : (List Int) → (List Int) → Int → Int → (List (Int × (Int × Bool))) → (List (Int × (Int × Int))) → Int → (List (Int × (Int × Bool))) → (List (Int × (Int × Int))) → Int → (List (List Int)) → Int → (List Int) → (List Int) → Option ((List (Int × (Int × Bool))) × (List (Int × (Int × Int))) × Int × (List (Int × (Int × Bool))) × (List (Int × (Int × Int))) × Int × List (List Int) × Int × List Int × List Int)) : Leaf ((List (Int × (Int × Bool))) × (List (Int × (Int × Int))) × Int × (List (Int × (Int × Bool))) × (List (Int × (Int × Int))) × Int × List (List Int) × Int × List Int × List Int) := ⟨eshort_l1_at, eshort_l1_st, fun p => rec p.1.2.2.1 p.1.2.2.2.1 p.1.2.2.2.2.2.2.1 p.1.2.2.2.2.2.2.2.1 p.2.1.1 p.2.1.2.1 p.2.1.2.2.1 p.2.2.1.1 p.2.2.1.2.1 p.2.2.1.2.2.1 p.2.2.2.1.1 p.2.2.2.1.2.2.1 p.2.2.2.2.1 p.2.2.2.2.2.1⟩
abbrev eshort_l1_e0 : Leaf ((List (Int × (Int × Bool))) × (List (Int × (Int × Int))) × Int × (List (Int × (Int × Bool))) × (List (Int × (Int × Int))) × Int × List (List Int) × Int × List Int × List Int) := ⟨[.c [1, 1, 1, 1, 1, 1, 1, 1, 1, 1, 1, 1, 1, 0], .c [1, 1, 1, 1, 1, 1, 1, 1, 1, 1, 1, 1, 1, 1]], ⟨[9, 10, 15, 18], ⟨[.own 0 0, .own 1 0, .own 2 0, .ols 3], [.segs [.sl (.pair (.int .i64) (.pair (.int .i64) .bool)), .sl (.pair (.int .i64) (.pair (.int .i64) (.int .i64))), .i .i64], .segs [.sl (.pair (.int .i64) (.pair (.int .i64) .bool)), .sl (.pair (.int .i64) (.pair (.int .i64) (.int .i64))), .i .i64], .segs [.sl (.sl (.int .i64)), .ols 4, .i .i64], .lst (.int .i64), .lst (.int .i64)]⟩⟩, fun p => some ((p.2.1.1, p.2.1.2.1, p.2.1.2.2.1, p.2.2.1.1, p.2.2.1.2.1, p.2.2.1.2.2.1, p.2.2.2.1.1, p.2.2.2.1.2.2.1, p.2.2.2.2.1, p.2.2.2.2.2.1))⟩
noncomputable def eshort_l1_L (N : Nat) : LoopS := { at_ := eshort_l1_at, sta := eshort_l1_st, exits := [([.c [1, 1, 1, 1, 1, 1, 1, 1, 1, 1, 1, 1, 1, 0], .c [1, 1, 1, 1, 1, 1, 1, 1, 1, 1, 1, 1, 1, 1]], ⟨[9, 10, 15, 18], ⟨[.own 0 0, .own 1 0, .own 2 0, .ols 3], [.segs [.sl (.pair (.int .i64) (.pair (.int .i64) .bool)), .sl (.pair (.int .i64) (.pair (.int .i64) (.int .i64))), .i .i64], .segs [.sl (.pair (.int .i64) (.pair (.int .i64) .bool)), .sl (.pair (.int .i64) (.pair (.int .i64) (.int .i64))), .i .i64], .segs [.sl (.sl (.int .i64)), .ols 4, .i .i64], .lst (.int .i64), .lst (.int .i64)]⟩⟩)], run := fun p k => (eshort_l1 N N p.1.2.2.1 p.1.2.2.2.1 p.1.2.2.2.2.2.2.1 p.1.2.2.2.2.2.2.2.1 p.2.1.1 p.2.1.2.1 p.2.1.2.2.1 p.2.2.1.1 p.2.2.1.2.1 p.2.2.1.2.2.1 p.2.2.2.1.1 p.2.2.2.1.2.2.1 p.2.2.2.2.1 p.2.2.2.2.2.1).bind fun e => k (.inl (((), (), (), (), ()), ((e.1, e.2.1, e.2.2.1, ()), (e.2.2.2.1, e.2.2.2.2.1, e.2.2.2.2.2.1, ()), (e.2.2.2.2.2.2.1, (), e.2.2.2.2.2.2.2.1, ()), e.2.2.2.2.2.2.2.2.1, e.2.2.2.2.2.2.2.2.2, ()))) }
theorem eshort_l1_eq (N n_ : Nat) (a : List Int) (b : List Int) (u : Int) (u2 : Int) (s : List (Int × (Int × Bool))) (s2 : List (Int × (Int × Int))) (s3 : Int) (t : List (Int × (Int × Bool))) (t2 : List (Int × (Int × Int))) (t3 : Int) (x : List (List Int)) (x2 : Int) (want : List Int) (x3 : List Int) : ev (Z := (List (Int × (Int × Bool))) × (List (Int × (Int × Int))) × Int × (List (Int × (Int × Bool))) × (List (Int × (Int × Int))) × Int × List (List Int) × Int × List Int × List Int) Try.prog (eshort_sp N) eshort_B [] [eshort_l1_h (eshort_l1 N n_), eshort_l1_e0] none 400 true eshort_l1_at (stL eshort_l1_st (((), (), a, b, (), (), u, u2, ()), ((s, s2, s3, ()), (t, t2, t3, ()), (x, (), x2, ()), want, x3, ()))) (stH eshort_l1_st (((), (), a, b, (), (), u, u2, ()), ((s, s2, s3, ()), (t, t2, t3, ()), (x, (), x2, ()), want, x3, ()))) = eshort_l1 N (n_ + 1) a b u u2 s s2 s3 t t2 t3 x x2 want x3 := by kernel_rfl
theorem eshort_l1_ok (N : Nat) {top : Bool} : LoopOK Try.prog eshort_B.c eshort_B.n eshort_B.m0 top (eshort_l1_L N) := loop_of_ev (Z := (List (Int × (Int × Bool))) × (List (Int × (Int × Int))) × Int × (List (Int × (Int × Bool))) × (List (Int × (Int × Int))) × Int × List (List Int) × Int × List Int × List Int) (N := N) (fun m p => eshort_l1 N m p.1.2.2.1 p.1.2.2.2.1 p.1.2.2.2.2.2.2.1 p.1.2.2.2.2.2.2.2.1 p.2.1.1 p.2.1.2.1 p.2.1.2.2.1 p.2.2.1.1 p.2.2.1.2.1 p.2.2.1.2.2.1 p.2.2.2.1.1 p.2.2.2.1.2.2.1 p.2.2.2.2.1 p.2.2.2.2.2.1) (fun e => .inl (((), (), (), (), ()), ((e.1, e.2.1, e.2.2.1, ()), (e.2.2.2.1, e.2.2.2.2.1, e.2.2.2.2.2.1, ()), (e.2.2.2.2.2.2.1, (), e.2.2.2.2.2.2.2.1, ()), e.2.2.2.2.2.2.2.2.1, e.2.2.2.2.2.2.2.2.2, ()))) (fun _ _ _ => rfl) (fun _ => rfl) (fun m z E Xc hE hX hrec hx => leaf_of_ev (B := eshort_B) (loops := []) (leaves := [eshort_l1_h (eshort_l1 N m), eshort_l1_e0]) (eshort_all N) mixed trivial hE hX ⟨hrec, (fun p hp => by obtain rfl := Option.some.inj hp; exact hx), trivial⟩ RetOK.no (fun p => eshort_l1_eq N m p.1.2.2.1 p.1.2.2.2.1 p.1.2.2.2.2.2.2.1 p.1.2.2.2.2.2.2.2.1 p.2.1.1 p.2.1.2.1 p.2.1.2.2.1 p.2.2.1.1 p.2.2.1.2.1 p.2.2.1.2.2.1 p.2.2.2.1.1 p.2.2.2.1.2.2.1 p.2.2.2.2.1 p.2.2.2.2.2.1))
abbrev eshort_j2_at : List PI := [.c [1, 1, 1, 1, 1, 1, 1, 1, 1, 1, 1, 0], .c [1, 1, 1, 1, 1, 1, 1, 1, 1, 1, 1, 1]]
abbrev eshort_j2_st : Sta := ⟨[9, 10, 11, 13, 15], ⟨[.own 0 0, .own 1 0, .sl (.int .i64), .sl (.int .i64), .own 2 0], [.segs [.sl (.pair (.int .i64) (.pair (.int .i64) .bool)), .sl (.pair (.int .i64) (.pair (.int .i64) (.int .i64))), .i .i64], .segs [.sl (.pair (.int .i64) (.pair (.int .i64) .bool)), .sl (.pair (.int .i64) (.pair (.int .i64) (.int .i64))), .i .i64], .segs [.sl (.sl (.int .i64)), .nils, .i .i64]]⟩⟩
abbrev eshort_j2_k (N : Nat) : Leaf Bool := ⟨eshort_j2_at, eshort_j2_st, fun p => eshort_j2 N p.1.2.2.1 p.1.2.2.2.1 p.2.1.1 p.2.1.2.1 p.2.1.2.2.1 p.2.2.1.1 p.2.2.1.2.1 p.2.2.1.2.2.1 p.2.2.2.1.1 p.2.2.2.1.2.2.1⟩
theorem eshort_j2_eq (N : Nat) (a : List Int) (b : List Int) (s : List (Int × (Int × Bool))) (s2 : List (Int × (Int × Int))) (s3 : Int) (t : List (Int × (Int × Bool))) (t2 : List (Int × (Int × Int))) (t3 : Int) (x : List (List Int)) (x2 : Int) : ev (Z := Bool) Try.prog (eshort_sp N) eshort_B [eshort_l1_L N] [] (some eshort_rt) 400 true eshort_j2_at (stL eshort_j2_st (((), (), a, b, (), ()), ((s, s2, s3, ()), (t, t2, t3, ()), (x, (), x2, ()), ()))) (stH eshort_j2_st (((), (), a, b, (), ()), ((s, s2, s3, ()), (t, t2, t3, ()), (x, (), x2, ()), ()))) = eshort_j2 N a b s s2 s3 t t2 t3 x x2 := by kernel_rfl
theorem eshort_j2_lf (N : Nat) {z : Bool} {E : EE} {Xc : Ctx} (hE : EOK eshort_B.m0 E) (hX : CxOK true Xc) (hret : RetOK Try.prog eshort_B E Xc z (some eshort_rt)) : LeafOK Try.prog eshort_B.c eshort_B.n eshort_B.m0 E Xc z (eshort_j2_k N) := leaf_of_ev (B := eshort_B) (loops := [eshort_l1_L N]) (leaves := []) (eshort_all N) mixed ⟨eshort_l1_ok N, trivial⟩ hE hX trivial hret (fun p => eshort_j2_eq N p.1.2.2.1 p.1.2.2.2.1 p.2.1.1 p.2.1.2.1 p.2.1.2.2.1 p.2.2.1.1 p.2.2.1.2.1 p.2.2.1.2.2.1 p.2.2.2.1.1 p.2.2.2.1.2.2.1)
abbrev eshort_j1_at : List PI := [.c [1, 1, 1, 1, 1, 1, 1, 1, 0], .c [1, 1, 1, 1, 1, 1, 1, 1, 1]]
abbrev eshort_j1_st : Sta := ⟨[9, 10, 11, 13, 15], ⟨[.own 0 0, .own 1 0, .sl (.int .i64), .sl (.int .i64), .own 2 0], [.segs [.sl (.pair (.int .i64) (.pair (.int .i64) .bool)), .sl (.pair (.int .i64) (.pair (.int .i64) (.int .i64))), .i .i64], .segs [.sl (.pair (.int .i64) (.pair (.int .i64) .bool)), .sl (.pair (.int .i64) (.pair (.int .i64) (.int .i64))), .i .i64], .segs [.nils, .nils, .i .i64]]⟩⟩
abbrev eshort_j1_k (N : Nat) : Leaf Bool := ⟨eshort_j1_at, eshort_j1_st, fun p => eshort_j1 N p.1.2.2.1 p.1.2.2.2.1 p.2.1.1 p.2.1.2.1 p.2.1.2.2.1 p.2.2.1.1 p.2.2.1.2.1 p.2.2.1.2.2.1 p.2.2.2.1.2.2.1⟩
theorem eshort_j1_lf (N : Nat) {z : Bool} {E : EE} {Xc : Ctx} (hE : EOK eshort_B.m0 E) (hX : CxOK true Xc) (hret : RetOK Try.prog eshort_B E Xc z (some eshort_rt)) : LeafOK Try.prog eshort_B.c eshort_B.n eshort_B.m0 E Xc z (eshort_j1_k N) := by
  rintro ⟨⟨u1, u2, A, B, u3, u4⟩, ⟨s, s2, s3, u5⟩, ⟨t, t2, t3, u6⟩, ⟨v1, v2, x, v3⟩, v4⟩ hfn a w hS
  have hfn : eshort_j1 N A B s s2 s3 t t2 t3 x = some z := hfn
  unfold eshort_j1 at hfn
  split at hfn
  rotate_left
  · cases hfn
  rename_i hc
  obtain ⟨hn, hm'⟩ := hc
  obtain ⟨⟨g, hs, htm, hi, he⟩, hsz, hm⟩ := hS
  have h9 : RepV g (.own 0 0) (a.tmps.getD 9 undef) := htm 9 _ rfl
  have h10 : RepV g (.own 1 0) (a.tmps.getD 10 undef) := htm 10 _ rfl
  have h11 : RepV g (.sl (.int .i64) A) (a.tmps.getD 11 undef) := htm 11 _ rfl
  have h13 : RepV g (.sl (.int .i64) B) (a.tmps.getD 13 undef) := htm 13 _ rfl
  have h15 : RepV g (.own 2 0) (a.tmps.getD 15 undef) := htm 15 _ rfl
  have hB0 : RepBlk g w 0 (.segs [.sl (.pair (.int .i64) (.pair (.int .i64) .bool)) s, .sl (.pair (.int .i64) (.pair (.int .i64) (.int .i64))) s2, .i .i64 s3]) := hs.blk 0 _ rfl
  have hB1 : RepBlk g w 1 (.segs [.sl (.pair (.int .i64) (.pair (.int .i64) .bool)) t, .sl (.pair (.int .i64) (.pair (.int .i64) (.int .i64))) t2, .i .i64 t3]) := hs.blk 1 _ rfl
  have hB2 : RepBlk g w 2 (.segs [.nils, .nils, .i .i64 x]) := hs.blk 2 _ rfl
  have hdis : ∀ i j b ci ni cj nj, i < 3 → j < 3 → g.ρ i = some (some (b, ci, ni)) → g.ρ j = some (some (b, cj, nj)) → i = j := fun i j b ci ni cj nj hi hj e1 e2 => by
    have hk : ∀ i, i < 3 → ∃ k, (stH eshort_j1_st ((u1, u2, A, B, u3, u4), (s, s2, s3, u5), (t, t2, t3, u6), (v1, v2, x, v3), v4))[i]? = some k ∧ k.mut = true := fun i hi => by
      match i, hi with
      | 0, _ => exact ⟨_, rfl, rfl⟩
      | 1, _ => exact ⟨_, rfl, rfl⟩
      | 2, _ => exact ⟨_, rfl, rfl⟩
    obtain ⟨ki, x1, x2⟩ := hk i hi
    obtain ⟨kj, y1, y2⟩ := hk j hj
    exact hs.inj i j ki kj b ci ni cj nj x1 y1 x2 y2 e1 e2
  simp only [RepV] at h9 h10 h15
  obtain ⟨b0, c0, n0, us0, ty0, e0, hb0, hp0, hm0⟩ := hB0
  obtain ⟨b1, c1, n1, us1, ty1, e1, hb1, hp1, hm1⟩ := hB1
  obtain ⟨b2, c2, n2, us2, ty2, e2, hb2, hp2, hm2⟩ := hB2
  obtain ⟨_, _, _, e9, h9⟩ := h9
  rw [e0] at e9; cases e9
  obtain ⟨_, _, _, e10, h10⟩ := h10
  rw [e1] at e10; cases e10
  obtain ⟨_, _, _, e15, h15⟩ := h15
  rw [e2] at e15; cases e15
  have hq0 := hp0
  have hq1 := hp1
  simp only [RepPs, PartOf, RepV] at hq0 hq1 hp2
  obtain ⟨_, _, rfl, ⟨xW, rfl, hxW⟩, _, _, rfl, ⟨xT, rfl, hxT⟩, _, _, rfl, ⟨xB, rfl, hxB⟩, rfl⟩ := hq0
  obtain ⟨_, _, rfl, ⟨yW, rfl, hyW⟩, _, _, rfl, ⟨yT, rfl, hyT⟩, _, _, rfl, ⟨yB, rfl, hyB⟩, rfl⟩ := hq1
  obtain ⟨_, _, rfl, ⟨zT, rfl, hzT⟩, _, _, rfl, ⟨zH, rfl, hzH⟩, _, _, rfl, ⟨zF, rfl, hzF⟩, rfl⟩ := hp2
  obtain ⟨a0, k0, rfl⟩ : ∃ a0 k0, xW = .slice a0 s.length k0 := by
    obtain ⟨-, x, y, e, -⟩ := hxW
    exact ⟨x, y, e⟩
  obtain ⟨a1, k1, rfl⟩ : ∃ a1 k1, yW = .slice a1 t.length k1 := by
    obtain ⟨-, x, y, e, -⟩ := hyW
    exact ⟨x, y, e⟩
  have hlt0 := lt_of_blk hb0
  have hlt1 := lt_of_blk hb1
  have hlt2 := lt_of_blk hb2
  have h02 : b0 ≠ b2 := fun e => by
    subst e
    have := hdis 0 2 _ _ _ _ _ (by omega) (by omega) e0 e2
    omega
  have h12 : b1 ≠ b2 := fun e => by
    subst e
    have := hdis 1 2 _ _ _ _ _ (by omega) (by omega) e1 e2
    omega
  have hMw : ∀ b o, g.M b = some o → b ≠ b2 ∧ w.heap[b]? = some o := fun b o h => ⟨fun e => (by rw [e, hm2] at h; cases h), hs.mem b o h⟩
  have hwalk := short_walk (X := Xc) (df := a.defers) b0 b1 b2 s.length t.length k0 k1 a0 a1 (a.tmps.getD 11 undef) (a.tmps.getD 13 undef) zH zF zT xT xB yT yB ty0 ty1 ty2 w hn hm' h02 h12 hb0 hb1 hb2 (fun bt w' hu hb hlo hRF => ?_)
  · have e : (eshort_j1_k N).at_.map (itm eshort_B.c) = K3_14 := by kernel_rfl
    rw [e]
    refine St.toAt (tm := a.tmps) hwalk ⟨hsz, has_mem _ (fun x hx => ?_)⟩
    simp only [List.mem_cons, List.not_mem_nil, or_false] at hx
    rcases hx with rfl | rfl | rfl | rfl | rfl
    · exact h9
    · exact h10
    · rfl
    · rfl
    · exact h15
  · intro tm htm'
    have e : (eshort_j2_k N).at_.map (itm eshort_B.c) = K3_25 := by kernel_rfl
    rw [← e]
    have hge : GE g ⟨g.ρ, frzM g.M [] w.heap.size w'⟩ := ⟨fun _ _ h => h, frzM_mono⟩
    have hMlt : ∀ b o, g.M b = some o → b < w.heap.size := fun b o h => lt_of_blk (hs.mem b o h)
    have hMbt : g.M bt = none := by
      cases e : g.M bt with
      | none => rfl
      | some o => have := hMlt bt o e; omega
    have hrepT := RowsOK.rep (S := []) (c := 2) hRF hMlt hMbt (.inr hlo) (by simp) (by simp)
    refine eshort_j2_lf N hE hX hret (((), (), A, B, (), ()), ((s, s2, s3, ()), (t, t2, t3, ()), ([txA s.length, txB t.length], (), x, ()), ())) hfn _ _ ⟨⟨⟨g.ρ, frzM g.M [] w.heap.size w'⟩, ⟨fun b o h => ?_, fun id k hk => ?_, fun i j ki kj b ci ni cj nj x1 y1 x2 y2 z1 z2 => ?_⟩, ?_, fun i hi' => hi i hi', ?_⟩, htm'.1, hm⟩
    · rcases frzM_inv h with h | ⟨_, _, h, _⟩
      · exact hu.blk (hs.mem b o h) (by simp [(hMw b o h).1])
      · exact h
    · match id, hk with
      | 0, hk =>
        cases hk
        exact ⟨b0, c0, n0, _, ty0, e0, hu.blk hb0 (by simp [h02]), RepPs.mono hge _ _ hp0, frzM_none hm0 (by simp) hlt0⟩
      | 1, hk =>
        cases hk
        exact ⟨b1, c1, n1, _, ty1, e1, hu.blk hb1 (by simp [h12]), RepPs.mono hge _ _ hp1, frzM_none hm1 (by simp) hlt1⟩
      | 2, hk =>
        cases hk
        exact ⟨b2, c2, n2, _, ty2, e2, hb, ⟨_, _, rfl, ⟨_, rfl, hrepT⟩, _, _, rfl, ⟨_, rfl, hzH⟩, _, _, rfl, ⟨_, rfl, hzF⟩, rfl⟩, frzM_none hm2 (by simp) hlt2⟩
      | n + 3, hk => cases hk
    · have hlt : ∀ i k, (stH eshort_j2_st (((), (), A, B, (), ()), ((s, s2, s3, ()), (t, t2, t3, ()), ([txA s.length, txB t.length], (), x, ()), ())))[i]? = some k → k.mut = true → i < 3 := fun i k h1 h2 => by
        match i, h1 with
        | 0, _ => omega
        | 1, _ => omega
        | 2, _ => omega
        | n + 3, h => cases h
      exact hdis i j _ _ _ _ _ (hlt i ki x1 x2) (hlt j kj y1 y2) z1 z2
    · exact zip_tmF [9, 10, 11, 13, 15] _ ⟨_, _, rfl, ⟨b0, c0, n0, e0, htm'.2 9 _ rfl⟩, _, _, rfl, ⟨b1, c1, n1, e1, htm'.2 10 _ rfl⟩, _, _, rfl, (by show RepV _ (.sl (.int .i64) A) (tm.getD 11 undef); rw [htm'.2 11 _ rfl]; exact RepV.mono hge (.sl (.int .i64) A) _ h11), _, _, rfl, (by show RepV _ (.sl (.int .i64) B) (tm.getD 13 undef); rw [htm'.2 13 _ rfl]; exact RepV.mono hge (.sl (.int .i64) B) _ h13), _, _, rfl, ⟨b2, c2, n2, e2, htm'.2 15 _ rfl⟩, rfl⟩
    · have hSw : ∀ b ∈ [b2], Sw g (fun i => (stH eshort_j1_st ((u1, u2, A, B, u3, u4), (s, s2, s3, u5), (t, t2, t3, u6), (v1, v2, x, v3), v4))[i]?) [2] b := fun b hb => by
        simp only [List.mem_singleton] at hb
        subst hb
        exact ⟨2, by simp, _, c2, n2, rfl, rfl, e2⟩
      refine hE.step (nw := fun _ => False) (wr := [2]) (fun _ h => h.elim) hs ⟨hu.os, hu.tape, hu.output, hu.size, fun b hb hn => hu.same b hb (fun h => hn (hSw b h)), hge, fun id h0 h1 => absurd h0 h1, fun id b c n h0 h1 => (by rw [h0] at h1; cases h1), fun b o h => ?_⟩ he
      rcases frzM_inv h with h | ⟨x1, x2, x3, x4⟩
      · exact .inl h
      · exact .inr ⟨x1, .inl (by rcases x2 with h | h; cases h; exact h), x4⟩

abbrev eshort_st : Sta := ⟨[0, 1, 2, 3], ⟨[.sl (.int .u8), .sl (.int .u8), .i .u8, .i .u8], []⟩⟩
theorem eshort_eq (N : Nat) (numbers : List Int) (others : List Int) (one : Int) (two : Int) : ev (Z := Bool) Try.prog (eshort_sp N) eshort_B [eshort_l1_L N] [eshort_j1_k N] (some eshort_rt) 400 false [.c [0], .c [1]] (stL eshort_st ((numbers, others, one, two, ()), ())) (stH eshort_st ((numbers, others, one, two, ()), ())) = eshort_S N numbers others one two := by kernel_rfl
noncomputable def sp_eshort (N : Nat) : Spec := { f := 3, ins := ⟨[.sl (.int .u8), .sl (.int .u8), .i .u8, .i .u8], []⟩, outs := [⟨[.b], []⟩], run := fun p k => (eshort_S N p.1.1 p.1.2.1 p.1.2.2.1 p.1.2.2.2.1).bind fun r => k ((r, ()), ()) }
theorem sp_eshort_ok (N : Nat) : SpecOK Try.prog (sp_eshort N) := fn_sound (B := eshort_B) (loops := [eshort_l1_L N]) (leaves := [eshort_j1_k N]) (fun p => eshort_S N p.1.1 p.1.2.1 p.1.2.2.1 p.1.2.2.2.1) (fun r => ((r, ()), ())) eshort_rt (fun _ _ _ => rfl) (fun r z h => by cases h; rfl) Try.func3 (by kernel_rfl) (by kernel_rfl) (by kernel_rfl) rfl rfl (by kernel_rfl) (fun args w => Sem.pv_run _ _ _ (by kernel_rfl) w) (eshort_all N) mixed ⟨eshort_l1_ok N, trivial⟩ (fun z E Xc hE hX hret => ⟨eshort_j1_lf N hE hX hret, trivial⟩) (fun p => eshort_eq N p.1.1 p.1.2.1 p.1.2.2.1 p.1.2.2.2.1)

end Go.Proofs.Ytbjmmfjfmjdadaa

namespace Go.Proofs.Ytbjmmfjfmjdadaa
set_option linter.all false
open Go

section
variable {N : Nat}
theorem txA_get {n j : Nat} (h : j < n) : (txA n).getD j 0 = j := by simp [txA, List.getD, h]
theorem txB_get {n j : Nat} (h : j < n) : (txB n).getD j 0 = 5 + (j : Int) := by simp [txB, List.getD, h]
theorem standsL_none {l : List Int} {w : Int} {i : Nat} (h : ∀ j, i ≤ j → j < l.length → l.getD j 0 ≠ w) : standsL l w i = [] := by
  apply List.eq_nil_iff_forall_not_mem.2
  intro j hj
  obtain ⟨h1, h2, h3⟩ := mem_standsL.1 hj
  exact h j h1 h2 h3
theorem filter_one : ∀ (c i x : Nat), i ≤ x → x < i + c → (List.range' i c).filter (fun j => j == x) = [x]
  | 0, i, x, h1, h2 => by omega
  | c + 1, i, x, h1, h2 => by
    rw [List.range'_succ, List.filter_cons]
    by_cases e : i = x
    · subst e
      rw [if_pos (by simp)]
      congr 1
      rw [List.filter_eq_nil_iff]
      intro j hj
      have := List.mem_range'_1.1 hj
      simp; omega
    · rw [if_neg (by simpa using e)]
      exact filter_one c (i + 1) x (by omega) (by omega)
theorem standsL_one {l : List Int} {w : Int} {i x : Nat} (h1 : i ≤ x) (h2 : x < l.length) (h : ∀ j, i ≤ j → j < l.length → (l.getD j 0 = w ↔ j = x)) : standsL l w i = [x] := by
  unfold standsL
  rw [← filter_one (l.length - i) i x h1 (by omega)]
  apply List.filter_congr
  intro j hj
  have hj := List.mem_range'_1.1 hj
  rw [Bool.eq_iff_iff, beq_iff_eq, beq_iff_eq]
  exact h j hj.1 (by omega)
/-- Words of both texts, in the order of both, and of which text each is. -/
inductive Mx (n m : Nat) : Nat → Nat → List Int → List Int → Prop where
  | nil (i k : Nat) : Mx n m i k [] []
  | a {i k x : Nat} {L W : List Int} (h1 : i ≤ x) (h2 : x < n) (h : Mx n m (x + 1) k L W) : Mx n m i k ((x : Int) :: L) (1 :: W)
  | b {i k y : Nat} {L W : List Int} (h1 : k ≤ y) (h2 : y < m) (h : Mx n m i (y + 1) L W) : Mx n m i k ((5 + (y : Int)) :: L) (2 :: W)
theorem Mx.len {n m i k : Nat} {L W : List Int} (h : Mx n m i k L W) : W.length = L.length := by
  induction h with
  | nil => rfl
  | a _ _ _ ih => simp [ih]
  | b _ _ _ ih => simp [ih]
theorem Mx.moves {n m i k : Nat} {w s : Int} {L W : List Int} (hn : n ≤ 5) (h : Mx n m i k (w :: L) (s :: W)) (hh : Nat) : ∃ (p : Int) (y : At3), movesL (txA n) (txB m) w (hh, i, k) = [((3, 0), (hh + 1, i, k)), ((s, p), y)] ∧ y.1 = hh + 1 ∧ s ≠ 3 ∧ Mx n m y.2.1 y.2.2 L W := by
  cases h with
  | @a _ _ x _ _ h1 h2 h =>
    have e1 : standsL (txA n) (x : Int) i = [x] := standsL_one h1 (by rw [txA_len]; exact h2) (fun j _ hj => by
      rw [txA_len] at hj
      rw [txA_get hj]; omega)
    have e2 : standsL (txB m) (x : Int) k = [] := standsL_none (fun j _ hj => by
      rw [txB_len] at hj
      rw [txB_get hj]; omega)
    refine ⟨(x : Int), (hh + 1, x + 1, k), ?_, rfl, by decide, h⟩
    unfold movesL
    dsimp only
    rw [e1, e2]; rfl
  | @b _ _ y _ _ h1 h2 h =>
    have e1 : standsL (txA n) (5 + (y : Int)) i = [] := standsL_none (fun j _ hj => by
      rw [txA_len] at hj
      rw [txA_get hj]; omega)
    have e2 : standsL (txB m) (5 + (y : Int)) k = [y] := standsL_one h1 (by rw [txB_len]; exact h2) (fun j _ hj => by
      rw [txB_len] at hj
      rw [txB_get hj]; omega)
    refine ⟨(y : Int), (hh + 1, i, y + 1), ?_, rfl, by decide, h⟩
    unfold movesL
    dsimp only
    rw [e1, e2]; rfl
theorem Mx.drop {H : List Int} {h : Nat} {w : Int} {L : List Int} (e : H.drop h = w :: L) : H.getD h 0 = w ∧ H.drop (h + 1) = L := by
  constructor
  · have := congrArg List.head? e
    rw [List.head?_drop] at this
    simp only [List.head?_cons] at this
    simp [List.getD, this]
  · have := congrArg List.tail e
    rw [List.tail_drop] at this
    simpa using this
theorem Mx.tvx {n m : Nat} (hn : n ≤ 5) (hm : m ≤ 5) {H : List Int} : ∀ (L W : List Int) (x : At3), Mx n m x.2.1 x.2.2 L W → H.drop x.1 = L → tvx mayA H (txA n) (txB m) L.length x = ((L.length : Int), 1) ∧ ∀ r ∈ rdx H (txA n) (txB m) L.length x, toldN r = L.length → r.map (·.1) = W
  | [], W, x, h, _ => by
    cases h
    refine ⟨rfl, fun r hr _ => ?_⟩
    simp [rdx] at hr; subst hr; rfl
  | w :: L, W, (hh, i, k), h, e => by
    obtain ⟨s, W', rfl⟩ : ∃ s W', W = s :: W' := by
      cases h
      · exact ⟨_, _, rfl⟩
      · exact ⟨_, _, rfl⟩
    obtain ⟨e1, e2⟩ := Mx.drop e
    obtain ⟨p, y, em, ey, hs, hy⟩ := Mx.moves hn h hh
    obtain ⟨t1, t2⟩ := Mx.tvx hn hm L W' y hy (by rw [ey]; exact e2)
    have lA : (txA n).length ≤ 6 := by rw [txA_len]; omega
    have lB : (txB m).length ≤ 6 := by rw [txB_len]; omega
    have bn := tvx_bnd mayA (H := H) lA lB L.length (hh + 1, i, k)
    have hHl : H.length = (hh + 1) + L.length := by
      have := congrArg List.length e
      rw [List.length_drop, List.length_cons] at this
      omega
    have nn := tvx_nonneg H (txA n) (txB m) (n := L.length) (h := hh + 1) (i := i) (k := k) hHl
    constructor
    · rw [List.length_cons, Proofs.Ytbjmmfjfmjdadaa.tvx]
      dsimp only
      rw [e1, em, List.foldl_cons, List.foldl_cons, List.foldl_nil]
      have st : ∀ (t : At3 → Int × Int) (best : Int × Int) (mv : Mv), stepT mayA hh t best mv = (if best.1 < wT mv.1.1 (t mv.2).1 then (wT mv.1.1 (t mv.2).1, (t mv.2).2) else if wT mv.1.1 (t mv.2).1 = best.1 then (best.1, best.2 + (t mv.2).2) else best) := fun t best mv => by
        unfold stepT; exact if_pos rfl
      have st1 : stepT mayA hh (Proofs.Ytbjmmfjfmjdadaa.tvx mayA H (txA n) (txB m) L.length) (-1, 0) ((3, 0), (hh + 1, i, k)) = Proofs.Ytbjmmfjfmjdadaa.tvx mayA H (txA n) (txB m) L.length (hh + 1, i, k) := by
        rw [st]
        have hw : wT 3 (Proofs.Ytbjmmfjfmjdadaa.tvx mayA H (txA n) (txB m) L.length (hh + 1, i, k)).1 = (Proofs.Ytbjmmfjfmjdadaa.tvx mayA H (txA n) (txB m) L.length (hh + 1, i, k)).1 := if_neg (fun h => h.2 rfl)
        dsimp only
        rw [hw, if_pos (by omega)]
      rw [st1, st]
      dsimp only
      rw [t1]
      have hw : wT s (L.length : Int) = (L.length : Int) + 1 := if_pos ⟨by omega, hs⟩
      dsimp only
      rw [hw, if_pos (by have := bn.2.1; omega)]
      simp
    · intro r hr ht
      rw [List.length_cons, rdx] at hr
      dsimp only at hr
      rw [e1, em, List.flatMap_cons, List.flatMap_cons, List.flatMap_nil, List.append_nil] at hr
      rcases List.mem_append.1 hr with hr | hr
      · obtain ⟨r', hr', rfl⟩ := List.mem_map.1 hr
        have l' := rdx_length L.length _ r' hr'
        have b' := toldN_bnd r'
        have : toldN (((3 : Int), (0 : Int)) :: r') = 0 + toldN r' := rfl
        rw [this, List.length_cons] at ht
        omega
      · obtain ⟨r', hr', rfl⟩ := List.mem_map.1 hr
        have : toldN ((s, p) :: r') = 1 + toldN r' := by show (if s = 3 then (0 : Int) else 1) + toldN r' = _; rw [if_neg hs]
        rw [this, List.length_cons] at ht
        rw [List.map_cons, t2 r' hr' (by omega)]
/-! ### What is heard -/
def mixH : List Int → List Int → List Int
  | [], b => b.map (5 + ·)
  | x :: a, [] => x :: a
  | x :: a, y :: b => x :: (5 + y) :: mixH a b
def mixW : List Int → List Int → List Int
  | [], b => b.map fun _ => 2
  | _ :: a, [] => 1 :: a.map fun _ => 1
  | _ :: a, _ :: b => 1 :: 2 :: mixW a b
theorem mixH_len : ∀ a b : List Int, (mixH a b).length = a.length + b.length
  | [], b => by simp [mixH]
  | x :: a, [] => by simp [mixH]
  | x :: a, y :: b => by simp [mixH, mixH_len a b]; omega
theorem mx_b {n m : Nat} : ∀ (b : List Int) (i k : Nat), Tx.okC m k b → Mx n m i k (b.map (5 + ·)) (b.map fun _ => 2)
  | [], i, k, _ => .nil i k
  | y :: b, i, k, ⟨⟨h1, h2⟩, h3⟩ => by
    obtain ⟨z, rfl⟩ : ∃ z : Nat, y = z := ⟨y.toNat, by omega⟩
    exact .b (by omega) (by omega) (mx_b b i (z + 1) (by simpa using h3))
theorem mx_a {n m : Nat} : ∀ (a : List Int) (i k : Nat), Tx.okC n i a → Mx n m i k a (a.map fun _ => 1)
  | [], i, k, _ => .nil i k
  | y :: b, i, k, ⟨⟨h1, h2⟩, h3⟩ => by
    obtain ⟨z, rfl⟩ : ∃ z : Nat, y = z := ⟨y.toNat, by omega⟩
    exact .a (by omega) (by omega) (mx_a b (z + 1) k (by simpa using h3))
theorem mx_mix {n m : Nat} : ∀ (a b : List Int) (i k : Nat), Tx.okC n i a → Tx.okC m k b → Mx n m i k (mixH a b) (mixW a b)
  | [], b, i, k, _, hb => mx_b b i k hb
  | x :: a, [], i, k, ha, _ => mx_a (x :: a) i k ha
  | x :: a, y :: b, i, k, ⟨⟨h1, h2⟩, h3⟩, ⟨⟨g1, g2⟩, g3⟩ => by
    obtain ⟨z, rfl⟩ : ∃ z : Nat, x = z := ⟨x.toNat, by omega⟩
    obtain ⟨u, rfl⟩ : ∃ u : Nat, y = u := ⟨y.toNat, by omega⟩
    exact .a (by omega) (by omega) (.b (by omega) (by omega) (mx_mix a b (z + 1) (u + 1) (by simpa using h3) (by simpa using g3)))
theorem drop_consI {l : List Int} {k : Nat} (h : k < l.length) : l.drop k = l.getD k 0 :: l.drop (k + 1) := by
  rw [List.drop_eq_getElem_cons h]; simp [List.getD, h]
theorem eshort_l1_p {a b : List Int} {s t : List (Int × (Int × Bool))} {s2 t2 : List (Int × (Int × Int))} {s3 t3 x2 : Int} {x : List (List Int)} (ha : a.length ≤ 5) (hb : b.length ≤ 5) (hib : ∀ y ∈ b, 0 ≤ y ∧ y ≤ 100) : ∀ (n k : Nat) (W X : List Int), 5 < n + k → W.length ≤ 100 + 2 * k → X.length ≤ 100 + 2 * k → k ≤ 5 →
    eshort_l1 N n a b (max (a.length : Int) (b.length : Int)) k s s2 s3 t t2 t3 x x2 W X = some (s, s2, s3, t, t2, t3, x, x2, W ++ mixW (a.drop k) (b.drop k), X ++ mixH (a.drop k) (b.drop k))
  | 0, k, W, X, h, _, _, _ => by omega
  | n + 1, k, W, X, h, hW, hX, h5 => by
    rw [eshort_l1]
    have next := fun (W X : List Int) (hW : W.length ≤ 100 + 2 * (k + 1)) (hX : X.length ≤ 100 + 2 * (k + 1)) (h5 : k + 1 ≤ 5) => eshort_l1_p (s := s) (t := t) (s2 := s2) (t2 := t2) (s3 := s3) (t3 := t3) (x2 := x2) (x := x) ha hb hib n (k + 1) W X (by omega) hW hX h5
    rw [show ((k + 1 : Nat) : Int) = (k : Int) + 1 by omega] at next
    by_cases ca : k < a.length
    · have ka : a[((k : Nat) : Int).toNat]? = some (a.getD k 0) := by simp [List.getD, ca]
      rw [br_dec (by omega), br_dec (by omega), idx_eq (by omega) ka, lim_eq (by simp; omega), lim_eq (by simp; omega), drop_consI ca]
      by_cases cb : k < b.length
      · have kb : b[((k : Nat) : Int).toNat]? = some (b.getD k 0) := by simp [List.getD, cb]
        have hy := hib _ (getD_mem (l := b) (d := 0) cb)
        rw [br_dec (by omega), idx_eq (by omega) kb, chk_eq (by omega), lim_eq (by simp; omega), lim_eq (by simp; omega), chk_eq (by omega), next _ _ (by simp; omega) (by simp; omega) (by omega), drop_consI cb]
        simp [mixH, mixW]
      · rw [br_ndec (by omega), chk_eq (by omega), next _ _ (by simp; omega) (by simp; omega) (by omega), List.drop_of_length_le (show b.length ≤ k by omega), List.drop_of_length_le (show b.length ≤ k + 1 by omega)]
        cases a.drop (k + 1) <;> simp [mixH, mixW]
    · by_cases cb : k < b.length
      · have kb : b[((k : Nat) : Int).toNat]? = some (b.getD k 0) := by simp [List.getD, cb]
        have hy := hib _ (getD_mem (l := b) (d := 0) cb)
        rw [br_dec (by omega), br_ndec (by omega), br_dec (by omega), idx_eq (by omega) kb, chk_eq (by omega), lim_eq (by simp; omega), lim_eq (by simp; omega), chk_eq (by omega), next _ _ (by simp; omega) (by simp; omega) (by omega), drop_consI cb, List.drop_of_length_le (show a.length ≤ k by omega), List.drop_of_length_le (show a.length ≤ k + 1 by omega)]
        simp [mixH, mixW]
      · rw [br_ndec (by omega), List.drop_of_length_le (by omega), List.drop_of_length_le (by omega)]
        simp [mixH, mixW]
theorem equals_l1_p {s : List Int} (hs : s.length ≤ 1000) : ∀ (n k : Nat), s.length < n + k → k ≤ s.length → equals_l1 N n s s (s.length : Int) k = some (.inr ())
  | 0, k, h, _ => by omega
  | n + 1, k, h, hk => by
    rw [equals_l1]
    by_cases c : k < s.length
    · rw [br_dec (by omega), idx_get 0 (by omega) (by omega), idx_get 0 (by omega) (by omega), br_nd (by first | trivial | rfl), chk_eq (by omega)]
      have := equals_l1_p hs n (k + 1) (by omega) (by omega)
      rw [show ((k + 1 : Nat) : Int) = (k : Int) + 1 by omega] at this
      exact this
    · rw [br_ndec (by omega)]
theorem likes_v {s : List Int} (hs : s.length ≤ 1000) (hN : s.length < N) : likes_S N s s = some true := by
  unfold likes_S equals_S
  have := equals_l1_p (N := N) hs N 0 (by omega) (by omega)
  rw [show ((0 : Nat) : Int) = 0 from rfl] at this
  rw [br_nd (by first | trivial | rfl), this]; rfl
theorem short_sure {n m : Nat} (hn : n ≤ 5) (hm : m ≤ 5) {H W : List Int} (h : Mx n m 0 0 H W) : (List.range H.length).map (sureV H (txA n) (txB m)) = W ∧ (bestR H (txA n) (txB m)).length = 1 ∧ (tv mayA H (txA n) (txB m) (0, 0, 0)).1 = H.length := by
  obtain ⟨t1, t2⟩ := Mx.tvx hn hm H W (0, 0, 0) h rfl
  have tve : tv mayA H (txA n) (txB m) (0, 0, 0) = ((H.length : Int), 1) := t1
  have hl := h.len
  have sides : ∀ r ∈ bestR H (txA n) (txB m), r.map (·.1) = W := fun r hr => by
    obtain ⟨h1, h2⟩ := List.mem_filter.1 hr
    rw [tve] at h2
    exact t2 r h1 (by simpa using h2)
  obtain ⟨r0, hr0⟩ := bestR_ne (H := H) (A := txA n) (B := txB m)
  refine ⟨?_, ?_, by rw [tve]⟩
  · have hget : ∀ i, i < H.length → sureV H (txA n) (txB m) i = W.getD i 0 := fun i hi => by
      have hs : ∀ s, allS H (txA n) (txB m) i s = decide (W.getD i 0 = s) := fun s => by
        have key : ∀ r ∈ bestR H (txA n) (txB m), (r.getD i (0, 0)).1 = W.getD i 0 := fun r hr => by
          rw [← sides r hr]
          have := bestR_len hr
          have hi' : i < r.length := by omega
          simp [List.getD, hi']
        unfold allS
        rw [Bool.eq_iff_iff, List.all_eq_true, decide_eq_true_eq]
        constructor
        · intro h
          have := h r0 hr0
          rw [decide_eq_true_eq, key r0 hr0] at this
          exact this
        · intro h r hr
          rw [decide_eq_true_eq, key r hr]
          exact h
      have h3 : W.getD i 0 = 1 ∨ W.getD i 0 = 2 ∨ W.getD i 0 = 3 := by
        have hb := bestR_len hr0
        have hq : r0.getD i (0, 0) ∈ r0 := getD_mem (by omega)
        have hd := rdx_side (H := H) (A := txA n) (B := txB m) H.length (0, 0, 0) r0 (List.mem_filter.1 hr0).1 _ hq
        have hi' : i < r0.length := by omega
        have e : W.getD i 0 = (r0.getD i (0, 0)).1 := by
          rw [← sides r0 hr0]
          simp [List.getD, hi']
        rw [e]; exact hd
      unfold sureV
      rw [hs 1, hs 2, hs 3]
      rcases h3 with h3 | h3 | h3 <;> rw [h3] <;> rfl
    apply List.ext_getElem
    · simp [hl]
    · intro i h1 h2
      rw [List.getElem_map, List.getElem_range, hget i (by simpa using h1)]
      simp [List.getD, h2]
  · have c := rdAll_count (H := H) (A := txA n) (B := txB m)
    rw [tve] at c
    have : (bestR H (txA n) (txB m)).length = (rdAll H (txA n) (txB m)).countP fun r => decide (toldN r = (tv mayA H (txA n) (txB m) (0, 0, 0)).1) := by
      rw [List.countP_eq_length_filter]; rfl
    rw [this, tve]
    dsimp only at c ⊢
    omega
theorem mixH_in {n m : Nat} (hn : n ≤ 5) (hm : m ≤ 5) {i k : Nat} {L W : List Int} (h : Mx n m i k L W) : InR 0 9 L := by
  induction h with
  | nil => exact InR.nil
  | a h1 h2 _ ih =>
    intro y hy
    rcases List.mem_cons.1 hy with rfl | hy
    · omega
    · exact ih y hy
  | b h1 h2 _ ih =>
    intro y hy
    rcases List.mem_cons.1 hy with rfl | hy
    · omega
    · exact ih y hy
theorem eshort_j1_v (hN : 1100 ≤ N) (haw : awake_S N = some true) {a b : List Int} {s t : List (Int × (Int × Bool))} {s2 t2 : List (Int × (Int × Int))} {s3 t3 : Int} (hs : 1 ≤ s.length ∧ s.length ≤ 5) (ht : 1 ≤ t.length ∧ t.length ≤ 5) (ha : Tx.okC s.length 0 a) (hb : Tx.okC t.length 0 b) (hal : a.length ≤ s.length) (hbl : b.length ≤ t.length) :
    eshort_j1 N a b s s2 s3 t t2 t3 0 = some true := by
  unfold eshort_j1
  rw [if_pos (by omega)]
  unfold eshort_j2
  have e1 := eshort_l1_p (N := N) (a := a) (b := b) (s := s) (t := t) (s2 := s2) (t2 := t2) (s3 := s3) (t3 := t3) (x2 := 0) (x := [txA s.length, txB t.length]) (by omega) (by omega) (fun y hy => by have := Tx.okC_mem hb y hy; omega) N 0 [] [] (by omega) (by simp) (by simp) (by omega)
  rw [show ((0 : Nat) : Int) = 0 from rfl, List.drop_zero, List.drop_zero, List.nil_append, List.nil_append] at e1
  rw [e1]
  simp only [Option.bind_some]
  have hx := mx_mix a b 0 0 (by simpa using ha) (by simpa using hb)
  have hin := mixH_in hs.2 ht.2 hx
  have hlen := mixH_len a b
  have hwl := hx.len
  obtain ⟨f1, f2, f3⟩ := short_sure hs.2 ht.2 hx
  generalize mixH a b = H at *
  generalize mixW a b = W at *
  have hF : Fine [txA s.length, txB t.length] H 0 := by
    refine ⟨by simp, by omega, fun x hx => ?_, fun x hx => ?_, hin, by omega⟩
    · simp only [List.mem_cons, List.not_mem_nil, or_false] at hx
      rcases hx with rfl | rfl
      · rw [txA_len]; omega
      · rw [txB_len]; omega
    · simp only [List.mem_cons, List.not_mem_nil, or_false] at hx
      rcases hx with rfl | rfl
      · intro y hy
        obtain ⟨k, hk, rfl⟩ := List.mem_map.1 hy
        have := List.mem_range.1 hk
        omega
      · intro y hy
        obtain ⟨k, hk, rfl⟩ := List.mem_map.1 hy
        have := List.mem_range.1 hk
        omega
  have hop := hF.open (a := 0) (b := 1) (by simp) (by simp)
  rw [least_v (by omega) hF (by simp) (by simp), sure_v (by omega) hop, count_v2 (by omega) hop]
  have eA : [txA s.length, txB t.length].getD (0 : Int).toNat [] = txA s.length := rfl
  have eB : [txA s.length, txB t.length].getD (1 : Int).toNat [] = txB t.length := rfl
  rw [eA, eB, f1, f2]
  simp only [Option.bind_some, decide_true, br_true]
  have lv : leastV H (txA s.length) (txB t.length) = (s.length : Int) + t.length - H.length := by
    unfold leastV
    rw [f3, txA_len, txB_len]; omega
  rw [chk_eq (by omega), chk_eq (by omega), lv, br_dec rfl, br_dec (by rfl), likes_v (by omega) (by omega), haw]
  rfl
theorem eshort_true {ns os : List Int} {one two : Int} (h1 : (Ty.sl (.int .u8)).inB ns) (h2 : (Ty.sl (.int .u8)).inB os) (h3 : (Ty.int .u8).inB one) (h4 : (Ty.int .u8).inB two) : eshort_S 1100 ns os one two = some true := by
  have u8 : ∀ {n : Int}, (Ty.int .u8).inB n → 0 ≤ n ∧ n ≤ 255 := fun {n} h => by
    have h1 : IntKind.u8.min = 0 := by decide
    have h2 : IntKind.u8.max = 255 := by decide
    unfold Ty.inB inR at h
    rw [h1, h2] at h
    exact h
  have w0 : ∀ {n : Int}, 0 ≤ n ∧ n ≤ 255 → ¬ Int.tmod (IntKind.i64.wrap n) 20 < 0 := fun {n} h => by
    rw [wrap64 (by omega)]
    have := Int.tmod_nonneg (a := n) 20 h.1
    omega
  have hw1 := w0 (u8 h3)
  have hw2 := w0 (u8 h4)
  unfold eshort_S hang_S
  simp only [Option.bind_some]
  generalize Int.tmod (IntKind.i64.wrap one) 20 = wt1 at *
  generalize Int.tmod (IntKind.i64.wrap two) 20 = wt2 at *
  obtain ⟨⟨s, s2, s3, b', y2, y3⟩, e1, hs, hsl, -⟩ := Tx.made_v (N := 1100) (by omega) (words := 5) (turns := 2) (b := ns) (b2 := 0) (b3 := 0) (by omega) (by omega) ⟨h1.1, by omega, by omega⟩
  obtain ⟨⟨t, t2, t3, c', z2, z3⟩, e2, ht, htl, -⟩ := Tx.made_v (N := 1100) (by omega) (words := 5) (turns := 2) (b := os) (b2 := 0) (b3 := 0) (by omega) (by omega) ⟨h2.1, by omega, by omega⟩
  dsimp only at hs hsl ht htl
  have e1 : txmade_S 1100 5 2 ns 0 0 = some (s, s2, s3, b', y2, y3) := e1
  have e2 : txmade_S 1100 5 2 os 0 0 = some (t, t2, t3, c', z2, z3) := e2
  have hs0 := hs.n0; have ht0 := ht.n0
  have hst := hs.t; have htt := ht.t
  obtain ⟨a, x, e3, q3⟩ := Tx.least_v (N := 1100) (ws := s) (ts := s2) (br_ := s3) (by omega) (by omega) (by omega) (wt := wt1)
  obtain ⟨b, y, e4, q4⟩ := Tx.least_v (N := 1100) (ws := t) (ts := t2) (br_ := t3) (by omega) (by omega) (by omega) (wt := wt2)
  have e3 : txleast_S 1100 s s2 s3 wt1 = some (a, x) := e3
  have e4 : txleast_S 1100 t t2 t3 wt2 = some (b, y) := e4
  unfold Tx.LeastQ at q3 q4
  rw [if_neg (by simpa using Tx.checkT_of hs), if_neg hw1] at q3
  rw [if_neg (by simpa using Tx.checkT_of ht), if_neg hw2] at q4
  rw [e1]
  simp only [Option.bind_some]
  rw [e2]
  simp only [Option.bind_some]
  rw [e3, e4]
  simp only [Option.bind_some]
  rcases q3 with ⟨rfl, p1, p2, -⟩ | ⟨⟨rfl, -⟩, -⟩
  · rcases q4 with ⟨rfl, r1, r2, -⟩ | ⟨⟨rfl, -⟩, -⟩
    · have l1 := Tx.okC_len p1 p2
      have l2 := Tx.okC_len r1 r2
      rw [br_ndec (by decide), br_ndec (by decide), br_nd (by first | trivial | rfl), br_nd (by first | trivial | rfl), br_ndec (by omega), br_ndec (by omega)]
      exact eshort_j1_v (by omega) awake_v (by omega) (by omega) p1 r1 (by omega) (by omega)
    · rw [br_ndec (by decide), br_dec (by first | trivial | rfl), awake_v]; rfl
  · rw [br_dec (by first | trivial | rfl), awake_v]; rfl
end
end Go.Proofs.Ytbjmmfjfmjdadaa

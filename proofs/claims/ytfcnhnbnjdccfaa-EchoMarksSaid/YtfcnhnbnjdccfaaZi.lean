/-
  Parts of a proof, put together: Pl29, E8, Pl31, Pl32, Pl33, Pl34.
  Conditions: none.
-/
import Derived.Test.YtfcnhnbnjdccfaaZg
import Derived.Test.YtfcnhnbnjdccfaaZh
namespace Go.Proofs.Ytfcnhnbnjdccfaa
set_option linter.all false
open Go

theorem repL_intsI {M : Nat → Option Obj} : ∀ (l : List Int) (vs : List Value), RepL M (.int .i64) l vs ↔ vs = l.map (.int .i64) ∧ ∀ x ∈ l, inR .i64 x
  | [], vs => by simp [RepL]
  | x :: l, vs => by
    simp only [RepL, RepC, List.map_cons, List.mem_cons, forall_eq_or_imp]
    constructor
    · rintro ⟨v1, v2, rfl, ⟨rfl, h1⟩, h2⟩
      obtain ⟨rfl, h3⟩ := (repL_intsI l v2).1 h2
      exact ⟨rfl, h1, h3⟩
    · rintro ⟨rfl, h1, h3⟩
      exact ⟨_, _, rfl, ⟨rfl, h1⟩, (repL_intsI l _).2 ⟨rfl, h3⟩⟩
theorem bound_fn {N : Nat} {M : Nat → Option Obj} {w : World} {T : List (List Int)} {H A B : List Int} {f i a b v : Int} {G G' : List Int} {pd : Value} {bg : Nat} {ty : TypeId} (hq : bound_S N (T, H, f, A, B) i a b G = some (v, G')) (hM : ∀ b o, M b = some o → w.heap[b]? = some o) (hMb : M bg = none)
    (hd : ∀ ρ, RepV ⟨ρ, M⟩ (.fe DeskT (T, H, f, A, B) 0) pd) (hB : Blk w bg (G.map (.int .i64)) ty) (hG : G.length = 539) (hin : ∀ x ∈ G, inR .i64 x) (hi : inR .i64 i) (ha : inR .i64 a) (hb : inR .i64 b) :
    Fn Try.prog 110 #[pd, .pointer (some ⟨bg, 0, none⟩), .int .i64 i, .int .i64 a, .int .i64 b] w (fun v' w' => v' = .int .i64 v ∧ inR .i64 v ∧ Upd [bg] w w' ∧ (∃ ty', Blk w' bg (G'.map (.int .i64)) ty') ∧ G'.length = 539 ∧ ∀ x ∈ G', inR .i64 x) := by
  have hrun : (sp_bound N).run (((T, H, f, A, B), (), i, a, b, ()), ((G, ()), ())) some = some ((v, ()), ((G', ()), ())) := by
    show ((bound_S N (T, H, f, A, B) i a b G).bind fun r => some ((r.1, ()), ((r.2, ()), ()))) = _
    rw [hq]; rfl
  have hs : Sim ⟨fun j => if j = 0 then some (some (bg, 0, 0)) else none, M⟩ (hOf (ss := (sp_bound N).ins.blks) ((G, ()), ())) w := by
    refine ⟨hM, fun id k hk => ?_, fun i j ki kj b ci ni cj nj h1 h2 _ _ _ _ => ?_⟩
    · match id, hk with
      | 0, hk =>
        cases hk
        exact ⟨bg, 0, 0, _, ty, rfl, hB, ⟨G.map (.int .i64), [], by simp, ⟨hG, (repL_intsI _ _).2 ⟨rfl, hin⟩⟩, rfl⟩, hMb⟩
      | n + 1, hk => cases hk
    · match i, j, h1, h2 with
      | 0, 0, _, _ => rfl
      | 0, n + 1, _, h => cases h
      | n + 1, _, h, _ => cases h
  have h := (sp_bound_ok N).fn (((T, H, f, A, B), (), i, a, b, ()), ((G, ()), ())) _ hrun _ w [pd, .pointer (some ⟨bg, 0, none⟩), .int .i64 i, .int .i64 a, .int .i64 b] ⟨_, _, rfl, hd _, _, _, rfl, ⟨bg, 0, 0, rfl, rfl⟩, _, _, rfl, ⟨rfl, hi⟩, _, _, rfl, ⟨rfl, ha⟩, _, _, rfl, ⟨rfl, hb⟩, rfl⟩ hs (fun j hj => by
    have : ¬ j = 0 := by have h : 1 ≤ j := hj; omega
    show (if j = 0 then _ else _) = _
    rw [if_neg this])
  refine Fn.mono h ?_
  rintro v' w' ⟨g', st, hs', hv'⟩
  simp only [altOf, encs, enc, resVal, RepV] at hv'
  refine ⟨hv'.1, hv'.2, ⟨st.os, st.tape, st.output, st.size, fun k hk hn => st.same k hk ?_⟩, ?_⟩
  · rintro ⟨id, hid, k', c, n, h1, h2, h3⟩
    have h3 : (if id = 0 then some (some (bg, 0, 0)) else none) = some (some (k, c, n)) := h3
    split at h3
    · simp only [Option.some.injEq, Prod.mk.injEq] at h3
      exact hn (by simp [h3.1])
    · cases h3
  · have hb0 := hs'.blk 0 (.segs [.arr (.int .i64) 539 G']) rfl
    simp only [RepBlk] at hb0
    obtain ⟨b', c', n', us, ty', e1, e2, ⟨v1, v2, rfl, ⟨h1, h2⟩, h3⟩, _⟩ := hb0
    have e3 := st.ge.1 0 (some (bg, 0, 0)) rfl
    rw [e3] at e1
    cases e1
    obtain ⟨rfl, h4⟩ := (repL_intsI _ _).1 h2
    have h3 : v2 = [] := h3
    subst h3
    rw [List.append_nil] at e2
    exact ⟨⟨ty', e2⟩, h1, h4⟩
theorem inR_nat {n : Nat} (h : n ≤ 10000) : inR .i64 (n : Int) := by
  constructor
  · have : IntKind.i64.min = -9223372036854775808 := by decide
    omega
  · have : IntKind.i64.max = 9223372036854775807 := by decide
    omega

noncomputable def c67 : Code := (Try.f67.body).getD .skip
noncomputable def K67_7 : List Item := [.code (sub c67 [1, 1, 1, 1, 0]), .code (sub c67 [1, 1, 1, 1, 1])]
noncomputable def K67_8 : List Item := [.code (sub c67 [1, 1, 1, 1, 1, 0, 0]), .code (sub c67 [1, 1, 1, 1, 1, 0, 1]), .code (sub c67 [1, 1, 1, 1, 1, 1])]
noncomputable def K67_9 : List Item := [.code (sub c67 [1, 1, 1, 1, 1, 0, 1, 0, 0, 0]), .code (sub c67 [1, 1, 1, 1, 1, 0, 1, 0, 0, 1]), .inLoop (sub c67 [1, 1, 1, 1, 1, 0, 1, 0, 0]), .inBlock 0, .code (sub c67 [1, 1, 1, 1, 1, 1])]
noncomputable def K67_10 : List Item := [.code (sub c67 [1, 1, 1, 1, 1, 0, 1, 0, 0, 1, 0]), .code (sub c67 [1, 1, 1, 1, 1, 0, 1, 0, 0, 1, 1]), .inLoop (sub c67 [1, 1, 1, 1, 1, 0, 1, 0, 0]), .inBlock 0, .code (sub c67 [1, 1, 1, 1, 1, 1])]
noncomputable def K67_11 : List Item := [.code (sub c67 [1, 1, 1, 1, 1, 0, 1, 0, 0, 1, 1, 0, 0, 0]), .code (sub c67 [1, 1, 1, 1, 1, 0, 1, 0, 0, 1, 1, 0, 0, 1]), .inBlock 1, .code (sub c67 [1, 1, 1, 1, 1, 0, 1, 0, 0, 1, 1, 1]), .inLoop (sub c67 [1, 1, 1, 1, 1, 0, 1, 0, 0]), .inBlock 0, .code (sub c67 [1, 1, 1, 1, 1, 1])]
noncomputable def K67_12 : List Item := [.code (sub c67 [1, 1, 1, 1, 1, 1, 0]), .code (sub c67 [1, 1, 1, 1, 1, 1, 1])]
noncomputable def K67_13 : List Item := [.code (sub c67 [1, 1, 1, 1, 1, 0, 1, 0, 0, 1, 1, 0, 0, 1, 0]), .code (sub c67 [1, 1, 1, 1, 1, 0, 1, 0, 0, 1, 1, 0, 0, 1, 1]), .inBlock 1, .code (sub c67 [1, 1, 1, 1, 1, 0, 1, 0, 0, 1, 1, 1]), .inLoop (sub c67 [1, 1, 1, 1, 1, 0, 1, 0, 0]), .inBlock 0, .code (sub c67 [1, 1, 1, 1, 1, 1])]
noncomputable def K67_15 : List Item := [.code (sub c67 [1, 1, 1, 1, 1, 0, 1, 0, 0, 1, 1, 0, 0, 1, 1, 0, 0, 0]), .code (sub c67 [1, 1, 1, 1, 1, 0, 1, 0, 0, 1, 1, 0, 0, 1, 1, 0, 0, 1]), .inLoop (sub c67 [1, 1, 1, 1, 1, 0, 1, 0, 0, 1, 1, 0, 0, 1, 1, 0, 0]), .inBlock 2, .inBlock 1, .code (sub c67 [1, 1, 1, 1, 1, 0, 1, 0, 0, 1, 1, 1]), .inLoop (sub c67 [1, 1, 1, 1, 1, 0, 1, 0, 0]), .inBlock 0, .code (sub c67 [1, 1, 1, 1, 1, 1])]
noncomputable def K67_16 : List Item := [.code (sub c67 [1, 1, 1, 1, 1, 0, 1, 0, 0, 1, 1, 0, 0, 1, 1, 0, 0, 1, 0]), .code (sub c67 [1, 1, 1, 1, 1, 0, 1, 0, 0, 1, 1, 0, 0, 1, 1, 0, 0, 1, 1]), .inLoop (sub c67 [1, 1, 1, 1, 1, 0, 1, 0, 0, 1, 1, 0, 0, 1, 1, 0, 0]), .inBlock 2, .inBlock 1, .code (sub c67 [1, 1, 1, 1, 1, 0, 1, 0, 0, 1, 1, 1]), .inLoop (sub c67 [1, 1, 1, 1, 1, 0, 1, 0, 0]), .inBlock 0, .code (sub c67 [1, 1, 1, 1, 1, 1])]
noncomputable def K67_17 : List Item := [.code (sub c67 [1, 1, 1, 1, 1, 0, 1, 0, 0, 1, 1, 0, 0, 1, 1, 0, 0, 1, 1, 0, 0, 0]), .code (sub c67 [1, 1, 1, 1, 1, 0, 1, 0, 0, 1, 1, 0, 0, 1, 1, 0, 0, 1, 1, 0, 0, 1]), .inBlock 3, .code (sub c67 [1, 1, 1, 1, 1, 0, 1, 0, 0, 1, 1, 0, 0, 1, 1, 0, 0, 1, 1, 1]), .inLoop (sub c67 [1, 1, 1, 1, 1, 0, 1, 0, 0, 1, 1, 0, 0, 1, 1, 0, 0]), .inBlock 2, .inBlock 1, .code (sub c67 [1, 1, 1, 1, 1, 0, 1, 0, 0, 1, 1, 1]), .inLoop (sub c67 [1, 1, 1, 1, 1, 0, 1, 0, 0]), .inBlock 0, .code (sub c67 [1, 1, 1, 1, 1, 1])]
noncomputable def K67_18 : List Item := [.code (sub c67 [1, 1, 1, 1, 1, 0, 1, 0, 0, 1, 1, 1]), .inLoop (sub c67 [1, 1, 1, 1, 1, 0, 1, 0, 0]), .inBlock 0, .code (sub c67 [1, 1, 1, 1, 1, 1])]
noncomputable def K67_19 : List Item := [.code (sub c67 [1, 1, 1, 1, 1, 0, 1, 0, 0, 1, 1, 0, 0, 1, 1, 0, 0, 1, 1, 0, 0, 1, 0]), .code (sub c67 [1, 1, 1, 1, 1, 0, 1, 0, 0, 1, 1, 0, 0, 1, 1, 0, 0, 1, 1, 0, 0, 1, 1]), .inBlock 3, .code (sub c67 [1, 1, 1, 1, 1, 0, 1, 0, 0, 1, 1, 0, 0, 1, 1, 0, 0, 1, 1, 1]), .inLoop (sub c67 [1, 1, 1, 1, 1, 0, 1, 0, 0, 1, 1, 0, 0, 1, 1, 0, 0]), .inBlock 2, .inBlock 1, .code (sub c67 [1, 1, 1, 1, 1, 0, 1, 0, 0, 1, 1, 1]), .inLoop (sub c67 [1, 1, 1, 1, 1, 0, 1, 0, 0]), .inBlock 0, .code (sub c67 [1, 1, 1, 1, 1, 1])]
noncomputable def K67_20 : List Item := [.code (sub c67 [1, 1, 1, 1, 1, 0, 1, 0, 0, 1, 1, 0, 0, 1, 1, 0, 0, 1, 1, 0, 0, 1, 1, 0, 0, 0]), .code (sub c67 [1, 1, 1, 1, 1, 0, 1, 0, 0, 1, 1, 0, 0, 1, 1, 0, 0, 1, 1, 0, 0, 1, 1, 0, 0, 1]), .inLoop (sub c67 [1, 1, 1, 1, 1, 0, 1, 0, 0, 1, 1, 0, 0, 1, 1, 0, 0, 1, 1, 0, 0, 1, 1, 0, 0]), .inBlock 4, .inBlock 3, .code (sub c67 [1, 1, 1, 1, 1, 0, 1, 0, 0, 1, 1, 0, 0, 1, 1, 0, 0, 1, 1, 1]), .inLoop (sub c67 [1, 1, 1, 1, 1, 0, 1, 0, 0, 1, 1, 0, 0, 1, 1, 0, 0]), .inBlock 2, .inBlock 1, .code (sub c67 [1, 1, 1, 1, 1, 0, 1, 0, 0, 1, 1, 1]), .inLoop (sub c67 [1, 1, 1, 1, 1, 0, 1, 0, 0]), .inBlock 0, .code (sub c67 [1, 1, 1, 1, 1, 1])]
noncomputable def K67_21 : List Item := [.code (sub c67 [1, 1, 1, 1, 1, 0, 1, 0, 0, 1, 1, 0, 0, 1, 1, 0, 0, 1, 1, 0, 0, 1, 1, 0, 0, 1, 0]), .code (sub c67 [1, 1, 1, 1, 1, 0, 1, 0, 0, 1, 1, 0, 0, 1, 1, 0, 0, 1, 1, 0, 0, 1, 1, 0, 0, 1, 1]), .inLoop (sub c67 [1, 1, 1, 1, 1, 0, 1, 0, 0, 1, 1, 0, 0, 1, 1, 0, 0, 1, 1, 0, 0, 1, 1, 0, 0]), .inBlock 4, .inBlock 3, .code (sub c67 [1, 1, 1, 1, 1, 0, 1, 0, 0, 1, 1, 0, 0, 1, 1, 0, 0, 1, 1, 1]), .inLoop (sub c67 [1, 1, 1, 1, 1, 0, 1, 0, 0, 1, 1, 0, 0, 1, 1, 0, 0]), .inBlock 2, .inBlock 1, .code (sub c67 [1, 1, 1, 1, 1, 0, 1, 0, 0, 1, 1, 1]), .inLoop (sub c67 [1, 1, 1, 1, 1, 0, 1, 0, 0]), .inBlock 0, .code (sub c67 [1, 1, 1, 1, 1, 1])]
noncomputable def K67_22 : List Item := [.code (sub c67 [1, 1, 1, 1, 1, 0, 1, 0, 0, 1, 1, 0, 0, 1, 1, 0, 0, 1, 1, 0, 0, 1, 1, 0, 0, 1, 1, 0, 0, 0]), .code (sub c67 [1, 1, 1, 1, 1, 0, 1, 0, 0, 1, 1, 0, 0, 1, 1, 0, 0, 1, 1, 0, 0, 1, 1, 0, 0, 1, 1, 0, 0, 1]), .inBlock 5, .code (sub c67 [1, 1, 1, 1, 1, 0, 1, 0, 0, 1, 1, 0, 0, 1, 1, 0, 0, 1, 1, 0, 0, 1, 1, 0, 0, 1, 1, 1]), .inLoop (sub c67 [1, 1, 1, 1, 1, 0, 1, 0, 0, 1, 1, 0, 0, 1, 1, 0, 0, 1, 1, 0, 0, 1, 1, 0, 0]), .inBlock 4, .inBlock 3, .code (sub c67 [1, 1, 1, 1, 1, 0, 1, 0, 0, 1, 1, 0, 0, 1, 1, 0, 0, 1, 1, 1]), .inLoop (sub c67 [1, 1, 1, 1, 1, 0, 1, 0, 0, 1, 1, 0, 0, 1, 1, 0, 0]), .inBlock 2, .inBlock 1, .code (sub c67 [1, 1, 1, 1, 1, 0, 1, 0, 0, 1, 1, 1]), .inLoop (sub c67 [1, 1, 1, 1, 1, 0, 1, 0, 0]), .inBlock 0, .code (sub c67 [1, 1, 1, 1, 1, 1])]
noncomputable def K67_23 : List Item := [.code (sub c67 [1, 1, 1, 1, 1, 0, 1, 0, 0, 1, 1, 0, 0, 1, 1, 0, 0, 1, 1, 1]), .inLoop (sub c67 [1, 1, 1, 1, 1, 0, 1, 0, 0, 1, 1, 0, 0, 1, 1, 0, 0]), .inBlock 2, .inBlock 1, .code (sub c67 [1, 1, 1, 1, 1, 0, 1, 0, 0, 1, 1, 1]), .inLoop (sub c67 [1, 1, 1, 1, 1, 0, 1, 0, 0]), .inBlock 0, .code (sub c67 [1, 1, 1, 1, 1, 1])]
noncomputable def K67_24 : List Item := [.code (sub c67 [1, 1, 1, 1, 1, 0, 1, 0, 0, 1, 1, 0, 0, 1, 1, 0, 0, 1, 1, 0, 0, 1, 1, 0, 0, 1, 1, 0, 0, 1, 0]), .code (sub c67 [1, 1, 1, 1, 1, 0, 1, 0, 0, 1, 1, 0, 0, 1, 1, 0, 0, 1, 1, 0, 0, 1, 1, 0, 0, 1, 1, 0, 0, 1, 1]), .inBlock 5, .code (sub c67 [1, 1, 1, 1, 1, 0, 1, 0, 0, 1, 1, 0, 0, 1, 1, 0, 0, 1, 1, 0, 0, 1, 1, 0, 0, 1, 1, 1]), .inLoop (sub c67 [1, 1, 1, 1, 1, 0, 1, 0, 0, 1, 1, 0, 0, 1, 1, 0, 0, 1, 1, 0, 0, 1, 1, 0, 0]), .inBlock 4, .inBlock 3, .code (sub c67 [1, 1, 1, 1, 1, 0, 1, 0, 0, 1, 1, 0, 0, 1, 1, 0, 0, 1, 1, 1]), .inLoop (sub c67 [1, 1, 1, 1, 1, 0, 1, 0, 0, 1, 1, 0, 0, 1, 1, 0, 0]), .inBlock 2, .inBlock 1, .code (sub c67 [1, 1, 1, 1, 1, 0, 1, 0, 0, 1, 1, 1]), .inLoop (sub c67 [1, 1, 1, 1, 1, 0, 1, 0, 0]), .inBlock 0, .code (sub c67 [1, 1, 1, 1, 1, 1])]
noncomputable def K67_25 : List Item := [.code (sub c67 [1, 1, 1, 1, 1, 0, 1, 0, 0, 1, 1, 0, 0, 1, 1, 0, 0, 1, 1, 0, 0, 1, 1, 0, 0, 1, 1, 0, 0, 1, 1]), .inBlock 5, .code (sub c67 [1, 1, 1, 1, 1, 0, 1, 0, 0, 1, 1, 0, 0, 1, 1, 0, 0, 1, 1, 0, 0, 1, 1, 0, 0, 1, 1, 1]), .inLoop (sub c67 [1, 1, 1, 1, 1, 0, 1, 0, 0, 1, 1, 0, 0, 1, 1, 0, 0, 1, 1, 0, 0, 1, 1, 0, 0]), .inBlock 4, .inBlock 3, .code (sub c67 [1, 1, 1, 1, 1, 0, 1, 0, 0, 1, 1, 0, 0, 1, 1, 0, 0, 1, 1, 1]), .inLoop (sub c67 [1, 1, 1, 1, 1, 0, 1, 0, 0, 1, 1, 0, 0, 1, 1, 0, 0]), .inBlock 2, .inBlock 1, .code (sub c67 [1, 1, 1, 1, 1, 0, 1, 0, 0, 1, 1, 1]), .inLoop (sub c67 [1, 1, 1, 1, 1, 0, 1, 0, 0]), .inBlock 0, .code (sub c67 [1, 1, 1, 1, 1, 1])]
noncomputable def K67_26 : List Item := [.code (sub c67 [1, 1, 1, 1, 1, 0, 1, 0, 0, 1, 1, 0, 0, 1, 1, 0, 0, 1, 1, 0, 0, 1, 1, 0, 0, 1, 1, 1]), .inLoop (sub c67 [1, 1, 1, 1, 1, 0, 1, 0, 0, 1, 1, 0, 0, 1, 1, 0, 0, 1, 1, 0, 0, 1, 1, 0, 0]), .inBlock 4, .inBlock 3, .code (sub c67 [1, 1, 1, 1, 1, 0, 1, 0, 0, 1, 1, 0, 0, 1, 1, 0, 0, 1, 1, 1]), .inLoop (sub c67 [1, 1, 1, 1, 1, 0, 1, 0, 0, 1, 1, 0, 0, 1, 1, 0, 0]), .inBlock 2, .inBlock 1, .code (sub c67 [1, 1, 1, 1, 1, 0, 1, 0, 0, 1, 1, 1]), .inLoop (sub c67 [1, 1, 1, 1, 1, 0, 1, 0, 0]), .inBlock 0, .code (sub c67 [1, 1, 1, 1, 1, 1])]

def upd3 (X : List (List (List Int))) (i a b : Nat) (v : Int) : List (List (List Int)) := X.set i ((X.getD i []).set a (((X.getD i []).getD a []).set b v))
def mkB (N : Nat) (d : List (List Int) × List Int × Int × List Int × List Int) (i a : Nat) : Nat → Nat → List Int → List (List (List Int)) → Option (List Int × List (List (List Int)))
  | 0, _, G, X => some (G, X)
  | k + 1, b, G, X => (bound_S N d i a b G).bind fun r => mkB N d i a k (b + 1) (r.2.set (i * 49 + a * 7 + b) r.1) (upd3 X i a b r.1)
def mkA (N : Nat) (d : List (List Int) × List Int × Int × List Int × List Int) (B i : Nat) : Nat → Nat → List Int → List (List (List Int)) → Option (List Int × List (List (List Int)))
  | 0, _, G, X => some (G, X)
  | k + 1, a, G, X => (mkB N d i a B 0 G X).bind fun r => mkA N d B i k (a + 1) r.1 r.2
def mkI (N : Nat) (d : List (List Int) × List Int × Int × List Int × List Int) (A B : Nat) : Nat → Nat → List Int → List (List (List Int)) → Option (List Int × List (List (List Int)))
  | 0, _, G, X => some (G, X)
  | k + 1, i, G, X => (mkA N d B i A 0 G X).bind fun r => mkI N d A B k (i + 1) r.1 r.2
theorem getD_set3 {α : Type} (l : List α) (i j : Nat) (x d : α) (h : i < l.length) : (l.set i x).getD j d = if j = i then x else l.getD j d := by
  simp only [List.getD_eq_getElem?_getD]
  by_cases e : j = i
  · subst e; rw [if_pos rfl, List.getElem?_set_self h]; rfl
  · rw [if_neg e, List.getElem?_set_ne (Ne.symm e)]
/-- So many lists of so many rows of so many numbers. -/
def Shp (X : List (List (List Int))) (I A B : Nat) : Prop := X.length = I ∧ ∀ i, i < I → (X.getD i []).length = A ∧ ∀ a, a < A → ((X.getD i []).getD a []).length = B
theorem Shp.upd3 {X : List (List (List Int))} {I A B i a b : Nat} {v : Int} (h : Shp X I A B) (hi : i < I) (ha : a < A) : Shp (Proofs.Ytfcnhnbnjdccfaa.upd3 X i a b v) I A B := by
  obtain ⟨h1, h2⟩ := h
  unfold Proofs.Ytfcnhnbnjdccfaa.upd3
  refine ⟨by simp [h1], fun j hj => ?_⟩
  rw [getD_set3 _ _ _ _ _ (by omega)]
  by_cases e : j = i
  · subst e
    rw [if_pos rfl]
    refine ⟨by rw [List.length_set]; exact (h2 j hj).1, fun c hc => ?_⟩
    rw [getD_set3 _ _ _ _ _ (by rw [(h2 j hj).1]; exact ha)]
    by_cases e2 : c = a
    · subst e2; rw [if_pos rfl, List.length_set]; exact (h2 j hj).2 c hc
    · rw [if_neg e2]; exact (h2 j hj).2 c hc
  · rw [if_neg e]; exact h2 j hj
theorem Shp.zeros (I A B : Nat) : Shp (zeros3 I A B) I A B := by
  refine ⟨by simp [zeros3], fun i hi => ?_⟩
  have e : (zeros3 I A B).getD i [] = zeros2 A B := by simp [zeros3, List.getD, hi]
  rw [e]
  refine ⟨by simp [zeros2], fun a ha => ?_⟩
  have e : (zeros2 A B).getD a [] = List.replicate B 0 := by simp [zeros2, List.getD, ha]
  rw [e]; simp
/-- Where the loops stand. -/
structure MS (w0 w : World) (bg bo hi : Nat) (us : List Value) (tyO : TypeId) (I A B : Nat) (G : List Int) (X : List (List (List Int))) : Prop where
  upd : Upd [bg] w0 w
  blk : Blk w bo us tyO
  mids : MidsR w (bo + 1) hi us X
  shp : Shp X I A B
  grid : ∃ ty, Blk w bg (G.map (.int .i64)) ty
  glen : G.length = 539
  gin : ∀ x ∈ G, inR .i64 x
  low : bg < bo ∧ w0.heap.size ≤ bo
set_option maxHeartbeats 2000000 in
theorem marks_b {X : Ctx} {df : List Deferred} {N : Nat} {M : Nat → Option Obj} {T : List (List Int)} {H A B : List Int} {f : Int} (bd od bg bo hi nH nA nB i a : Nat) (us : List Value) (tyO : TypeId) (w0 : World) (hnH : nH ≤ 10) (hnA : nA ≤ 6) (hnB : nB ≤ 6) (hi1 : i < nH + 1) (ha1 : a < nA + 1) (hM : ∀ b o, M b = some o → b ≠ bg ∧ w0.heap[b]? = some o) (hMb : M bg = none) (hd : ∀ ρ, RepV ⟨ρ, M⟩ (.fe DeskT (T, H, f, A, B) 0) (.pointer (some ⟨bd, od, none⟩))) (G2 : List Int) (X2 : List (List (List Int))) (hk : ∀ w, MS w0 w bg bo hi us tyO (nH + 1) (nA + 1) (nB + 1) G2 X2 → St Try.prog X 79 K67_23 [(34, (.int .i64 (a : Int))), (33, (.int .i64 ((nA + 1 : Nat) : Int))), (10, (.int .i64 (i : Int))), (26, (.int .i64 (i : Int))), (25, (.int .i64 ((nH + 1 : Nat) : Int))), (6, (.pointer (some ⟨bd, od, none⟩))), (8, (.pointer (some ⟨bg, 0, none⟩))), (9, (.slice (some ⟨bo, 0, none⟩) (nH + 1) (nH + 1)))] df w) :
    ∀ (k b : Nat) (G : List Int) (XX : List (List (List Int))) (w : World), k + b = nB + 1 → mkB N (T, H, f, A, B) i a k b G XX = some (G2, X2) → MS w0 w bg bo hi us tyO (nH + 1) (nA + 1) (nB + 1) G XX → St Try.prog X 79 K67_20 [(45, (.int .i64 (b : Int))), (44, (.int .i64 ((nB + 1 : Nat) : Int))), (11, (.int .i64 (a : Int))), (34, (.int .i64 (a : Int))), (33, (.int .i64 ((nA + 1 : Nat) : Int))), (10, (.int .i64 (i : Int))), (26, (.int .i64 (i : Int))), (25, (.int .i64 ((nH + 1 : Nat) : Int))), (6, (.pointer (some ⟨bd, od, none⟩))), (8, (.pointer (some ⟨bg, 0, none⟩))), (9, (.slice (some ⟨bo, 0, none⟩) (nH + 1) (nH + 1)))] df w := by
  intro k
  induction k with
  | zero =>
    intro b G XX w hkb hq hS
    simp only [mkB, Option.some.injEq, Prod.mk.injEq] at hq
    obtain ⟨rfl, rfl⟩ := hq
    refine St.reg K67_21 [(0, true)] (by kernel_rfl) (by kernel_rfl) ?_
    refine RX.q 1 [] [(46, .bool (decide ((b : Int) < ((nB + 1 : Nat) : Int)))), (45, (.int .i64 (b : Int))), (44, (.int .i64 ((nB + 1 : Nat) : Int))), (11, (.int .i64 (a : Int))), (34, (.int .i64 (a : Int))), (33, (.int .i64 ((nA + 1 : Nat) : Int))), (10, (.int .i64 (i : Int))), (26, (.int .i64 (i : Int))), (25, (.int .i64 ((nH + 1 : Nat) : Int))), (6, (.pointer (some ⟨bd, od, none⟩))), (8, (.pointer (some ⟨bg, 0, none⟩))), (9, (.slice (some ⟨bo, 0, none⟩) (nH + 1) (nH + 1)))] [] (by kernel_rfl) trivial ?_
    refine RX.done [(46, .bool (decide ((b : Int) < ((nB + 1 : Nat) : Int)))), (45, (.int .i64 (b : Int))), (44, (.int .i64 ((nB + 1 : Nat) : Int))), (11, (.int .i64 (a : Int))), (34, (.int .i64 (a : Int))), (33, (.int .i64 ((nA + 1 : Nat) : Int))), (10, (.int .i64 (i : Int))), (26, (.int .i64 (i : Int))), (25, (.int .i64 ((nH + 1 : Nat) : Int))), (6, (.pointer (some ⟨bd, od, none⟩))), (8, (.pointer (some ⟨bg, 0, none⟩))), (9, (.slice (some ⟨bo, 0, none⟩) (nH + 1) (nH + 1)))] (by kernel_rfl) (by kernel_rfl) ?_
    refine St.cond (k1 := K67_22) (k2 := K67_23) (decide ((b : Int) < ((nB + 1 : Nat) : Int))) (by kernel_rfl) (fun hc => ?_) (fun hc => ?_)
    · have hh : (b : Int) < ((nB + 1 : Nat) : Int) := by simpa using hc
      omega
    · exact St.weak (L' := [(34, (.int .i64 (a : Int))), (33, (.int .i64 ((nA + 1 : Nat) : Int))), (10, (.int .i64 (i : Int))), (26, (.int .i64 (i : Int))), (25, (.int .i64 ((nH + 1 : Nat) : Int))), (6, (.pointer (some ⟨bd, od, none⟩))), (8, (.pointer (some ⟨bg, 0, none⟩))), (9, (.slice (some ⟨bo, 0, none⟩) (nH + 1) (nH + 1)))]) (by kernel_rfl) (hk w hS)
  | succ k ih =>
    intro b G XX w hkb hq hS
    unfold mkB at hq
    obtain ⟨⟨v, G'⟩, hq1, hq2⟩ := bind_some hq
    dsimp only at hq2
    have hbl : b < nB + 1 := by omega
    refine St.reg K67_21 [(0, true)] (by kernel_rfl) (by kernel_rfl) ?_
    refine RX.q 1 [] [(46, .bool (decide ((b : Int) < ((nB + 1 : Nat) : Int)))), (45, (.int .i64 (b : Int))), (44, (.int .i64 ((nB + 1 : Nat) : Int))), (11, (.int .i64 (a : Int))), (34, (.int .i64 (a : Int))), (33, (.int .i64 ((nA + 1 : Nat) : Int))), (10, (.int .i64 (i : Int))), (26, (.int .i64 (i : Int))), (25, (.int .i64 ((nH + 1 : Nat) : Int))), (6, (.pointer (some ⟨bd, od, none⟩))), (8, (.pointer (some ⟨bg, 0, none⟩))), (9, (.slice (some ⟨bo, 0, none⟩) (nH + 1) (nH + 1)))] [] (by kernel_rfl) trivial ?_
    refine RX.done [(46, .bool (decide ((b : Int) < ((nB + 1 : Nat) : Int)))), (45, (.int .i64 (b : Int))), (44, (.int .i64 ((nB + 1 : Nat) : Int))), (11, (.int .i64 (a : Int))), (34, (.int .i64 (a : Int))), (33, (.int .i64 ((nA + 1 : Nat) : Int))), (10, (.int .i64 (i : Int))), (26, (.int .i64 (i : Int))), (25, (.int .i64 ((nH + 1 : Nat) : Int))), (6, (.pointer (some ⟨bd, od, none⟩))), (8, (.pointer (some ⟨bg, 0, none⟩))), (9, (.slice (some ⟨bo, 0, none⟩) (nH + 1) (nH + 1)))] (by kernel_rfl) (by kernel_rfl) ?_
    refine St.cond (k1 := K67_22) (k2 := K67_23) (decide ((b : Int) < ((nB + 1 : Nat) : Int))) (by kernel_rfl) (fun hc => ?_) (fun hc => ?_)
    rotate_left
    · have hh : ((nB + 1 : Nat) : Int) ≤ (b : Int) := by simpa using hc
      omega
    clear hc
    refine St.weak (L' := [(45, (.int .i64 (b : Int))), (44, (.int .i64 ((nB + 1 : Nat) : Int))), (11, (.int .i64 (a : Int))), (34, (.int .i64 (a : Int))), (33, (.int .i64 ((nA + 1 : Nat) : Int))), (10, (.int .i64 (i : Int))), (26, (.int .i64 (i : Int))), (25, (.int .i64 ((nH + 1 : Nat) : Int))), (6, (.pointer (some ⟨bd, od, none⟩))), (8, (.pointer (some ⟨bg, 0, none⟩))), (9, (.slice (some ⟨bo, 0, none⟩) (nH + 1) (nH + 1)))]) (by kernel_rfl) ?_
    refine St.reg K67_24 [(0, true), (1, true)] (by kernel_rfl) (by kernel_rfl) ?_
    refine RX.q 2 [] [(12, (.int .i64 (b : Int))), (45, (.int .i64 (b : Int))), (44, (.int .i64 ((nB + 1 : Nat) : Int))), (11, (.int .i64 (a : Int))), (34, (.int .i64 (a : Int))), (33, (.int .i64 ((nA + 1 : Nat) : Int))), (10, (.int .i64 (i : Int))), (26, (.int .i64 (i : Int))), (25, (.int .i64 ((nH + 1 : Nat) : Int))), (6, (.pointer (some ⟨bd, od, none⟩))), (8, (.pointer (some ⟨bg, 0, none⟩))), (9, (.slice (some ⟨bo, 0, none⟩) (nH + 1) (nH + 1)))] [] (by kernel_rfl) trivial ?_
    refine RX.done [(12, (.int .i64 (b : Int))), (45, (.int .i64 (b : Int))), (44, (.int .i64 ((nB + 1 : Nat) : Int))), (11, (.int .i64 (a : Int))), (34, (.int .i64 (a : Int))), (33, (.int .i64 ((nA + 1 : Nat) : Int))), (10, (.int .i64 (i : Int))), (26, (.int .i64 (i : Int))), (25, (.int .i64 ((nH + 1 : Nat) : Int))), (6, (.pointer (some ⟨bd, od, none⟩))), (8, (.pointer (some ⟨bg, 0, none⟩))), (9, (.slice (some ⟨bo, 0, none⟩) (nH + 1) (nH + 1)))] (by kernel_rfl) (by kernel_rfl) ?_
    obtain ⟨tyg, hg⟩ := hS.grid
    have hlow := hS.low
    have hbgl := lt_of_blk hg
    have hsz := hS.upd.size
    refine St.drw K67_25 [bg] [(0, true), (1, true), (2, true), (3, true), (4, true), (5, true), (6, true), (8, true), (9, true), (7, false), (10, true), (11, false)] mixed (by kernel_rfl) (by kernel_rfl) ?_
    intro w1 hd1 hds
    have hx1 : ∀ w', (Instr.indexAt 159 (.pointer (some ⟨bg, 0, none⟩)) (.int .i64 (i : Int))).run Try.prog w' = .ok (.pointer (some ⟨bg, 0 + i * 49, none⟩)) w' := fun w' => idx_arr (e := 157) (sz := 49) (n := 11) (by kernel_rfl) (by kernel_rfl) bg 0 i (by omega) _
    have hx2 : ∀ w', (Instr.indexAt 157 (.pointer (some ⟨bg, 0 + i * 49, none⟩)) (.int .i64 (a : Int))).run Try.prog w' = .ok (.pointer (some ⟨bg, 0 + i * 49 + a * 7, none⟩)) w' := fun w' => idx_arr (e := 156) (sz := 7) (n := 7) (by kernel_rfl) (by kernel_rfl) bg _ a (by omega) _
    have hx3 : ∀ w', (Instr.indexAt 156 (.pointer (some ⟨bg, 0 + i * 49 + a * 7, none⟩)) (.int .i64 (b : Int))).run Try.prog w' = .ok (.pointer (some ⟨bg, 0 + i * 49 + a * 7 + b * 1, none⟩)) w' := fun w' => idx_arr (e := 3) (sz := 1) (n := 7) (by kernel_rfl) (by kernel_rfl) bg _ b (by omega) _
    refine RX.qd 9 [(8, true, (.pointer (some ⟨bg, 0 + i * 49, none⟩))), (9, true, (.pointer (some ⟨bg, 0 + i * 49 + a * 7, none⟩)))] [(57, (.pointer (some ⟨bg, 0 + i * 49 + a * 7, none⟩))), (48, (.int .i64 (i : Int))), (49, (.int .i64 (a : Int))), (50, (.int .i64 (b : Int))), (51, (.pointer (some ⟨bd, od, none⟩))), (52, (.int .i64 (i : Int))), (53, (.int .i64 (a : Int))), (54, (.int .i64 (b : Int))), (12, (.int .i64 (b : Int))), (45, (.int .i64 (b : Int))), (44, (.int .i64 ((nB + 1 : Nat) : Int))), (11, (.int .i64 (a : Int))), (34, (.int .i64 (a : Int))), (33, (.int .i64 ((nA + 1 : Nat) : Int))), (10, (.int .i64 (i : Int))), (26, (.int .i64 (i : Int))), (25, (.int .i64 ((nH + 1 : Nat) : Int))), (6, (.pointer (some ⟨bd, od, none⟩))), (8, (.pointer (some ⟨bg, 0, none⟩))), (9, (.slice (some ⟨bo, 0, none⟩) (nH + 1) (nH + 1)))] [.raw (Instr.indexAt 159 (.pointer (some ⟨bg, 0, none⟩)) (.int .i64 (i : Int))) (.pointer (some ⟨bg, 0 + i * 49, none⟩)), .raw (Instr.indexAt 157 (.pointer (some ⟨bg, 0 + i * 49, none⟩)) (.int .i64 (a : Int))) (.pointer (some ⟨bg, 0 + i * 49 + a * 7, none⟩))] (by kernel_rfl) ⟨hx1 _, hx2 _⟩ ⟨fun w' _ => hx1 w', fun w' _ => hx2 w'⟩ ?_
    refine RX.callD 55 110 #[(.pointer (some ⟨bd, od, none⟩)), (.pointer (some ⟨bg, 0, none⟩)), (.int .i64 (i : Int)), (.int .i64 (a : Int)), (.int .i64 (b : Int))] [(57, (.pointer (some ⟨bg, 0 + i * 49 + a * 7, none⟩))), (48, (.int .i64 (i : Int))), (49, (.int .i64 (a : Int))), (50, (.int .i64 (b : Int))), (51, (.pointer (some ⟨bd, od, none⟩))), (52, (.int .i64 (i : Int))), (53, (.int .i64 (a : Int))), (54, (.int .i64 (b : Int))), (12, (.int .i64 (b : Int))), (45, (.int .i64 (b : Int))), (44, (.int .i64 ((nB + 1 : Nat) : Int))), (11, (.int .i64 (a : Int))), (34, (.int .i64 (a : Int))), (33, (.int .i64 ((nA + 1 : Nat) : Int))), (10, (.int .i64 (i : Int))), (26, (.int .i64 (i : Int))), (25, (.int .i64 ((nH + 1 : Nat) : Int))), (6, (.pointer (some ⟨bd, od, none⟩))), (8, (.pointer (some ⟨bg, 0, none⟩))), (9, (.slice (some ⟨bo, 0, none⟩) (nH + 1) (nH + 1)))] (fun _ => by kernel_rfl) (by kernel_rfl) ?_
    refine Fn.mono (bound_fn hq1 (fun b o h => Ext.blk hd1 (hS.upd.blk (hM b o h).2 (by simp [(hM b o h).1]))) hMb hd (Ext.blk hd1 hg) hS.glen hS.gin (inR_nat (by omega)) (inR_nat (by omega)) (inR_nat (by omega))) ?_
    rintro v' w2 ⟨rfl, hvi, hU2, ⟨ty', hg2⟩, hl2, hin2⟩
    refine ⟨hU2, ?_⟩
    refine RX.qd 1 [(10, true, (.pointer (some ⟨bg, 0 + i * 49 + a * 7 + b * 1, none⟩)))] [(58, (.pointer (some ⟨bg, 0 + i * 49 + a * 7 + b * 1, none⟩))), (55, (.int .i64 v)), (12, (.int .i64 (b : Int))), (45, (.int .i64 (b : Int))), (44, (.int .i64 ((nB + 1 : Nat) : Int))), (11, (.int .i64 (a : Int))), (34, (.int .i64 (a : Int))), (33, (.int .i64 ((nA + 1 : Nat) : Int))), (10, (.int .i64 (i : Int))), (26, (.int .i64 (i : Int))), (25, (.int .i64 ((nH + 1 : Nat) : Int))), (6, (.pointer (some ⟨bd, od, none⟩))), (8, (.pointer (some ⟨bg, 0, none⟩))), (9, (.slice (some ⟨bo, 0, none⟩) (nH + 1) (nH + 1)))] [.raw (Instr.indexAt 156 (.pointer (some ⟨bg, 0 + i * 49 + a * 7, none⟩)) (.int .i64 (b : Int))) (.pointer (some ⟨bg, 0 + i * 49 + a * 7 + b * 1, none⟩))] (by kernel_rfl) (hx3 _) (fun w' _ => hx3 w') ?_
    rw [show 0 + i * 49 + a * 7 + b * 1 = i * 49 + a * 7 + b by omega]
    refine RX.store1L bg (i * 49 + a * 7 + b) (.int .i64 v) (G'.map (.int .i64)) ty' (by kernel_rfl) rfl hg2 (by rw [List.length_map]; omega) (by kernel_rfl) ?_
    intro w3 hp
    have hs3 := hp.size
    have hg3 : Blk w3 bg ((G'.set (i * 49 + a * 7 + b) v).map (.int .i64)) ty' := by
      rw [List.map_set]; exact hp.blk
    have hU3 : Upd [bg] w w3 := ((hd1.mono (fun k h => by cases h)).trans hU2).trans hp.upd
    refine RX.done [(12, (.int .i64 (b : Int))), (45, (.int .i64 (b : Int))), (44, (.int .i64 ((nB + 1 : Nat) : Int))), (11, (.int .i64 (a : Int))), (34, (.int .i64 (a : Int))), (33, (.int .i64 ((nA + 1 : Nat) : Int))), (10, (.int .i64 (i : Int))), (26, (.int .i64 (i : Int))), (25, (.int .i64 ((nH + 1 : Nat) : Int))), (6, (.pointer (some ⟨bd, od, none⟩))), (8, (.pointer (some ⟨bg, 0, none⟩))), (9, (.slice (some ⟨bo, 0, none⟩) (nH + 1) (nH + 1)))] (by kernel_rfl) (by kernel_rfl) ?_
    have hm3 : MidsR w3 (bo + 1) hi us XX := MidsR.upd hU3 hS.mids (fun k hk => by simp at hk; omega)
    obtain ⟨hXl, hXs⟩ := hS.shp
    obtain ⟨hF, hFr⟩ := hXs i hi1
    have hrow := hFr a ha1
    obtain ⟨m, vs, mid, tyM, m1, m2, m3, m4, m5, m6⟩ := hm3.at (i := i) (by omega)
    obtain ⟨r, tyR, r1, r2, r3, r4, r5, r6⟩ := m5.at (a := a) (by omega)
    rw [hF] at m1
    rw [hrow] at r1
    have hb3 : Blk w3 bo us tyO := hU3.blk hS.blk (by simp; omega)
    refine St.drw K67_26 [] [(0, true), (1, true), (2, true), (3, true), (4, true), (5, true), (6, true), (7, true), (8, true), (9, true), (10, true), (11, true), (12, true), (13, true), (14, true), (15, true), (16, false)] mixed (by kernel_rfl) (by kernel_rfl) ?_
    intro w4 hd4 hds4
    have hy1 : ∀ w', (Instr.indexAt 100 (.slice (some ⟨bo, 0, none⟩) (nH + 1) (nH + 1)) (.int .i64 (i : Int))).run Try.prog w' = .ok (.pointer (some ⟨bo, 0 + i * 1, none⟩)) w' := fun w' => idx_sl (e := 23) (sz := 1) (by kernel_rfl) (by kernel_rfl) bo 0 (nH + 1) (nH + 1) i hi1 _
    have hy2 : ∀ w', (Instr.indexAt 23 (.slice (some ⟨m, 0, none⟩) (nA + 1) (nA + 1)) (.int .i64 (a : Int))).run Try.prog w' = .ok (.pointer (some ⟨m, 0 + a * 1, none⟩)) w' := fun w' => idx_sl (e := 24) (sz := 1) (by kernel_rfl) (by kernel_rfl) m 0 (nA + 1) (nA + 1) a ha1 _
    have hy3 : ∀ w', (Instr.indexAt 24 (.slice (some ⟨r, 0, none⟩) (nB + 1) (nB + 1)) (.int .i64 (b : Int))).run Try.prog w' = .ok (.pointer (some ⟨r, 0 + b * 1, none⟩)) w' := fun w' => idx_sl (e := 3) (sz := 1) (by kernel_rfl) (by kernel_rfl) r 0 (nB + 1) (nB + 1) b hbl _
    have hc1 : w4.cell? ⟨bo, 0 + i * 1, none⟩ = some (.slice (some ⟨m, 0, none⟩) (nA + 1) (nA + 1)) := by rw [show 0 + i * 1 = i by omega]; exact Blk.cell (Ext.blk hd4 hb3) m1
    have hc2 : w4.cell? ⟨m, 0 + a * 1, none⟩ = some (.slice (some ⟨r, 0, none⟩) (nB + 1) (nB + 1)) := by rw [show 0 + a * 1 = a by omega]; exact Blk.cell (Ext.blk hd4 m4) r1
    have hc3 : w4.cell? ⟨bg, 0 + i * 49 + a * 7 + b * 1, none⟩ = some (.int .i64 v) := by
      rw [show 0 + i * 49 + a * 7 + b * 1 = i * 49 + a * 7 + b by omega]
      exact Blk.cell (Ext.blk hd4 hg3) (by rw [List.map_set, List.getElem?_set_self (by rw [List.length_map]; omega)])
    refine RX.qd 16 [(2, true, (.pointer (some ⟨bo, 0 + i * 1, none⟩))), (3, true, (.slice (some ⟨m, 0, none⟩) (nA + 1) (nA + 1))), (5, true, (.pointer (some ⟨m, 0 + a * 1, none⟩))), (6, true, (.slice (some ⟨r, 0, none⟩) (nB + 1) (nB + 1))), (11, true, (.pointer (some ⟨bg, 0 + i * 49, none⟩))), (12, true, (.pointer (some ⟨bg, 0 + i * 49 + a * 7, none⟩))), (13, true, (.pointer (some ⟨bg, 0 + i * 49 + a * 7 + b * 1, none⟩))), (14, true, (.int .i64 v)), (15, true, (.pointer (some ⟨r, 0 + b * 1, none⟩)))] [(74, (.pointer (some ⟨r, 0 + b * 1, none⟩))), (73, (.int .i64 v)), (45, (.int .i64 (b : Int))), (44, (.int .i64 ((nB + 1 : Nat) : Int))), (11, (.int .i64 (a : Int))), (34, (.int .i64 (a : Int))), (33, (.int .i64 ((nA + 1 : Nat) : Int))), (10, (.int .i64 (i : Int))), (26, (.int .i64 (i : Int))), (25, (.int .i64 ((nH + 1 : Nat) : Int))), (6, (.pointer (some ⟨bd, od, none⟩))), (8, (.pointer (some ⟨bg, 0, none⟩))), (9, (.slice (some ⟨bo, 0, none⟩) (nH + 1) (nH + 1)))] [.raw (Instr.indexAt 100 (.slice (some ⟨bo, 0, none⟩) (nH + 1) (nH + 1)) (.int .i64 (i : Int))) (.pointer (some ⟨bo, 0 + i * 1, none⟩)), .cell ⟨bo, 0 + i * 1, none⟩ (.slice (some ⟨m, 0, none⟩) (nA + 1) (nA + 1)), .raw (Instr.indexAt 23 (.slice (some ⟨m, 0, none⟩) (nA + 1) (nA + 1)) (.int .i64 (a : Int))) (.pointer (some ⟨m, 0 + a * 1, none⟩)), .cell ⟨m, 0 + a * 1, none⟩ (.slice (some ⟨r, 0, none⟩) (nB + 1) (nB + 1)), .raw (Instr.indexAt 159 (.pointer (some ⟨bg, 0, none⟩)) (.int .i64 (i : Int))) (.pointer (some ⟨bg, 0 + i * 49, none⟩)), .raw (Instr.indexAt 157 (.pointer (some ⟨bg, 0 + i * 49, none⟩)) (.int .i64 (a : Int))) (.pointer (some ⟨bg, 0 + i * 49 + a * 7, none⟩)), .raw (Instr.indexAt 156 (.pointer (some ⟨bg, 0 + i * 49 + a * 7, none⟩)) (.int .i64 (b : Int))) (.pointer (some ⟨bg, 0 + i * 49 + a * 7 + b * 1, none⟩)), .cell ⟨bg, 0 + i * 49 + a * 7 + b * 1, none⟩ (.int .i64 v), .raw (Instr.indexAt 24 (.slice (some ⟨r, 0, none⟩) (nB + 1) (nB + 1)) (.int .i64 (b : Int))) (.pointer (some ⟨r, 0 + b * 1, none⟩))] (by kernel_rfl) ⟨hy1 _, hc1, hy2 _, hc2, hx1 _, hx2 _, hx3 _, hc3, hy3 _⟩ ⟨fun w' _ => hy1 w', List.not_mem_nil, fun w' _ => hy2 w', List.not_mem_nil, fun w' _ => hx1 w', fun w' _ => hx2 w', fun w' _ => hx3 w', List.not_mem_nil, fun w' _ => hy3 w'⟩ ?_
    rw [show 0 + b * 1 = b by omega]
    refine RX.store1L r b (.int .i64 v) (((XX.getD i []).getD a []).map (.int .i64)) tyR (by kernel_rfl) rfl (Ext.blk hd4 r5) (by rw [List.length_map]; omega) (by kernel_rfl) ?_
    intro w5 hp5
    have hs5 := hp5.size
    refine RX.done [(45, (.int .i64 (b : Int))), (44, (.int .i64 ((nB + 1 : Nat) : Int))), (11, (.int .i64 (a : Int))), (34, (.int .i64 (a : Int))), (33, (.int .i64 ((nA + 1 : Nat) : Int))), (10, (.int .i64 (i : Int))), (26, (.int .i64 (i : Int))), (25, (.int .i64 ((nH + 1 : Nat) : Int))), (6, (.pointer (some ⟨bd, od, none⟩))), (8, (.pointer (some ⟨bg, 0, none⟩))), (9, (.slice (some ⟨bo, 0, none⟩) (nH + 1) (nH + 1)))] (by kernel_rfl) (by kernel_rfl) ?_
    refine St.reg K67_20 [(0, true), (1, true)] (by kernel_rfl) (by kernel_rfl) ?_
    refine RX.q 2 [(0, false, .int .i64 ((b : Int) + 1))] [(45, .int .i64 ((b : Int) + 1)), (44, (.int .i64 ((nB + 1 : Nat) : Int))), (11, (.int .i64 (a : Int))), (34, (.int .i64 (a : Int))), (33, (.int .i64 ((nA + 1 : Nat) : Int))), (10, (.int .i64 (i : Int))), (26, (.int .i64 (i : Int))), (25, (.int .i64 ((nH + 1 : Nat) : Int))), (6, (.pointer (some ⟨bd, od, none⟩))), (8, (.pointer (some ⟨bg, 0, none⟩))), (9, (.slice (some ⟨bo, 0, none⟩) (nH + 1) (nH + 1)))] [.eq (.int .i64 (IntKind.i64.wrap ((b : Int) + 1))) (.int .i64 ((b : Int) + 1))] (by kernel_rfl) (int64 (by omega)) ?_
    refine RX.done [(45, .int .i64 ((b : Int) + 1)), (44, (.int .i64 ((nB + 1 : Nat) : Int))), (11, (.int .i64 (a : Int))), (34, (.int .i64 (a : Int))), (33, (.int .i64 ((nA + 1 : Nat) : Int))), (10, (.int .i64 (i : Int))), (26, (.int .i64 (i : Int))), (25, (.int .i64 ((nH + 1 : Nat) : Int))), (6, (.pointer (some ⟨bd, od, none⟩))), (8, (.pointer (some ⟨bg, 0, none⟩))), (9, (.slice (some ⟨bo, 0, none⟩) (nH + 1) (nH + 1)))] (by kernel_rfl) (by kernel_rfl) ?_
    have hU5 : Upd [r] w3 w5 := (hd4.mono (fun k h => by cases h)).trans hp5.upd
    have hr5 : Blk w5 r ((((XX.getD i []).getD a []).set b v).map (.int .i64)) tyR := by
      rw [List.map_set]; exact hp5.blk
    have hin5 : ∀ x ∈ ((XX.getD i []).getD a []).set b v, inR .i64 x := fun x hx => by
      rcases List.mem_or_eq_of_mem_set hx with h | h
      · exact r3 x h
      · subst h; exact hvi
    have hR5 := r6 w5 (((XX.getD i []).getD a []).set b v) (by simp) hin5 hU5 hr5
    have hM5 := m6 w5 ((XX.getD i []).set a (((XX.getD i []).getD a []).set b v)) [r] (by simp) hU5 (fun k hk => by simp at hk; omega) hR5
    have hs4 := hd4.size
    refine St.weak (by kernel_rfl) (ih (b + 1) _ _ w5 (by omega) hq2 ⟨?_, hU5.blk hb3 (by simp; omega), hM5, hS.shp.upd3 hi1 ha1, ⟨ty', hU5.blk hg3 (by simp; omega)⟩, by simp [hl2], fun x hx => ?_, hlow⟩)
    · exact (hS.upd.trans hU3).trans_old hU5 (fun k hk => by simp at hk; omega)
    · rcases List.mem_or_eq_of_mem_set hx with h | h
      · exact hin2 x h
      · subst h; exact hvi
set_option maxHeartbeats 2000000 in
theorem marks_a {X : Ctx} {df : List Deferred} {N : Nat} {M : Nat → Option Obj} {T : List (List Int)} {H A B : List Int} {f : Int} (bd od bg bo hi nH nA nB i : Nat) (us : List Value) (tyO : TypeId) (w0 : World) (hnH : nH ≤ 10) (hnA : nA ≤ 6) (hnB : nB ≤ 6) (hi1 : i < nH + 1) (hM : ∀ b o, M b = some o → b ≠ bg ∧ w0.heap[b]? = some o) (hMb : M bg = none) (hd : ∀ ρ, RepV ⟨ρ, M⟩ (.fe DeskT (T, H, f, A, B) 0) (.pointer (some ⟨bd, od, none⟩))) (G2 : List Int) (X2 : List (List (List Int))) (hk : ∀ w, MS w0 w bg bo hi us tyO (nH + 1) (nA + 1) (nB + 1) G2 X2 → St Try.prog X 79 K67_18 [(26, (.int .i64 (i : Int))), (25, (.int .i64 ((nH + 1 : Nat) : Int))), (6, (.pointer (some ⟨bd, od, none⟩))), (8, (.pointer (some ⟨bg, 0, none⟩))), (9, (.slice (some ⟨bo, 0, none⟩) (nH + 1) (nH + 1)))] df w) :
    ∀ (k a : Nat) (G : List Int) (XX : List (List (List Int))) (w : World), k + a = nA + 1 → mkA N (T, H, f, A, B) (nB + 1) i k a G XX = some (G2, X2) → MS w0 w bg bo hi us tyO (nH + 1) (nA + 1) (nB + 1) G XX → St Try.prog X 79 K67_15 [(34, (.int .i64 (a : Int))), (33, (.int .i64 ((nA + 1 : Nat) : Int))), (10, (.int .i64 (i : Int))), (26, (.int .i64 (i : Int))), (25, (.int .i64 ((nH + 1 : Nat) : Int))), (6, (.pointer (some ⟨bd, od, none⟩))), (8, (.pointer (some ⟨bg, 0, none⟩))), (9, (.slice (some ⟨bo, 0, none⟩) (nH + 1) (nH + 1)))] df w := by
  intro k
  induction k with
  | zero =>
    intro a G XX w hkb hq hS
    simp only [mkA, Option.some.injEq, Prod.mk.injEq] at hq
    obtain ⟨rfl, rfl⟩ := hq
    refine St.reg K67_16 [(0, true)] (by kernel_rfl) (by kernel_rfl) ?_
    refine RX.q 1 [] [(35, .bool (decide ((a : Int) < ((nA + 1 : Nat) : Int)))), (34, (.int .i64 (a : Int))), (33, (.int .i64 ((nA + 1 : Nat) : Int))), (10, (.int .i64 (i : Int))), (26, (.int .i64 (i : Int))), (25, (.int .i64 ((nH + 1 : Nat) : Int))), (6, (.pointer (some ⟨bd, od, none⟩))), (8, (.pointer (some ⟨bg, 0, none⟩))), (9, (.slice (some ⟨bo, 0, none⟩) (nH + 1) (nH + 1)))] [] (by kernel_rfl) trivial ?_
    refine RX.done [(35, .bool (decide ((a : Int) < ((nA + 1 : Nat) : Int)))), (34, (.int .i64 (a : Int))), (33, (.int .i64 ((nA + 1 : Nat) : Int))), (10, (.int .i64 (i : Int))), (26, (.int .i64 (i : Int))), (25, (.int .i64 ((nH + 1 : Nat) : Int))), (6, (.pointer (some ⟨bd, od, none⟩))), (8, (.pointer (some ⟨bg, 0, none⟩))), (9, (.slice (some ⟨bo, 0, none⟩) (nH + 1) (nH + 1)))] (by kernel_rfl) (by kernel_rfl) ?_
    refine St.cond (k1 := K67_17) (k2 := K67_18) (decide ((a : Int) < ((nA + 1 : Nat) : Int))) (by kernel_rfl) (fun hc => ?_) (fun hc => ?_)
    · have hh : (a : Int) < ((nA + 1 : Nat) : Int) := by simpa using hc
      omega
    · exact St.weak (L' := [(26, (.int .i64 (i : Int))), (25, (.int .i64 ((nH + 1 : Nat) : Int))), (6, (.pointer (some ⟨bd, od, none⟩))), (8, (.pointer (some ⟨bg, 0, none⟩))), (9, (.slice (some ⟨bo, 0, none⟩) (nH + 1) (nH + 1)))]) (by kernel_rfl) (hk w hS)
  | succ k ih =>
    intro a G XX w hkb hq hS
    unfold mkA at hq
    obtain ⟨⟨G', X'⟩, hq1, hq2⟩ := bind_some hq
    dsimp only at hq2
    have ha1 : a < nA + 1 := by omega
    refine St.reg K67_16 [(0, true)] (by kernel_rfl) (by kernel_rfl) ?_
    refine RX.q 1 [] [(35, .bool (decide ((a : Int) < ((nA + 1 : Nat) : Int)))), (34, (.int .i64 (a : Int))), (33, (.int .i64 ((nA + 1 : Nat) : Int))), (10, (.int .i64 (i : Int))), (26, (.int .i64 (i : Int))), (25, (.int .i64 ((nH + 1 : Nat) : Int))), (6, (.pointer (some ⟨bd, od, none⟩))), (8, (.pointer (some ⟨bg, 0, none⟩))), (9, (.slice (some ⟨bo, 0, none⟩) (nH + 1) (nH + 1)))] [] (by kernel_rfl) trivial ?_
    refine RX.done [(35, .bool (decide ((a : Int) < ((nA + 1 : Nat) : Int)))), (34, (.int .i64 (a : Int))), (33, (.int .i64 ((nA + 1 : Nat) : Int))), (10, (.int .i64 (i : Int))), (26, (.int .i64 (i : Int))), (25, (.int .i64 ((nH + 1 : Nat) : Int))), (6, (.pointer (some ⟨bd, od, none⟩))), (8, (.pointer (some ⟨bg, 0, none⟩))), (9, (.slice (some ⟨bo, 0, none⟩) (nH + 1) (nH + 1)))] (by kernel_rfl) (by kernel_rfl) ?_
    refine St.cond (k1 := K67_17) (k2 := K67_18) (decide ((a : Int) < ((nA + 1 : Nat) : Int))) (by kernel_rfl) (fun hc => ?_) (fun hc => ?_)
    rotate_left
    · have hh : ((nA + 1 : Nat) : Int) ≤ (a : Int) := by simpa using hc
      omega
    clear hc
    refine St.weak (L' := [(34, (.int .i64 (a : Int))), (33, (.int .i64 ((nA + 1 : Nat) : Int))), (10, (.int .i64 (i : Int))), (26, (.int .i64 (i : Int))), (25, (.int .i64 ((nH + 1 : Nat) : Int))), (6, (.pointer (some ⟨bd, od, none⟩))), (8, (.pointer (some ⟨bg, 0, none⟩))), (9, (.slice (some ⟨bo, 0, none⟩) (nH + 1) (nH + 1)))]) (by kernel_rfl) ?_
    refine St.reg K67_19 [(0, true), (1, true)] (by kernel_rfl) (by kernel_rfl) ?_
    refine RX.q 2 [] [(11, (.int .i64 (a : Int))), (34, (.int .i64 (a : Int))), (33, (.int .i64 ((nA + 1 : Nat) : Int))), (10, (.int .i64 (i : Int))), (26, (.int .i64 (i : Int))), (25, (.int .i64 ((nH + 1 : Nat) : Int))), (6, (.pointer (some ⟨bd, od, none⟩))), (8, (.pointer (some ⟨bg, 0, none⟩))), (9, (.slice (some ⟨bo, 0, none⟩) (nH + 1) (nH + 1)))] [] (by kernel_rfl) trivial ?_
    refine RX.done [(11, (.int .i64 (a : Int))), (34, (.int .i64 (a : Int))), (33, (.int .i64 ((nA + 1 : Nat) : Int))), (10, (.int .i64 (i : Int))), (26, (.int .i64 (i : Int))), (25, (.int .i64 ((nH + 1 : Nat) : Int))), (6, (.pointer (some ⟨bd, od, none⟩))), (8, (.pointer (some ⟨bg, 0, none⟩))), (9, (.slice (some ⟨bo, 0, none⟩) (nH + 1) (nH + 1)))] (by kernel_rfl) (by kernel_rfl) ?_
    obtain ⟨hXl, hXs⟩ := hS.shp
    obtain ⟨hF, hFr⟩ := hXs i hi1
    have hrow := hFr a ha1
    obtain ⟨m, vs, mid, tyM, m1, m2, m3, m4, m5, m6⟩ := hS.mids.at (i := i) (by omega)
    obtain ⟨r, tyR, r1, r2, r3, r4, r5, r6⟩ := m5.at (a := a) (by omega)
    rw [hF] at m1
    rw [hrow] at r1
    have hy1 : ∀ w', (Instr.indexAt 100 (.slice (some ⟨bo, 0, none⟩) (nH + 1) (nH + 1)) (.int .i64 (i : Int))).run Try.prog w' = .ok (.pointer (some ⟨bo, 0 + i * 1, none⟩)) w' := fun w' => idx_sl (e := 23) (sz := 1) (by kernel_rfl) (by kernel_rfl) bo 0 (nH + 1) (nH + 1) i hi1 _
    have hy2 : ∀ w', (Instr.indexAt 23 (.slice (some ⟨m, 0, none⟩) (nA + 1) (nA + 1)) (.int .i64 (a : Int))).run Try.prog w' = .ok (.pointer (some ⟨m, 0 + a * 1, none⟩)) w' := fun w' => idx_sl (e := 24) (sz := 1) (by kernel_rfl) (by kernel_rfl) m 0 (nA + 1) (nA + 1) a ha1 _
    have hc1 : w.cell? ⟨bo, 0 + i * 1, none⟩ = some (.slice (some ⟨m, 0, none⟩) (nA + 1) (nA + 1)) := by rw [show 0 + i * 1 = i by omega]; exact Blk.cell hS.blk m1
    have hc2 : w.cell? ⟨m, 0 + a * 1, none⟩ = some (.slice (some ⟨r, 0, none⟩) (nB + 1) (nB + 1)) := by rw [show 0 + a * 1 = a by omega]; exact Blk.cell m4 r1
    refine St.reg K67_20 [(0, true), (1, true), (2, true), (3, true), (4, true), (5, true), (6, true), (7, true), (8, true)] (by kernel_rfl) (by kernel_rfl) ?_
    refine RX.q 9 [(2, true, (.pointer (some ⟨bo, 0 + i * 1, none⟩))), (3, true, (.slice (some ⟨m, 0, none⟩) (nA + 1) (nA + 1))), (5, true, (.pointer (some ⟨m, 0 + a * 1, none⟩))), (6, true, (.slice (some ⟨r, 0, none⟩) (nB + 1) (nB + 1)))] [(45, .int .i64 0), (44, (.int .i64 ((nB + 1 : Nat) : Int))), (11, (.int .i64 (a : Int))), (34, (.int .i64 (a : Int))), (33, (.int .i64 ((nA + 1 : Nat) : Int))), (10, (.int .i64 (i : Int))), (26, (.int .i64 (i : Int))), (25, (.int .i64 ((nH + 1 : Nat) : Int))), (6, (.pointer (some ⟨bd, od, none⟩))), (8, (.pointer (some ⟨bg, 0, none⟩))), (9, (.slice (some ⟨bo, 0, none⟩) (nH + 1) (nH + 1)))] [.raw (Instr.indexAt 100 (.slice (some ⟨bo, 0, none⟩) (nH + 1) (nH + 1)) (.int .i64 (i : Int))) (.pointer (some ⟨bo, 0 + i * 1, none⟩)), .cell ⟨bo, 0 + i * 1, none⟩ (.slice (some ⟨m, 0, none⟩) (nA + 1) (nA + 1)), .raw (Instr.indexAt 23 (.slice (some ⟨m, 0, none⟩) (nA + 1) (nA + 1)) (.int .i64 (a : Int))) (.pointer (some ⟨m, 0 + a * 1, none⟩)), .cell ⟨m, 0 + a * 1, none⟩ (.slice (some ⟨r, 0, none⟩) (nB + 1) (nB + 1))] (by kernel_rfl) ⟨hy1 _, hc1, hy2 _, hc2⟩ ?_
    refine RX.done [(45, .int .i64 0), (44, (.int .i64 ((nB + 1 : Nat) : Int))), (11, (.int .i64 (a : Int))), (34, (.int .i64 (a : Int))), (33, (.int .i64 ((nA + 1 : Nat) : Int))), (10, (.int .i64 (i : Int))), (26, (.int .i64 (i : Int))), (25, (.int .i64 ((nH + 1 : Nat) : Int))), (6, (.pointer (some ⟨bd, od, none⟩))), (8, (.pointer (some ⟨bg, 0, none⟩))), (9, (.slice (some ⟨bo, 0, none⟩) (nH + 1) (nH + 1)))] (by kernel_rfl) (by kernel_rfl) ?_
    refine marks_b bd od bg bo hi nH nA nB i a us tyO w0 hnH hnA hnB hi1 ha1 hM hMb hd G' X' ?_ (nB + 1) 0 G XX w (by omega) hq1 hS
    intro w2 hS2
    refine St.reg K67_15 [(0, true), (1, true)] (by kernel_rfl) (by kernel_rfl) ?_
    refine RX.q 2 [(0, false, .int .i64 ((a : Int) + 1))] [(34, .int .i64 ((a : Int) + 1)), (33, (.int .i64 ((nA + 1 : Nat) : Int))), (10, (.int .i64 (i : Int))), (26, (.int .i64 (i : Int))), (25, (.int .i64 ((nH + 1 : Nat) : Int))), (6, (.pointer (some ⟨bd, od, none⟩))), (8, (.pointer (some ⟨bg, 0, none⟩))), (9, (.slice (some ⟨bo, 0, none⟩) (nH + 1) (nH + 1)))] [.eq (.int .i64 (IntKind.i64.wrap ((a : Int) + 1))) (.int .i64 ((a : Int) + 1))] (by kernel_rfl) (int64 (by omega)) ?_
    refine RX.done [(34, .int .i64 ((a : Int) + 1)), (33, (.int .i64 ((nA + 1 : Nat) : Int))), (10, (.int .i64 (i : Int))), (26, (.int .i64 (i : Int))), (25, (.int .i64 ((nH + 1 : Nat) : Int))), (6, (.pointer (some ⟨bd, od, none⟩))), (8, (.pointer (some ⟨bg, 0, none⟩))), (9, (.slice (some ⟨bo, 0, none⟩) (nH + 1) (nH + 1)))] (by kernel_rfl) (by kernel_rfl) ?_
    exact St.weak (by kernel_rfl) (ih (a + 1) G' X' w2 (by omega) hq2 hS2)
set_option maxHeartbeats 2000000 in
theorem marks_i {X : Ctx} {df : List Deferred} {N : Nat} {M : Nat → Option Obj} {T : List (List Int)} {H A B : List Int} {f : Int} (bd od bg bo hi nH nA nB : Nat) (us : List Value) (tyO : TypeId) (w0 : World) (hnH : nH ≤ 10) (hnA : nA ≤ 6) (hnB : nB ≤ 6) (hM : ∀ b o, M b = some o → b ≠ bg ∧ w0.heap[b]? = some o) (hMb : M bg = none) (hd : ∀ ρ, RepV ⟨ρ, M⟩ (.fe DeskT (T, H, f, A, B) 0) (.pointer (some ⟨bd, od, none⟩))) (G2 : List Int) (X2 : List (List (List Int))) (hk : ∀ w, MS w0 w bg bo hi us tyO (nH + 1) (nA + 1) (nB + 1) G2 X2 → St Try.prog X 79 K67_12 [(9, (.slice (some ⟨bo, 0, none⟩) (nH + 1) (nH + 1)))] df w) :
    ∀ (k i : Nat) (G : List Int) (XX : List (List (List Int))) (w : World), k + i = nH + 1 → mkI N (T, H, f, A, B) (nA + 1) (nB + 1) k i G XX = some (G2, X2) → MS w0 w bg bo hi us tyO (nH + 1) (nA + 1) (nB + 1) G XX → St Try.prog X 79 K67_9 [(26, (.int .i64 (i : Int))), (25, (.int .i64 ((nH + 1 : Nat) : Int))), (6, (.pointer (some ⟨bd, od, none⟩))), (8, (.pointer (some ⟨bg, 0, none⟩))), (9, (.slice (some ⟨bo, 0, none⟩) (nH + 1) (nH + 1)))] df w := by
  intro k
  induction k with
  | zero =>
    intro i G XX w hkb hq hS
    simp only [mkI, Option.some.injEq, Prod.mk.injEq] at hq
    obtain ⟨rfl, rfl⟩ := hq
    refine St.reg K67_10 [(0, true)] (by kernel_rfl) (by kernel_rfl) ?_
    refine RX.q 1 [] [(27, .bool (decide ((i : Int) < ((nH + 1 : Nat) : Int)))), (26, (.int .i64 (i : Int))), (25, (.int .i64 ((nH + 1 : Nat) : Int))), (6, (.pointer (some ⟨bd, od, none⟩))), (8, (.pointer (some ⟨bg, 0, none⟩))), (9, (.slice (some ⟨bo, 0, none⟩) (nH + 1) (nH + 1)))] [] (by kernel_rfl) trivial ?_
    refine RX.done [(27, .bool (decide ((i : Int) < ((nH + 1 : Nat) : Int)))), (26, (.int .i64 (i : Int))), (25, (.int .i64 ((nH + 1 : Nat) : Int))), (6, (.pointer (some ⟨bd, od, none⟩))), (8, (.pointer (some ⟨bg, 0, none⟩))), (9, (.slice (some ⟨bo, 0, none⟩) (nH + 1) (nH + 1)))] (by kernel_rfl) (by kernel_rfl) ?_
    refine St.cond (k1 := K67_11) (k2 := K67_12) (decide ((i : Int) < ((nH + 1 : Nat) : Int))) (by kernel_rfl) (fun hc => ?_) (fun hc => ?_)
    · have hh : (i : Int) < ((nH + 1 : Nat) : Int) := by simpa using hc
      omega
    · exact St.weak (L' := [(9, (.slice (some ⟨bo, 0, none⟩) (nH + 1) (nH + 1)))]) (by kernel_rfl) (hk w hS)
  | succ k ih =>
    intro i G XX w hkb hq hS
    unfold mkI at hq
    obtain ⟨⟨G', X'⟩, hq1, hq2⟩ := bind_some hq
    dsimp only at hq2
    have hi1 : i < nH + 1 := by omega
    refine St.reg K67_10 [(0, true)] (by kernel_rfl) (by kernel_rfl) ?_
    refine RX.q 1 [] [(27, .bool (decide ((i : Int) < ((nH + 1 : Nat) : Int)))), (26, (.int .i64 (i : Int))), (25, (.int .i64 ((nH + 1 : Nat) : Int))), (6, (.pointer (some ⟨bd, od, none⟩))), (8, (.pointer (some ⟨bg, 0, none⟩))), (9, (.slice (some ⟨bo, 0, none⟩) (nH + 1) (nH + 1)))] [] (by kernel_rfl) trivial ?_
    refine RX.done [(27, .bool (decide ((i : Int) < ((nH + 1 : Nat) : Int)))), (26, (.int .i64 (i : Int))), (25, (.int .i64 ((nH + 1 : Nat) : Int))), (6, (.pointer (some ⟨bd, od, none⟩))), (8, (.pointer (some ⟨bg, 0, none⟩))), (9, (.slice (some ⟨bo, 0, none⟩) (nH + 1) (nH + 1)))] (by kernel_rfl) (by kernel_rfl) ?_
    refine St.cond (k1 := K67_11) (k2 := K67_12) (decide ((i : Int) < ((nH + 1 : Nat) : Int))) (by kernel_rfl) (fun hc => ?_) (fun hc => ?_)
    rotate_left
    · have hh : ((nH + 1 : Nat) : Int) ≤ (i : Int) := by simpa using hc
      omega
    clear hc
    refine St.weak (L' := [(26, (.int .i64 (i : Int))), (25, (.int .i64 ((nH + 1 : Nat) : Int))), (6, (.pointer (some ⟨bd, od, none⟩))), (8, (.pointer (some ⟨bg, 0, none⟩))), (9, (.slice (some ⟨bo, 0, none⟩) (nH + 1) (nH + 1)))]) (by kernel_rfl) ?_
    refine St.reg K67_13 [(0, true), (1, true)] (by kernel_rfl) (by kernel_rfl) ?_
    refine RX.q 2 [] [(10, (.int .i64 (i : Int))), (26, (.int .i64 (i : Int))), (25, (.int .i64 ((nH + 1 : Nat) : Int))), (6, (.pointer (some ⟨bd, od, none⟩))), (8, (.pointer (some ⟨bg, 0, none⟩))), (9, (.slice (some ⟨bo, 0, none⟩) (nH + 1) (nH + 1)))] [] (by kernel_rfl) trivial ?_
    refine RX.done [(10, (.int .i64 (i : Int))), (26, (.int .i64 (i : Int))), (25, (.int .i64 ((nH + 1 : Nat) : Int))), (6, (.pointer (some ⟨bd, od, none⟩))), (8, (.pointer (some ⟨bg, 0, none⟩))), (9, (.slice (some ⟨bo, 0, none⟩) (nH + 1) (nH + 1)))] (by kernel_rfl) (by kernel_rfl) ?_
    obtain ⟨hXl, hXs⟩ := hS.shp
    obtain ⟨hF, hFr⟩ := hXs i hi1
    obtain ⟨m, vs, mid, tyM, m1, m2, m3, m4, m5, m6⟩ := hS.mids.at (i := i) (by omega)
    rw [hF] at m1
    have hy1 : ∀ w', (Instr.indexAt 100 (.slice (some ⟨bo, 0, none⟩) (nH + 1) (nH + 1)) (.int .i64 (i : Int))).run Try.prog w' = .ok (.pointer (some ⟨bo, 0 + i * 1, none⟩)) w' := fun w' => idx_sl (e := 23) (sz := 1) (by kernel_rfl) (by kernel_rfl) bo 0 (nH + 1) (nH + 1) i hi1 _
    have hc1 : w.cell? ⟨bo, 0 + i * 1, none⟩ = some (.slice (some ⟨m, 0, none⟩) (nA + 1) (nA + 1)) := by rw [show 0 + i * 1 = i by omega]; exact Blk.cell hS.blk m1
    refine St.reg K67_15 [(0, true), (1, true), (2, true), (3, true), (4, true), (5, true)] (by kernel_rfl) (by kernel_rfl) ?_
    refine RX.q 6 [(2, true, (.pointer (some ⟨bo, 0 + i * 1, none⟩))), (3, true, (.slice (some ⟨m, 0, none⟩) (nA + 1) (nA + 1)))] [(34, .int .i64 0), (33, (.int .i64 ((nA + 1 : Nat) : Int))), (10, (.int .i64 (i : Int))), (26, (.int .i64 (i : Int))), (25, (.int .i64 ((nH + 1 : Nat) : Int))), (6, (.pointer (some ⟨bd, od, none⟩))), (8, (.pointer (some ⟨bg, 0, none⟩))), (9, (.slice (some ⟨bo, 0, none⟩) (nH + 1) (nH + 1)))] [.raw (Instr.indexAt 100 (.slice (some ⟨bo, 0, none⟩) (nH + 1) (nH + 1)) (.int .i64 (i : Int))) (.pointer (some ⟨bo, 0 + i * 1, none⟩)), .cell ⟨bo, 0 + i * 1, none⟩ (.slice (some ⟨m, 0, none⟩) (nA + 1) (nA + 1))] (by kernel_rfl) ⟨hy1 _, hc1⟩ ?_
    refine RX.done [(34, .int .i64 0), (33, (.int .i64 ((nA + 1 : Nat) : Int))), (10, (.int .i64 (i : Int))), (26, (.int .i64 (i : Int))), (25, (.int .i64 ((nH + 1 : Nat) : Int))), (6, (.pointer (some ⟨bd, od, none⟩))), (8, (.pointer (some ⟨bg, 0, none⟩))), (9, (.slice (some ⟨bo, 0, none⟩) (nH + 1) (nH + 1)))] (by kernel_rfl) (by kernel_rfl) ?_
    refine marks_a bd od bg bo hi nH nA nB i us tyO w0 hnH hnA hnB hi1 hM hMb hd G' X' ?_ (nA + 1) 0 G XX w (by omega) hq1 hS
    intro w2 hS2
    refine St.reg K67_9 [(0, true), (1, true)] (by kernel_rfl) (by kernel_rfl) ?_
    refine RX.q 2 [(0, false, .int .i64 ((i : Int) + 1))] [(26, .int .i64 ((i : Int) + 1)), (25, (.int .i64 ((nH + 1 : Nat) : Int))), (6, (.pointer (some ⟨bd, od, none⟩))), (8, (.pointer (some ⟨bg, 0, none⟩))), (9, (.slice (some ⟨bo, 0, none⟩) (nH + 1) (nH + 1)))] [.eq (.int .i64 (IntKind.i64.wrap ((i : Int) + 1))) (.int .i64 ((i : Int) + 1))] (by kernel_rfl) (int64 (by omega)) ?_
    refine RX.done [(26, .int .i64 ((i : Int) + 1)), (25, (.int .i64 ((nH + 1 : Nat) : Int))), (6, (.pointer (some ⟨bd, od, none⟩))), (8, (.pointer (some ⟨bg, 0, none⟩))), (9, (.slice (some ⟨bo, 0, none⟩) (nH + 1) (nH + 1)))] (by kernel_rfl) (by kernel_rfl) ?_
    exact St.weak (by kernel_rfl) (ih (i + 1) G' X' w2 (by omega) hq2 hS2)
set_option maxHeartbeats 1000000 in
theorem marks_walk {X : Ctx} {df : List Deferred} {N : Nat} {M : Nat → Option Obj} {T : List (List Int)} {H A B : List Int} {f : Int} (bd od bg nH nA nB cH cA cB : Nat) (aH aA aB : Option Addr) (tyG : TypeId) (w0 : World) (hnH : nH ≤ 10) (hnA : nA ≤ 6) (hnB : nB ≤ 6) (hM : ∀ b o, M b = some o → b ≠ bg ∧ w0.heap[b]? = some o) (hMb : M bg = none) (hd : ∀ ρ, RepV ⟨ρ, M⟩ (.fe DeskT (T, H, f, A, B) 0) (.pointer (some ⟨bd, od, none⟩)))
    (hbd : bd < w0.heap.size) (hcH : w0.cell? ⟨bd, od + 1, none⟩ = some (.slice aH nH cH)) (hcA : w0.cell? ⟨bd, od + 3, none⟩ = some (.slice aA nA cA)) (hcB : w0.cell? ⟨bd, od + 4, none⟩ = some (.slice aB nB cB)) (G : List Int) (hG : Blk w0 bg (G.map (.int .i64)) tyG) (hGl : G.length = 539) (hGi : ∀ x ∈ G, inR .i64 x)
    (G2 : List Int) (X2 : List (List (List Int))) (hq : mkI N (T, H, f, A, B) (nA + 1) (nB + 1) (nH + 1) 0 G (zeros3 (nH + 1) (nA + 1) (nB + 1)) = some (G2, X2)) (hk : ∀ bo hi us tyO w, MS w0 w bg bo hi us tyO (nH + 1) (nA + 1) (nB + 1) G2 X2 → St Try.prog X 79 K67_12 [(9, (.slice (some ⟨bo, 0, none⟩) (nH + 1) (nH + 1)))] df w) :
    St Try.prog X 79 K67_7 [(6, (.pointer (some ⟨bd, od, none⟩))), (8, (.pointer (some ⟨bg, 0, none⟩)))] df w0 := by
  have hbgl := lt_of_blk hG
  refine St.reg K67_8 [(0, true), (1, false), (2, true)] (by kernel_rfl) (by kernel_rfl) ?_
  refine RX.q 1 [] [(22, (.pointer (some ⟨bd, od, none⟩))), (6, (.pointer (some ⟨bd, od, none⟩))), (8, (.pointer (some ⟨bg, 0, none⟩)))] [] (by kernel_rfl) trivial ?_
  refine RX.call 23 111 #[(.pointer (some ⟨bd, od, none⟩))] [(22, (.pointer (some ⟨bd, od, none⟩))), (6, (.pointer (some ⟨bd, od, none⟩))), (8, (.pointer (some ⟨bg, 0, none⟩)))] (fun _ => by kernel_rfl) (by kernel_rfl) ?_
  refine Fn.mono (sized_fn bd od nH nA nB cH cA cB aH aA aB w0 (by omega) (by omega) (by omega) hbd hcH hcA hcB) ?_
  rintro v' w1 ⟨hx, bo, us, tyO, rfl, hbo, hbO, hR⟩
  refine RX.q 1 [] [(6, (.pointer (some ⟨bd, od, none⟩))), (8, (.pointer (some ⟨bg, 0, none⟩))), (9, (.slice (some ⟨bo, 0, none⟩) (nH + 1) (nH + 1)))] [] (by kernel_rfl) trivial ?_
  refine RX.done [(6, (.pointer (some ⟨bd, od, none⟩))), (8, (.pointer (some ⟨bg, 0, none⟩))), (9, (.slice (some ⟨bo, 0, none⟩) (nH + 1) (nH + 1)))] (by kernel_rfl) (by kernel_rfl) ?_
  refine St.reg K67_9 [(0, true), (1, true), (2, true)] (by kernel_rfl) (by kernel_rfl) ?_
  refine RX.q 3 [] [(26, .int .i64 0), (25, (.int .i64 ((nH + 1 : Nat) : Int))), (6, (.pointer (some ⟨bd, od, none⟩))), (8, (.pointer (some ⟨bg, 0, none⟩))), (9, (.slice (some ⟨bo, 0, none⟩) (nH + 1) (nH + 1)))] [] (by kernel_rfl) trivial ?_
  refine RX.done [(26, .int .i64 0), (25, (.int .i64 ((nH + 1 : Nat) : Int))), (6, (.pointer (some ⟨bd, od, none⟩))), (8, (.pointer (some ⟨bg, 0, none⟩))), (9, (.slice (some ⟨bo, 0, none⟩) (nH + 1) (nH + 1)))] (by kernel_rfl) (by kernel_rfl) ?_
  exact marks_i bd od bg bo _ nH nA nB us tyO w0 hnH hnA hnB hM hMb hd G2 X2 (fun w h => hk bo _ us tyO w h) (nH + 1) 0 G _ w1 (by omega) hq ⟨hx.mono (fun k h => by cases h), hbO, hR, Shp.zeros _ _ _, ⟨tyG, Ext.blk hx hG⟩, hGl, hGi, by omega, hbo⟩
end Go.Proofs.Ytfcnhnbnjdccfaa

namespace Go.Proofs.Ytfcnhnbnjdccfaa
set_option linter.all false
open Go

def marks_j2 (N : Nat) (out : List (List (List Int))) : Option (List (List (List Int)) × Int) :=
  some (out, 0)
def marks_j1 (N : Nat) (d : ((List (List Int)) × ((List Int) × (Int × ((List Int) × (List Int)))))) (g : List Int) : Option (List (List (List Int)) × Int) :=
  if d.2.1.length ≤ 10 ∧ d.2.2.2.1.length ≤ 6 ∧ d.2.2.2.2.length ≤ 6 then
    (mkI N d (d.2.2.2.1.length + 1) (d.2.2.2.2.length + 1) (d.2.1.length + 1) 0 g (zeros3 (d.2.1.length + 1) (d.2.2.2.1.length + 1) (d.2.2.2.2.length + 1))).bind fun r => marks_j2 N r.2
  else none
def marks_S (N : Nat) (e : List (List Int)) (e2 : List Int) (e3 : Int) (p : Int) (p2 : Int) : Option (List (List (List Int)) × Int) :=
  ((opened_S N e e2 e3 p p2).bind fun e => match e with
  | .inl (x_1, y_2) =>
    (br (!decide (y_2 = 0))
      (some ([], y_2))
      (marks_j1 N x_1 (List.replicate 539 (0 : Int))))
  | .inr x_3 =>
    (br (!decide (x_3 = 0))
      (some ([], x_3))
      (none)))
noncomputable def marks_sp (N : Nat) : List Spec := [sp_opened N]
theorem marks_all (N : Nat) : AllP (SpecOK Try.prog) (marks_sp N) := ⟨sp_opened_ok N, trivial⟩
noncomputable def marks_c : Code := (Try.f67.body).getD .skip
noncomputable abbrev marks_B : Body := { c := marks_c, n := 79, res := [.tmp 4, .tmp 5], outs := [⟨[.sl (.sl (.sl (.int .i64))), .i .i64], []⟩], m0 := 0 }
abbrev marks_rt : altD marks_B.outs → Option (List (List (List Int)) × Int) := fun r => some (r.1.1, r.1.2.1)
abbrev marks_j2_at : List PI := [.c [1, 1, 1, 1, 1, 1, 0], .c [1, 1, 1, 1, 1, 1, 1]]
abbrev marks_j2_st : Sta := ⟨[9], ⟨[.sl (.sl (.sl (.int .i64)))], [.dead]⟩⟩
abbrev marks_j2_k (N : Nat) : Leaf (List (List (List Int)) × Int) := ⟨marks_j2_at, marks_j2_st, fun p => marks_j2 N p.1.1⟩
theorem marks_j2_eq (N : Nat) (out : List (List (List Int))) : ev (Z := List (List (List Int)) × Int) Try.prog (marks_sp N) marks_B [] [] (some marks_rt) 400 true marks_j2_at (stL marks_j2_st ((out, ()), ((), ()))) (stH marks_j2_st ((out, ()), ((), ()))) = marks_j2 N out := by kernel_rfl
theorem marks_j2_lf (N : Nat) {z : List (List (List Int)) × Int} {E : EE} {Xc : Ctx} (hE : EOK marks_B.m0 E) (hX : CxOK true Xc) (hret : RetOK Try.prog marks_B E Xc z (some marks_rt)) : LeafOK Try.prog marks_B.c marks_B.n marks_B.m0 E Xc z (marks_j2_k N) := leaf_of_ev (B := marks_B) (loops := []) (leaves := []) (marks_all N) mixed trivial hE hX trivial hret (fun p => marks_j2_eq N p.1.1)
abbrev marks_j1_at : List PI := [.c [1, 1, 1, 1, 0], .c [1, 1, 1, 1, 1]]
abbrev marks_j1_st : Sta := ⟨[6, 8], ⟨[.fe (.pair (.sl (.sl (.int .i64))) (.pair (.sl (.int .i64)) (.pair (.int .i64) (.pair (.sl (.int .i64)) (.sl (.int .i64)))))), .own 0 0], [.segs [.arr (.int .i64) 539]]⟩⟩
abbrev marks_j1_k (N : Nat) : Leaf (List (List (List Int)) × Int) := ⟨marks_j1_at, marks_j1_st, fun p => marks_j1 N p.1.1 p.2.1.1⟩
theorem marks_j1_lf (N : Nat) {z : List (List (List Int)) × Int} {E : EE} {Xc : Ctx} (hE : EOK marks_B.m0 E) (hX : CxOK true Xc) (hret : RetOK Try.prog marks_B E Xc z (some marks_rt)) : LeafOK Try.prog marks_B.c marks_B.n marks_B.m0 E Xc z (marks_j1_k N) := by
  rintro ⟨⟨⟨T, H, f, A, B⟩, u1, u2⟩, ⟨G, u3⟩, u4⟩ hfn a w hS
  have hfn : marks_j1 N (T, H, f, A, B) G = some z := hfn
  unfold marks_j1 at hfn
  split at hfn
  rotate_left
  · cases hfn
  rename_i hc
  dsimp only at hc hfn
  obtain ⟨hnH, hnA, hnB⟩ := hc
  obtain ⟨⟨G2, X2⟩, hq, hfn⟩ := bind_some hfn
  dsimp only at hfn
  obtain ⟨⟨g, hs, htm, hi, he⟩, hsz, hm⟩ := hS
  have h6 : RepV g (.fe DeskT (T, H, f, A, B) 0) (a.tmps.getD 6 undef) := htm 6 _ rfl
  have h8 : RepV g (.own 0 0) (a.tmps.getD 8 undef) := htm 8 _ rfl
  have hB0 : RepBlk g w 0 (.segs [.arr (.int .i64) 539 G]) := hs.blk 0 _ rfl
  simp only [RepV] at h6 h8
  obtain ⟨b0, c0, n0, us0, ty0, e0, hb0, ⟨v1, v2, rfl, ⟨hGl, hGr⟩, h3⟩, hm0⟩ := hB0
  obtain ⟨_, _, _, e8, h8⟩ := h8
  rw [e0] at e8; cases e8
  have h3 : v2 = [] := h3
  subst h3
  obtain ⟨rfl, hGi⟩ := (repL_intsI _ _).1 hGr
  have hb0 : Blk w b0 (G.map (.int .i64)) ty0 := by rw [List.append_nil] at hb0; exact hb0
  obtain ⟨bd, od, ws, tyD, us, ep, hMD, hseg, hrep⟩ := h6
  have hrep0 := hrep
  simp only [RepC] at hrep
  obtain ⟨_, _, rfl, ⟨vT, rfl, hvT⟩, _, _, rfl, ⟨vH, rfl, hvH⟩, _, _, rfl, ⟨rfl, hvf⟩, _, _, rfl, ⟨vA, rfl, hvA⟩, ⟨vB, rfl, hvB⟩⟩ := hrep
  obtain ⟨aH, cH, rfl⟩ : ∃ aH cH, vH = .slice aH H.length cH := by
    obtain ⟨-, x, y, e, -⟩ := hvH
    exact ⟨x, y, e⟩
  obtain ⟨aA, cA, rfl⟩ : ∃ aA cA, vA = .slice aA A.length cA := by
    obtain ⟨-, x, y, e, -⟩ := hvA
    exact ⟨x, y, e⟩
  obtain ⟨aB, cB, rfl⟩ : ∃ aB cB, vB = .slice aB B.length cB := by
    obtain ⟨-, x, y, e, -⟩ := hvB
    exact ⟨x, y, e⟩
  have hwD := hs.mem _ _ hMD
  have hcl := Cl.of_seg hwD hseg
  have hMw : ∀ b o, g.M b = some o → b ≠ b0 ∧ w.heap[b]? = some o := fun b o h => ⟨fun e => (by rw [e, hm0] at h; cases h), hs.mem b o h⟩
  have hd : ∀ ρ, RepV ⟨ρ, g.M⟩ (.fe DeskT (T, H, f, A, B) 0) (.pointer (some ⟨bd, od, none⟩)) := fun ρ => ⟨bd, od, ws, tyD, _, rfl, hMD, hseg, hrep0⟩
  have hwalk := marks_walk (X := Xc) (df := a.defers) (N := N) (M := g.M) (T := T) (H := H) (A := A) (B := B) (f := f) bd od b0 H.length A.length B.length cH cA cB aH aA aB ty0 w hnH hnA hnB hMw hm0 hd (lt_of_blk hwD) (Cl.cell hcl (i := 1) rfl) (Cl.cell hcl (i := 3) rfl) (Cl.cell hcl (i := 4) rfl) G hb0 hGl hGi G2 X2 hq (fun bo hi' us' tyO w' hMS => ?_)
  · have e : (marks_j1_k N).at_.map (itm marks_B.c) = K67_7 := by kernel_rfl
    rw [e]
    refine St.toAt (tm := a.tmps) hwalk ⟨hsz, has_mem _ (fun x hx => ?_)⟩
    simp only [List.mem_cons, List.not_mem_nil, or_false] at hx
    rcases hx with rfl | rfl
    · exact ep
    · exact h8
  · intro tm htm'
    have e : (marks_j2_k N).at_.map (itm marks_B.c) = K67_12 := by kernel_rfl
    rw [← e]
    have hu := hMS.upd
    have hge : GE g ⟨g.ρ, frzM g.M [] w.heap.size w'⟩ := ⟨fun _ _ h => h, frzM_mono⟩
    have hMlt : ∀ b o, g.M b = some o → b < w.heap.size := fun b o h => lt_of_blk (hs.mem b o h)
    have hXl := hMS.shp.1
    have hrep := MidsR.rep (M := g.M) (n := w.heap.size) hMS.mids hMS.blk hMlt (by have := hMS.low; omega) hMS.low.2 (by omega)
    rw [hXl] at hrep
    refine marks_j2_lf N hE hX hret ((X2, ()), ((), ())) hfn _ _ ⟨⟨⟨g.ρ, frzM g.M [] w.heap.size w'⟩, ⟨fun b o h => ?_, fun id k hk => ?_, fun i j ki kj b ci ni cj nj x1 y1 x2 y2 z1 z2 => ?_⟩, ?_, fun i hi' => hi i hi', ?_⟩, htm'.1, hm⟩
    · rcases frzM_inv h with h | ⟨_, _, h, _⟩
      · exact hu.blk (hs.mem b o h) (by simp [(hMw b o h).1])
      · exact h
    · match id, hk with
      | 0, hk => cases hk; trivial
      | n + 1, hk => cases hk
    · match i, x1 with
      | 0, x1 => cases x1; cases x2
      | n + 1, x1 => cases x1
    · exact zip_tmF [9] _ ⟨_, _, rfl, (by show RepV _ (.sl (.sl (.sl (.int .i64))) X2) (tm.getD 9 undef); rw [htm'.2 9 _ rfl]; exact hrep), rfl⟩
    · have hSw : ∀ b ∈ [b0], Sw g (fun i => (stH marks_j1_st (((T, H, f, A, B), u1, u2), (G, u3), u4))[i]?) [0] b := fun b hb => by
        simp only [List.mem_singleton] at hb
        subst hb
        exact ⟨0, by simp, _, c0, n0, rfl, rfl, e0⟩
      refine hE.step (nw := fun _ => False) (wr := [0]) (fun _ h => h.elim) hs ⟨hu.os, hu.tape, hu.output, hu.size, fun b hb hn => hu.same b hb (fun h => hn (hSw b h)), hge, fun id h0 h1 => absurd h0 h1, fun id b c n h0 h1 => (by rw [h0] at h1; cases h1), fun b o h => ?_⟩ he
      rcases frzM_inv h with h | ⟨x1, x2, x3, x4⟩
      · exact .inl h
      · exact .inr ⟨x1, .inl (by rcases x2 with h | h; cases h; exact h), x4⟩

abbrev marks_st : Sta := ⟨[0, 1], ⟨[.agg [.sl (.sl (.int .i64)), .sl (.int .i64), .i .i64], .agg [.i .i64, .i .i64]], []⟩⟩
theorem marks_eq (N : Nat) (e : List (List Int)) (e2 : List Int) (e3 : Int) (p : Int) (p2 : Int) : ev (Z := List (List (List Int)) × Int) Try.prog (marks_sp N) marks_B [] [marks_j1_k N] (some marks_rt) 400 false [.c [0], .c [1]] (stL marks_st (((e, e2, e3, ()), (p, p2, ()), ()), ())) (stH marks_st (((e, e2, e3, ()), (p, p2, ()), ()), ())) = marks_S N e e2 e3 p p2 := by kernel_rfl
noncomputable def sp_marks (N : Nat) : Spec := { f := 67, ins := ⟨[.agg [.sl (.sl (.int .i64)), .sl (.int .i64), .i .i64], .agg [.i .i64, .i .i64]], []⟩, outs := [⟨[.sl (.sl (.sl (.int .i64))), .i .i64], []⟩], run := fun p k => (marks_S N p.1.1.1 p.1.1.2.1 p.1.1.2.2.1 p.1.2.1.1 p.1.2.1.2.1).bind fun r => k ((r.1, r.2, ()), ()) }
theorem sp_marks_ok (N : Nat) : SpecOK Try.prog (sp_marks N) := fn_sound (B := marks_B) (loops := []) (leaves := [marks_j1_k N]) (fun p => marks_S N p.1.1.1 p.1.1.2.1 p.1.1.2.2.1 p.1.2.1.1 p.1.2.1.2.1) (fun r => ((r.1, r.2, ()), ())) marks_rt (fun _ _ _ => rfl) (fun r z h => by cases h; rfl) Try.func67 (by kernel_rfl) (by kernel_rfl) (by kernel_rfl) rfl rfl (by kernel_rfl) (fun args w => Sem.pv_run _ _ _ (by kernel_rfl) w) (marks_all N) mixed trivial (fun z E Xc hE hX hret => ⟨marks_j1_lf N hE hX hret, trivial⟩) (fun p => marks_eq N p.1.1.1 p.1.1.2.1 p.1.1.2.2.1 p.1.2.1.1 p.1.2.1.2.1)

def emarks_l2 (N : Nat) : Nat → (List (List (List Int))) → (List (List Int)) → (List (List (List Int))) → Int → Int → (List (List Int)) → Int → Int → (List (List Int)) → (List Int) → Int → Int → Int → (List (List (List Int))) → Option ((Unit) ⊕ (List (List (List Int)) × List (List Int) × List (List (List Int)) × Int × Int × List (List Int) × List Int × Int × Int × Int × List (List (List Int))))
  | 0, _, _, _, _, _, _, _, _, _, _, _, _, _, _ => none
  | n_ + 1, marks, l, u, u2, u3, u4, u5, u6, x, x2, x3, p, p2, given =>
    br (decide (u6 < u5))
      (idx u4 u6 fun x_5 =>
      br (decide (10 < (x_5.length : Int)))
        (some (.inl ()))
        (chk (u6 + 1) <|
        emarks_l2 N n_ marks l u u2 u3 u4 u5 (u6 + 1) x x2 x3 p p2 given))
      (some (.inr (marks, l, u, u2, u3, x, x2, x3, p, p2, given)))
def emarks_l1 (N : Nat) : Nat → (List (List (List Int))) → (List (List (List Int))) → Int → Int → (List (List Int)) → (List Int) → Int → Int → Int → (List (List (List Int))) → Option ((Unit) ⊕ ((Unit) ⊕ (List (List (List Int)) × List (List Int) × List Int × Int × Int × Int × List (List (List Int)))))
  | 0, _, _, _, _, _, _, _, _, _, _ => none
  | n_ + 1, marks, u, u2, u3, x, x2, x3, p, p2, given =>
    br (decide (u3 < u2))
      (idx u u3 fun x_4 =>
      br (decide (10 < (x_4.length : Int)))
        (some (.inl ()))
        ((emarks_l2 N N marks x_4 u u2 u3 x_4 (x_4.length : Int) 0 x x2 x3 p p2 given).bind fun e => match e with
        | .inl _ =>
          some (.inr (.inl ()))
        | .inr (marks_6, l_7, u_8, u2_9, u3_10, x_11, x2_12, x3_13, p_14, p2_15, given_16) =>
          (copyr_S N l_7).bind fun x_17 =>
          lim (given_16.length + [x_17].length) <|
          chk (u3_10 + 1) <|
          emarks_l1 N n_ marks_6 u_8 u2_9 (u3_10 + 1) x_11 x2_12 x3_13 p_14 p2_15 (given_16 ++ [x_17])))
      (some (.inr (.inr (marks, x, x2, x3, p, p2, given))))
def emarks_l3 (N : Nat) : Nat → (List (List (List Int))) → Int → Int → (List (List Int)) → (List Int) → Int → (List (List (List Int))) → (List (List Int)) → (List Int) → Int → Option ((Unit) ⊕ (List (List Int) × List Int × Int × List (List Int) × List Int × Int))
  | 0, _, _, _, _, _, _, _, _, _, _ => none
  | n_ + 1, u, u2, u3, x, x2, x3, given, own, own2, own3 =>
    br (decide (u3 < u2))
      (idx u u3 fun x_44 =>
      rng u3 given.length <|
      get given u3.toNat fun x_45 =>
      (liker_S N x_45 x_44).bind fun x_46 =>
      br (!x_46)
        (some (.inl ()))
        (chk (u3 + 1) <|
        emarks_l3 N n_ u u2 (u3 + 1) x x2 x3 given own own2 own3))
      (some (.inr (x, x2, x3, own, own2, own3)))
def emarks_j1 (N : Nat) (marks : List (List (List Int))) (x : List (List Int)) (x2 : List Int) (x3 : Int) (given : List (List (List Int))) (own : List (List Int)) (own2 : List Int) (own3 : Int) : Option Bool :=
  (emarks_l3 N N marks (marks.length : Int) 0 x x2 x3 given own own2 own3).bind fun e => match e with
  | .inl _ =>
    some false
  | .inr (x_47, x2_48, x3_49, own_50, own2_51, own3_52) =>
    (same_S N own_50 own2_51 own3_52 x_47 x2_48 x3_49).bind fun x_53 =>
    br x_53
      ((awake_S N).bind fun x_54 =>
      some x_54)
      (some false)
def emarks_S (N : Nat) (x : List (List Int)) (x2 : List Int) (x3 : Int) (p : Int) (p2 : Int) (marks : List (List (List Int))) : Option Bool :=
  (great_S N x x2 x3).bind fun x_1 =>
  br x_1
    ((awake_S N).bind fun x_2 =>
    some x_2)
    (br (decide (14 < (marks.length : Int)))
      ((awake_S N).bind fun x_3 =>
      some x_3)
      ((emarks_l1 N N marks marks (marks.length : Int) 0 x x2 x3 p p2 []).bind fun e => match e with
      | .inl _ =>
        (awake_S N).bind fun x_18 =>
        some x_18
      | .inr (.inl _) =>
        (awake_S N).bind fun x_19 =>
        some x_19
      | .inr (.inr (marks_20, x_21, x2_22, x3_23, p_24, p2_25, given_26)) =>
        (copye_S N x_21 x2_22 x3_23).bind fun (x_27, y_28, y_29) =>
        (copye_S N x_21 x2_22 x3_23).bind fun (x_30, y_31, y_32) =>
        (shows_S N x_27 y_28 y_29 p_24 p2_25 given_26).bind fun (x_33, y_34) =>
        (rshows_S N x_30 y_31 y_32 p_24 p2_25 marks_20).bind fun (x_35, y_36) =>
        br (!decide (x_33 = x_35))
          (some false)
          (br (!decide (y_34 = y_36))
            (some false)
            ((marks_S N x_27 y_28 y_29 p_24 p2_25).bind fun (x_37, y_38) =>
            (least_S N x_27 y_28 y_29 p_24 p2_25).bind fun (x_39, y_40) =>
            (rtwo_S N x_30 y_31 y_32 p_24 p2_25).bind fun x_41 =>
            br (!decide (y_38 = x_41))
              (some false)
              (br (!decide (y_40 = x_41))
                (some false)
                (br (!decide (x_41 = 0))
                  (br (decide (0 < (x_37.length : Int)))
                    (some false)
                    (br (decide (x_41 = 0))
                      ((rshows_S N x_30 y_31 y_32 p_24 p2_25 x_37).bind fun (x_42, y_43) =>
                      br (!decide (y_43 = 0))
                        (some false)
                        (br (!decide (x_42 = x_39))
                          (some false)
                          (emarks_j1 N marks_20 x_21 x2_22 x3_23 given_26 x_27 y_28 y_29)))
                      (emarks_j1 N marks_20 x_21 x2_22 x3_23 given_26 x_27 y_28 y_29)))
                  (br (decide (x_41 = 0))
                    ((rshows_S N x_30 y_31 y_32 p_24 p2_25 x_37).bind fun (x_55, y_56) =>
                    br (!decide (y_56 = 0))
                      (some false)
                      (br (!decide (x_55 = x_39))
                        (some false)
                        (emarks_j1 N marks_20 x_21 x2_22 x3_23 given_26 x_27 y_28 y_29)))
                    (emarks_j1 N marks_20 x_21 x2_22 x3_23 given_26 x_27 y_28 y_29))))))))
noncomputable def emarks_sp (N : Nat) : List Spec := [sp_least N, sp_awake N, sp_copyr N, sp_copye N, sp_rtwo N, sp_great N, sp_liker N, sp_same N, sp_shows N, sp_rshows N, sp_marks N]
theorem emarks_all (N : Nat) : AllP (SpecOK Try.prog) (emarks_sp N) := ⟨sp_least_ok N, sp_awake_ok N, sp_copyr_ok N, sp_copye_ok N, sp_rtwo_ok N, sp_great_ok N, sp_liker_ok N, sp_same_ok N, sp_shows_ok N, sp_rshows_ok N, sp_marks_ok N, trivial⟩
noncomputable def emarks_c : Code := (Try.f12.body).getD .skip
noncomputable abbrev emarks_B : Body := { c := emarks_c, n := 155, res := [.tmp 6], outs := [⟨[.b], []⟩], m0 := 0 }
abbrev emarks_rt : altD emarks_B.outs → Option Bool := fun r => some r.1.1
abbrev emarks_l2_at : List PI := [.c [1, 1, 1, 0, 1, 0, 0, 1, 1, 0, 0, 1, 1, 0, 1, 0, 0, 0], .c [1, 1, 1, 0, 1, 0, 0, 1, 1, 0, 0, 1, 1, 0, 1, 0, 0, 1], .l [1, 1, 1, 0, 1, 0, 0, 1, 1, 0, 0, 1, 1, 0, 1, 0, 0], .b 2, .c [1, 1, 1, 0, 1, 0, 0, 1, 1, 0, 0, 1, 1, 1], .b 1, .c [1, 1, 1, 0, 1, 0, 0, 1, 1, 1], .l [1, 1, 1, 0, 1, 0, 0], .b 0, .c [1, 1, 1, 1]]
abbrev emarks_l2_st : Sta := ⟨[2, 3, 4, 7, 9, 33, 34, 35, 43, 44, 45], ⟨[.sl (.sl (.sl (.int .i64))), .own 0 0, .own 1 0, .ols 2, .sl (.sl (.int .i64)), .sl (.sl (.sl (.int .i64))), .i .i64, .i .i64, .sl (.sl (.int .i64)), .i .i64, .i .i64], [.segs [.sl (.sl (.int .i64)), .sl (.int .i64), .i .i64], .segs [.i .i64, .i .i64], .lst (.sl (.sl (.int .i64)))]⟩⟩
abbrev emarks_l2_h (rec : (List (List (List Int))) → (List (List Int)) → (List (List (List Int))) → Int → Int → (List (List Int)) → Int → Int → (List (List Int)) → (List Int) → Int → Int → Int → (List (List (List Int))) → Option ((Unit) ⊕ (List (List (List Int)) × List (List Int) × List (List (List Int)) × Int × Int × List (List Int) × List Int × Int × Int × Int × List (List (List Int))))) : Leaf ((Unit) ⊕ (List (List (List Int)) × List (List Int) × List (List (List Int)) × Int × Int × List (List Int) × List Int × Int × Int × Int × List (List (List Int)))) := ⟨emarks_l2_at, emarks_l2_st, fun p => rec p.1.1 p.1.2.2.2.2.1 p.1.2.2.2.2.2.1 p.1.2.2.2.2.2.2.1 p.1.2.2.2.2.2.2.2.1 p.1.2.2.2.2.2.2.2.2.1 p.1.2.2.2.2.2.2.2.2.2.1 p.1.2.2.2.2.2.2.2.2.2.2.1 p.2.1.1 p.2.1.2.1 p.2.1.2.2.1 p.2.2.1.1 p.2.2.1.2.1 p.2.2.2.1⟩
abbrev emarks_l2_e0 : Leaf ((Unit) ⊕ (List (List (List Int)) × List (List Int) × List (List (List Int)) × Int × Int × List (List Int) × List Int × Int × Int × Int × List (List (List Int)))) := ⟨[.c [1, 1, 1, 0, 1, 0, 0, 1, 1, 0, 0, 1, 1, 0, 1, 0, 0, 1, 1, 0, 0, 1, 1, 0, 0], .c [1, 1, 1, 0, 1, 0, 0, 1, 1, 0, 0, 1, 1, 0, 1, 0, 0, 1, 1, 0, 0, 1, 1, 0, 1], .b 3, .c [1, 1, 1, 0, 1, 0, 0, 1, 1, 0, 0, 1, 1, 0, 1, 0, 0, 1, 1, 1], .l [1, 1, 1, 0, 1, 0, 0, 1, 1, 0, 0, 1, 1, 0, 1, 0, 0], .b 2, .c [1, 1, 1, 0, 1, 0, 0, 1, 1, 0, 0, 1, 1, 1], .b 1, .c [1, 1, 1, 0, 1, 0, 0, 1, 1, 1], .l [1, 1, 1, 0, 1, 0, 0], .b 0, .c [1, 1, 1, 1]], ⟨[], ⟨[], []⟩⟩, fun p => some (.inl ())⟩
abbrev emarks_l2_e1 : Leaf ((Unit) ⊕ (List (List (List Int)) × List (List Int) × List (List (List Int)) × Int × Int × List (List Int) × List Int × Int × Int × Int × List (List (List Int)))) := ⟨[.c [1, 1, 1, 0, 1, 0, 0, 1, 1, 0, 0, 1, 1, 1], .b 1, .c [1, 1, 1, 0, 1, 0, 0, 1, 1, 1], .l [1, 1, 1, 0, 1, 0, 0], .b 0, .c [1, 1, 1, 1]], ⟨[2, 3, 4, 7, 9, 33, 34, 35], ⟨[.sl (.sl (.sl (.int .i64))), .own 0 0, .own 1 0, .ols 2, .sl (.sl (.int .i64)), .sl (.sl (.sl (.int .i64))), .i .i64, .i .i64], [.segs [.sl (.sl (.int .i64)), .sl (.int .i64), .i .i64], .segs [.i .i64, .i .i64], .lst (.sl (.sl (.int .i64)))]⟩⟩, fun p => some (.inr (p.1.1, p.1.2.2.2.2.1, p.1.2.2.2.2.2.1, p.1.2.2.2.2.2.2.1, p.1.2.2.2.2.2.2.2.1, p.2.1.1, p.2.1.2.1, p.2.1.2.2.1, p.2.2.1.1, p.2.2.1.2.1, p.2.2.2.1))⟩
noncomputable def emarks_l2_L (N : Nat) : LoopS := { at_ := emarks_l2_at, sta := emarks_l2_st, exits := [([.c [1, 1, 1, 0, 1, 0, 0, 1, 1, 0, 0, 1, 1, 0, 1, 0, 0, 1, 1, 0, 0, 1, 1, 0, 0], .c [1, 1, 1, 0, 1, 0, 0, 1, 1, 0, 0, 1, 1, 0, 1, 0, 0, 1, 1, 0, 0, 1, 1, 0, 1], .b 3, .c [1, 1, 1, 0, 1, 0, 0, 1, 1, 0, 0, 1, 1, 0, 1, 0, 0, 1, 1, 1], .l [1, 1, 1, 0, 1, 0, 0, 1, 1, 0, 0, 1, 1, 0, 1, 0, 0], .b 2, .c [1, 1, 1, 0, 1, 0, 0, 1, 1, 0, 0, 1, 1, 1], .b 1, .c [1, 1, 1, 0, 1, 0, 0, 1, 1, 1], .l [1, 1, 1, 0, 1, 0, 0], .b 0, .c [1, 1, 1, 1]], ⟨[], ⟨[], []⟩⟩), ([.c [1, 1, 1, 0, 1, 0, 0, 1, 1, 0, 0, 1, 1, 1], .b 1, .c [1, 1, 1, 0, 1, 0, 0, 1, 1, 1], .l [1, 1, 1, 0, 1, 0, 0], .b 0, .c [1, 1, 1, 1]], ⟨[2, 3, 4, 7, 9, 33, 34, 35], ⟨[.sl (.sl (.sl (.int .i64))), .own 0 0, .own 1 0, .ols 2, .sl (.sl (.int .i64)), .sl (.sl (.sl (.int .i64))), .i .i64, .i .i64], [.segs [.sl (.sl (.int .i64)), .sl (.int .i64), .i .i64], .segs [.i .i64, .i .i64], .lst (.sl (.sl (.int .i64)))]⟩⟩)], run := fun p k => (emarks_l2 N N p.1.1 p.1.2.2.2.2.1 p.1.2.2.2.2.2.1 p.1.2.2.2.2.2.2.1 p.1.2.2.2.2.2.2.2.1 p.1.2.2.2.2.2.2.2.2.1 p.1.2.2.2.2.2.2.2.2.2.1 p.1.2.2.2.2.2.2.2.2.2.2.1 p.2.1.1 p.2.1.2.1 p.2.1.2.2.1 p.2.2.1.1 p.2.2.1.2.1 p.2.2.2.1).bind fun e => match e with | .inl x => k (.inl ((), ())) | .inr x => k (.inr (.inl ((x.1, (), (), (), x.2.1, x.2.2.1, x.2.2.2.1, x.2.2.2.2.1, ()), ((x.2.2.2.2.2.1, x.2.2.2.2.2.2.1, x.2.2.2.2.2.2.2.1, ()), (x.2.2.2.2.2.2.2.2.1, x.2.2.2.2.2.2.2.2.2.1, ()), x.2.2.2.2.2.2.2.2.2.2, ())))) }
theorem emarks_l2_eq (N n_ : Nat) (marks : List (List (List Int))) (l : List (List Int)) (u : List (List (List Int))) (u2 : Int) (u3 : Int) (u4 : List (List Int)) (u5 : Int) (u6 : Int) (x : List (List Int)) (x2 : List Int) (x3 : Int) (p : Int) (p2 : Int) (given : List (List (List Int))) : ev (Z := (Unit) ⊕ (List (List (List Int)) × List (List Int) × List (List (List Int)) × Int × Int × List (List Int) × List Int × Int × Int × Int × List (List (List Int)))) Try.prog (emarks_sp N) emarks_B [] [emarks_l2_h (emarks_l2 N n_), emarks_l2_e0, emarks_l2_e1] none 400 true emarks_l2_at (stL emarks_l2_st ((marks, (), (), (), l, u, u2, u3, u4, u5, u6, ()), ((x, x2, x3, ()), (p, p2, ()), given, ()))) (stH emarks_l2_st ((marks, (), (), (), l, u, u2, u3, u4, u5, u6, ()), ((x, x2, x3, ()), (p, p2, ()), given, ()))) = emarks_l2 N (n_ + 1) marks l u u2 u3 u4 u5 u6 x x2 x3 p p2 given := by kernel_rfl
theorem emarks_l2_ok (N : Nat) {top : Bool} : LoopOK Try.prog emarks_B.c emarks_B.n emarks_B.m0 top (emarks_l2_L N) := loop_of_ev (Z := (Unit) ⊕ (List (List (List Int)) × List (List Int) × List (List (List Int)) × Int × Int × List (List Int) × List Int × Int × Int × Int × List (List (List Int)))) (N := N) (fun m p => emarks_l2 N m p.1.1 p.1.2.2.2.2.1 p.1.2.2.2.2.2.1 p.1.2.2.2.2.2.2.1 p.1.2.2.2.2.2.2.2.1 p.1.2.2.2.2.2.2.2.2.1 p.1.2.2.2.2.2.2.2.2.2.1 p.1.2.2.2.2.2.2.2.2.2.2.1 p.2.1.1 p.2.1.2.1 p.2.1.2.2.1 p.2.2.1.1 p.2.2.1.2.1 p.2.2.2.1) (fun e => match e with | .inl x => .inl ((), ()) | .inr x => .inr (.inl ((x.1, (), (), (), x.2.1, x.2.2.1, x.2.2.2.1, x.2.2.2.2.1, ()), ((x.2.2.2.2.2.1, x.2.2.2.2.2.2.1, x.2.2.2.2.2.2.2.1, ()), (x.2.2.2.2.2.2.2.2.1, x.2.2.2.2.2.2.2.2.2.1, ()), x.2.2.2.2.2.2.2.2.2.2, ())))) (fun _ p k => bind_congr_ (emarks_l2 N N p.1.1 p.1.2.2.2.2.1 p.1.2.2.2.2.2.1 p.1.2.2.2.2.2.2.1 p.1.2.2.2.2.2.2.2.1 p.1.2.2.2.2.2.2.2.2.1 p.1.2.2.2.2.2.2.2.2.2.1 p.1.2.2.2.2.2.2.2.2.2.2.1 p.2.1.1 p.2.1.2.1 p.2.1.2.2.1 p.2.2.1.1 p.2.2.1.2.1 p.2.2.2.1) _ _ (fun e => by rcases e with x | x <;> rfl)) (fun _ => rfl) (fun m z E Xc hE hX hrec hx => leaf_of_ev (B := emarks_B) (loops := []) (leaves := [emarks_l2_h (emarks_l2 N m), emarks_l2_e0, emarks_l2_e1]) (emarks_all N) mixed trivial hE hX ⟨hrec, (fun p hp => by obtain rfl := Option.some.inj hp; exact hx), (fun p hp => by obtain rfl := Option.some.inj hp; exact hx), trivial⟩ RetOK.no (fun p => emarks_l2_eq N m p.1.1 p.1.2.2.2.2.1 p.1.2.2.2.2.2.1 p.1.2.2.2.2.2.2.1 p.1.2.2.2.2.2.2.2.1 p.1.2.2.2.2.2.2.2.2.1 p.1.2.2.2.2.2.2.2.2.2.1 p.1.2.2.2.2.2.2.2.2.2.2.1 p.2.1.1 p.2.1.2.1 p.2.1.2.2.1 p.2.2.1.1 p.2.2.1.2.1 p.2.2.2.1))
abbrev emarks_l1_at : List PI := [.c [1, 1, 1, 0, 1, 0, 0, 0], .c [1, 1, 1, 0, 1, 0, 0, 1], .l [1, 1, 1, 0, 1, 0, 0], .b 0, .c [1, 1, 1, 1]]
abbrev emarks_l1_st : Sta := ⟨[2, 3, 4, 7, 33, 34, 35], ⟨[.sl (.sl (.sl (.int .i64))), .own 0 0, .own 1 0, .ols 2, .sl (.sl (.sl (.int .i64))), .i .i64, .i .i64], [.segs [.sl (.sl (.int .i64)), .sl (.int .i64), .i .i64], .segs [.i .i64, .i .i64], .lst (.sl (.sl (.int .i64)))]⟩⟩
abbrev emarks_l1_h (rec : (List (List (List Int))) → (List (List (List Int))) → Int → Int → (List (List Int)) → (List Int) → Int → Int → Int → (List (List (List Int))) → Option ((Unit) ⊕ ((Unit) ⊕ (List (List (List Int)) × List (List Int) × List Int × Int × Int × Int × List (List (List Int)))))) : Leaf ((Unit) ⊕ ((Unit) ⊕ (List (List (List Int)) × List (List Int) × List Int × Int × Int × Int × List (List (List Int))))) := ⟨emarks_l1_at, emarks_l1_st, fun p => rec p.1.1 p.1.2.2.2.2.1 p.1.2.2.2.2.2.1 p.1.2.2.2.2.2.2.1 p.2.1.1 p.2.1.2.1 p.2.1.2.2.1 p.2.2.1.1 p.2.2.1.2.1 p.2.2.2.1⟩
abbrev emarks_l1_e0 : Leaf ((Unit) ⊕ ((Unit) ⊕ (List (List (List Int)) × List (List Int) × List Int × Int × Int × Int × List (List (List Int))))) := ⟨[.c [1, 1, 1, 0, 1, 0, 0, 1, 1, 0, 0, 1, 0, 1, 0, 0], .c [1, 1, 1, 0, 1, 0, 0, 1, 1, 0, 0, 1, 0, 1, 0, 1], .c [1, 1, 1, 0, 1, 0, 0, 1, 1, 0, 0, 1, 1], .b 1, .c [1, 1, 1, 0, 1, 0, 0, 1, 1, 1], .l [1, 1, 1, 0, 1, 0, 0], .b 0, .c [1, 1, 1, 1]], ⟨[], ⟨[], []⟩⟩, fun p => some (.inl ())⟩
abbrev emarks_l1_e1 : Leaf ((Unit) ⊕ ((Unit) ⊕ (List (List (List Int)) × List (List Int) × List Int × Int × Int × Int × List (List (List Int))))) := ⟨[.c [1, 1, 1, 0, 1, 0, 0, 1, 1, 0, 0, 1, 1, 0, 1, 0, 0, 1, 1, 0, 0, 1, 1, 0, 0], .c [1, 1, 1, 0, 1, 0, 0, 1, 1, 0, 0, 1, 1, 0, 1, 0, 0, 1, 1, 0, 0, 1, 1, 0, 1], .b 3, .c [1, 1, 1, 0, 1, 0, 0, 1, 1, 0, 0, 1, 1, 0, 1, 0, 0, 1, 1, 1], .l [1, 1, 1, 0, 1, 0, 0, 1, 1, 0, 0, 1, 1, 0, 1, 0, 0], .b 2, .c [1, 1, 1, 0, 1, 0, 0, 1, 1, 0, 0, 1, 1, 1], .b 1, .c [1, 1, 1, 0, 1, 0, 0, 1, 1, 1], .l [1, 1, 1, 0, 1, 0, 0], .b 0, .c [1, 1, 1, 1]], ⟨[], ⟨[], []⟩⟩, fun p => some (.inr (.inl ()))⟩
abbrev emarks_l1_e2 : Leaf ((Unit) ⊕ ((Unit) ⊕ (List (List (List Int)) × List (List Int) × List Int × Int × Int × Int × List (List (List Int))))) := ⟨[.c [1, 1, 1, 1, 0], .c [1, 1, 1, 1, 1]], ⟨[2, 3, 4, 7], ⟨[.sl (.sl (.sl (.int .i64))), .own 0 0, .own 1 0, .ols 2], [.segs [.sl (.sl (.int .i64)), .sl (.int .i64), .i .i64], .segs [.i .i64, .i .i64], .lst (.sl (.sl (.int .i64)))]⟩⟩, fun p => some (.inr (.inr (p.1.1, p.2.1.1, p.2.1.2.1, p.2.1.2.2.1, p.2.2.1.1, p.2.2.1.2.1, p.2.2.2.1)))⟩
noncomputable def emarks_l1_L (N : Nat) : LoopS := { at_ := emarks_l1_at, sta := emarks_l1_st, exits := [([.c [1, 1, 1, 0, 1, 0, 0, 1, 1, 0, 0, 1, 0, 1, 0, 0], .c [1, 1, 1, 0, 1, 0, 0, 1, 1, 0, 0, 1, 0, 1, 0, 1], .c [1, 1, 1, 0, 1, 0, 0, 1, 1, 0, 0, 1, 1], .b 1, .c [1, 1, 1, 0, 1, 0, 0, 1, 1, 1], .l [1, 1, 1, 0, 1, 0, 0], .b 0, .c [1, 1, 1, 1]], ⟨[], ⟨[], []⟩⟩), ([.c [1, 1, 1, 0, 1, 0, 0, 1, 1, 0, 0, 1, 1, 0, 1, 0, 0, 1, 1, 0, 0, 1, 1, 0, 0], .c [1, 1, 1, 0, 1, 0, 0, 1, 1, 0, 0, 1, 1, 0, 1, 0, 0, 1, 1, 0, 0, 1, 1, 0, 1], .b 3, .c [1, 1, 1, 0, 1, 0, 0, 1, 1, 0, 0, 1, 1, 0, 1, 0, 0, 1, 1, 1], .l [1, 1, 1, 0, 1, 0, 0, 1, 1, 0, 0, 1, 1, 0, 1, 0, 0], .b 2, .c [1, 1, 1, 0, 1, 0, 0, 1, 1, 0, 0, 1, 1, 1], .b 1, .c [1, 1, 1, 0, 1, 0, 0, 1, 1, 1], .l [1, 1, 1, 0, 1, 0, 0], .b 0, .c [1, 1, 1, 1]], ⟨[], ⟨[], []⟩⟩), ([.c [1, 1, 1, 1, 0], .c [1, 1, 1, 1, 1]], ⟨[2, 3, 4, 7], ⟨[.sl (.sl (.sl (.int .i64))), .own 0 0, .own 1 0, .ols 2], [.segs [.sl (.sl (.int .i64)), .sl (.int .i64), .i .i64], .segs [.i .i64, .i .i64], .lst (.sl (.sl (.int .i64)))]⟩⟩)], run := fun p k => (emarks_l1 N N p.1.1 p.1.2.2.2.2.1 p.1.2.2.2.2.2.1 p.1.2.2.2.2.2.2.1 p.2.1.1 p.2.1.2.1 p.2.1.2.2.1 p.2.2.1.1 p.2.2.1.2.1 p.2.2.2.1).bind fun e => match e with | .inl x => k (.inl ((), ())) | .inr (.inl x) => k (.inr (.inl ((), ()))) | .inr (.inr x) => k (.inr (.inr (.inl ((x.1, (), (), (), ()), ((x.2.1, x.2.2.1, x.2.2.2.1, ()), (x.2.2.2.2.1, x.2.2.2.2.2.1, ()), x.2.2.2.2.2.2, ()))))) }
theorem emarks_l1_eq (N n_ : Nat) (marks : List (List (List Int))) (u : List (List (List Int))) (u2 : Int) (u3 : Int) (x : List (List Int)) (x2 : List Int) (x3 : Int) (p : Int) (p2 : Int) (given : List (List (List Int))) : ev (Z := (Unit) ⊕ ((Unit) ⊕ (List (List (List Int)) × List (List Int) × List Int × Int × Int × Int × List (List (List Int))))) Try.prog (emarks_sp N) emarks_B [emarks_l2_L N] [emarks_l1_h (emarks_l1 N n_), emarks_l1_e0, emarks_l1_e1, emarks_l1_e2] none 400 true emarks_l1_at (stL emarks_l1_st ((marks, (), (), (), u, u2, u3, ()), ((x, x2, x3, ()), (p, p2, ()), given, ()))) (stH emarks_l1_st ((marks, (), (), (), u, u2, u3, ()), ((x, x2, x3, ()), (p, p2, ()), given, ()))) = emarks_l1 N (n_ + 1) marks u u2 u3 x x2 x3 p p2 given := by kernel_rfl
theorem emarks_l1_ok (N : Nat) {top : Bool} : LoopOK Try.prog emarks_B.c emarks_B.n emarks_B.m0 top (emarks_l1_L N) := loop_of_ev (Z := (Unit) ⊕ ((Unit) ⊕ (List (List (List Int)) × List (List Int) × List Int × Int × Int × Int × List (List (List Int))))) (N := N) (fun m p => emarks_l1 N m p.1.1 p.1.2.2.2.2.1 p.1.2.2.2.2.2.1 p.1.2.2.2.2.2.2.1 p.2.1.1 p.2.1.2.1 p.2.1.2.2.1 p.2.2.1.1 p.2.2.1.2.1 p.2.2.2.1) (fun e => match e with | .inl x => .inl ((), ()) | .inr (.inl x) => .inr (.inl ((), ())) | .inr (.inr x) => .inr (.inr (.inl ((x.1, (), (), (), ()), ((x.2.1, x.2.2.1, x.2.2.2.1, ()), (x.2.2.2.2.1, x.2.2.2.2.2.1, ()), x.2.2.2.2.2.2, ()))))) (fun _ p k => bind_congr_ (emarks_l1 N N p.1.1 p.1.2.2.2.2.1 p.1.2.2.2.2.2.1 p.1.2.2.2.2.2.2.1 p.2.1.1 p.2.1.2.1 p.2.1.2.2.1 p.2.2.1.1 p.2.2.1.2.1 p.2.2.2.1) _ _ (fun e => by rcases e with x | x | x <;> rfl)) (fun _ => rfl) (fun m z E Xc hE hX hrec hx => leaf_of_ev (B := emarks_B) (loops := [emarks_l2_L N]) (leaves := [emarks_l1_h (emarks_l1 N m), emarks_l1_e0, emarks_l1_e1, emarks_l1_e2]) (emarks_all N) mixed ⟨emarks_l2_ok N, trivial⟩ hE hX ⟨hrec, (fun p hp => by obtain rfl := Option.some.inj hp; exact hx), (fun p hp => by obtain rfl := Option.some.inj hp; exact hx), (fun p hp => by obtain rfl := Option.some.inj hp; exact hx), trivial⟩ RetOK.no (fun p => emarks_l1_eq N m p.1.1 p.1.2.2.2.2.1 p.1.2.2.2.2.2.1 p.1.2.2.2.2.2.2.1 p.2.1.1 p.2.1.2.1 p.2.1.2.2.1 p.2.2.1.1 p.2.2.1.2.1 p.2.2.2.1))
abbrev emarks_l3_at : List PI := [.c [1, 1, 1, 1, 1, 1, 1, 1, 1, 1, 1, 1, 0, 1, 0, 0, 0], .c [1, 1, 1, 1, 1, 1, 1, 1, 1, 1, 1, 1, 0, 1, 0, 0, 1], .l [1, 1, 1, 1, 1, 1, 1, 1, 1, 1, 1, 1, 0, 1, 0, 0], .b 4, .c [1, 1, 1, 1, 1, 1, 1, 1, 1, 1, 1, 1, 1]]
abbrev emarks_l3_st : Sta := ⟨[3, 7, 12, 134, 135, 136], ⟨[.own 0 0, .ols 1, .own 2 0, .sl (.sl (.sl (.int .i64))), .i .i64, .i .i64], [.segs [.sl (.sl (.int .i64)), .sl (.int .i64), .i .i64], .lst (.sl (.sl (.int .i64))), .segs [.sl (.sl (.int .i64)), .sl (.int .i64), .i .i64]]⟩⟩
abbrev emarks_l3_h (rec : (List (List (List Int))) → Int → Int → (List (List Int)) → (List Int) → Int → (List (List (List Int))) → (List (List Int)) → (List Int) → Int → Option ((Unit) ⊕ (List (List Int) × List Int × Int × List (List Int) × List Int × Int))) : Leaf ((Unit) ⊕ (List (List Int) × List Int × Int × List (List Int) × List Int × Int)) := ⟨emarks_l3_at, emarks_l3_st, fun p => rec p.1.2.2.2.1 p.1.2.2.2.2.1 p.1.2.2.2.2.2.1 p.2.1.1 p.2.1.2.1 p.2.1.2.2.1 p.2.2.1 p.2.2.2.1.1 p.2.2.2.1.2.1 p.2.2.2.1.2.2.1⟩
abbrev emarks_l3_e0 : Leaf ((Unit) ⊕ (List (List Int) × List Int × Int × List (List Int) × List Int × Int)) := ⟨[.c [1, 1, 1, 1, 1, 1, 1, 1, 1, 1, 1, 1, 0, 1, 0, 0, 1, 1, 0, 0, 1, 1, 0, 0], .c [1, 1, 1, 1, 1, 1, 1, 1, 1, 1, 1, 1, 0, 1, 0, 0, 1, 1, 0, 0, 1, 1, 0, 1], .b 5, .c [1, 1, 1, 1, 1, 1, 1, 1, 1, 1, 1, 1, 0, 1, 0, 0, 1, 1, 1], .l [1, 1, 1, 1, 1, 1, 1, 1, 1, 1, 1, 1, 0, 1, 0, 0], .b 4, .c [1, 1, 1, 1, 1, 1, 1, 1, 1, 1, 1, 1, 1]], ⟨[], ⟨[], []⟩⟩, fun p => some (.inl ())⟩
abbrev emarks_l3_e1 : Leaf ((Unit) ⊕ (List (List Int) × List Int × Int × List (List Int) × List Int × Int)) := ⟨[.c [1, 1, 1, 1, 1, 1, 1, 1, 1, 1, 1, 1, 1, 0], .c [1, 1, 1, 1, 1, 1, 1, 1, 1, 1, 1, 1, 1, 1]], ⟨[3, 12], ⟨[.own 0 0, .own 1 0], [.segs [.sl (.sl (.int .i64)), .sl (.int .i64), .i .i64], .segs [.sl (.sl (.int .i64)), .sl (.int .i64), .i .i64]]⟩⟩, fun p => some (.inr (p.2.1.1, p.2.1.2.1, p.2.1.2.2.1, p.2.2.1.1, p.2.2.1.2.1, p.2.2.1.2.2.1))⟩
noncomputable def emarks_l3_L (N : Nat) : LoopS := { at_ := emarks_l3_at, sta := emarks_l3_st, exits := [([.c [1, 1, 1, 1, 1, 1, 1, 1, 1, 1, 1, 1, 0, 1, 0, 0, 1, 1, 0, 0, 1, 1, 0, 0], .c [1, 1, 1, 1, 1, 1, 1, 1, 1, 1, 1, 1, 0, 1, 0, 0, 1, 1, 0, 0, 1, 1, 0, 1], .b 5, .c [1, 1, 1, 1, 1, 1, 1, 1, 1, 1, 1, 1, 0, 1, 0, 0, 1, 1, 1], .l [1, 1, 1, 1, 1, 1, 1, 1, 1, 1, 1, 1, 0, 1, 0, 0], .b 4, .c [1, 1, 1, 1, 1, 1, 1, 1, 1, 1, 1, 1, 1]], ⟨[], ⟨[], []⟩⟩), ([.c [1, 1, 1, 1, 1, 1, 1, 1, 1, 1, 1, 1, 1, 0], .c [1, 1, 1, 1, 1, 1, 1, 1, 1, 1, 1, 1, 1, 1]], ⟨[3, 12], ⟨[.own 0 0, .own 1 0], [.segs [.sl (.sl (.int .i64)), .sl (.int .i64), .i .i64], .segs [.sl (.sl (.int .i64)), .sl (.int .i64), .i .i64]]⟩⟩)], run := fun p k => (emarks_l3 N N p.1.2.2.2.1 p.1.2.2.2.2.1 p.1.2.2.2.2.2.1 p.2.1.1 p.2.1.2.1 p.2.1.2.2.1 p.2.2.1 p.2.2.2.1.1 p.2.2.2.1.2.1 p.2.2.2.1.2.2.1).bind fun e => match e with | .inl x => k (.inl ((), ())) | .inr x => k (.inr (.inl (((), (), ()), ((x.1, x.2.1, x.2.2.1, ()), (x.2.2.2.1, x.2.2.2.2.1, x.2.2.2.2.2, ()), ())))) }
theorem emarks_l3_eq (N n_ : Nat) (u : List (List (List Int))) (u2 : Int) (u3 : Int) (x : List (List Int)) (x2 : List Int) (x3 : Int) (given : List (List (List Int))) (own : List (List Int)) (own2 : List Int) (own3 : Int) : ev (Z := (Unit) ⊕ (List (List Int) × List Int × Int × List (List Int) × List Int × Int)) Try.prog (emarks_sp N) emarks_B [emarks_l2_L N, emarks_l1_L N] [emarks_l3_h (emarks_l3 N n_), emarks_l3_e0, emarks_l3_e1] none 400 true emarks_l3_at (stL emarks_l3_st (((), (), (), u, u2, u3, ()), ((x, x2, x3, ()), given, (own, own2, own3, ()), ()))) (stH emarks_l3_st (((), (), (), u, u2, u3, ()), ((x, x2, x3, ()), given, (own, own2, own3, ()), ()))) = emarks_l3 N (n_ + 1) u u2 u3 x x2 x3 given own own2 own3 := by kernel_rfl
theorem emarks_l3_ok (N : Nat) {top : Bool} : LoopOK Try.prog emarks_B.c emarks_B.n emarks_B.m0 top (emarks_l3_L N) := loop_of_ev (Z := (Unit) ⊕ (List (List Int) × List Int × Int × List (List Int) × List Int × Int)) (N := N) (fun m p => emarks_l3 N m p.1.2.2.2.1 p.1.2.2.2.2.1 p.1.2.2.2.2.2.1 p.2.1.1 p.2.1.2.1 p.2.1.2.2.1 p.2.2.1 p.2.2.2.1.1 p.2.2.2.1.2.1 p.2.2.2.1.2.2.1) (fun e => match e with | .inl x => .inl ((), ()) | .inr x => .inr (.inl (((), (), ()), ((x.1, x.2.1, x.2.2.1, ()), (x.2.2.2.1, x.2.2.2.2.1, x.2.2.2.2.2, ()), ())))) (fun _ p k => bind_congr_ (emarks_l3 N N p.1.2.2.2.1 p.1.2.2.2.2.1 p.1.2.2.2.2.2.1 p.2.1.1 p.2.1.2.1 p.2.1.2.2.1 p.2.2.1 p.2.2.2.1.1 p.2.2.2.1.2.1 p.2.2.2.1.2.2.1) _ _ (fun e => by rcases e with x | x <;> rfl)) (fun _ => rfl) (fun m z E Xc hE hX hrec hx => leaf_of_ev (B := emarks_B) (loops := [emarks_l2_L N, emarks_l1_L N]) (leaves := [emarks_l3_h (emarks_l3 N m), emarks_l3_e0, emarks_l3_e1]) (emarks_all N) mixed ⟨emarks_l2_ok N, emarks_l1_ok N, trivial⟩ hE hX ⟨hrec, (fun p hp => by obtain rfl := Option.some.inj hp; exact hx), (fun p hp => by obtain rfl := Option.some.inj hp; exact hx), trivial⟩ RetOK.no (fun p => emarks_l3_eq N m p.1.2.2.2.1 p.1.2.2.2.2.1 p.1.2.2.2.2.2.1 p.2.1.1 p.2.1.2.1 p.2.1.2.2.1 p.2.2.1 p.2.2.2.1.1 p.2.2.2.1.2.1 p.2.2.2.1.2.2.1))
abbrev emarks_j1_at : List PI := [.c [1, 1, 1, 1, 1, 1, 1, 1, 1, 1, 1, 1, 0, 0], .c [1, 1, 1, 1, 1, 1, 1, 1, 1, 1, 1, 1, 0, 1], .c [1, 1, 1, 1, 1, 1, 1, 1, 1, 1, 1, 1, 1]]
abbrev emarks_j1_st : Sta := ⟨[2, 3, 7, 12], ⟨[.sl (.sl (.sl (.int .i64))), .own 0 0, .ols 1, .own 2 0], [.segs [.sl (.sl (.int .i64)), .sl (.int .i64), .i .i64], .lst (.sl (.sl (.int .i64))), .segs [.sl (.sl (.int .i64)), .sl (.int .i64), .i .i64]]⟩⟩
abbrev emarks_j1_k (N : Nat) : Leaf Bool := ⟨emarks_j1_at, emarks_j1_st, fun p => emarks_j1 N p.1.1 p.2.1.1 p.2.1.2.1 p.2.1.2.2.1 p.2.2.1 p.2.2.2.1.1 p.2.2.2.1.2.1 p.2.2.2.1.2.2.1⟩
theorem emarks_j1_eq (N : Nat) (marks : List (List (List Int))) (x : List (List Int)) (x2 : List Int) (x3 : Int) (given : List (List (List Int))) (own : List (List Int)) (own2 : List Int) (own3 : Int) : ev (Z := Bool) Try.prog (emarks_sp N) emarks_B [emarks_l2_L N, emarks_l1_L N, emarks_l3_L N] [] (some emarks_rt) 400 true emarks_j1_at (stL emarks_j1_st ((marks, (), (), (), ()), ((x, x2, x3, ()), given, (own, own2, own3, ()), ()))) (stH emarks_j1_st ((marks, (), (), (), ()), ((x, x2, x3, ()), given, (own, own2, own3, ()), ()))) = emarks_j1 N marks x x2 x3 given own own2 own3 := by kernel_rfl
theorem emarks_j1_lf (N : Nat) {z : Bool} {E : EE} {Xc : Ctx} (hE : EOK emarks_B.m0 E) (hX : CxOK true Xc) (hret : RetOK Try.prog emarks_B E Xc z (some emarks_rt)) : LeafOK Try.prog emarks_B.c emarks_B.n emarks_B.m0 E Xc z (emarks_j1_k N) := leaf_of_ev (B := emarks_B) (loops := [emarks_l2_L N, emarks_l1_L N, emarks_l3_L N]) (leaves := []) (emarks_all N) mixed ⟨emarks_l2_ok N, emarks_l1_ok N, emarks_l3_ok N, trivial⟩ hE hX trivial hret (fun p => emarks_j1_eq N p.1.1 p.2.1.1 p.2.1.2.1 p.2.1.2.2.1 p.2.2.1 p.2.2.2.1.1 p.2.2.2.1.2.1 p.2.2.2.1.2.2.1)
abbrev emarks_st : Sta := ⟨[0, 1, 2], ⟨[.agg [.sl (.sl (.int .i64)), .sl (.int .i64), .i .i64], .agg [.i .i64, .i .i64], .sl (.sl (.sl (.int .i64)))], []⟩⟩
theorem emarks_eq (N : Nat) (x : List (List Int)) (x2 : List Int) (x3 : Int) (p : Int) (p2 : Int) (marks : List (List (List Int))) : ev (Z := Bool) Try.prog (emarks_sp N) emarks_B [emarks_l2_L N, emarks_l1_L N, emarks_l3_L N] [emarks_j1_k N] (some emarks_rt) 400 false [.c [0], .c [1]] (stL emarks_st (((x, x2, x3, ()), (p, p2, ()), marks, ()), ())) (stH emarks_st (((x, x2, x3, ()), (p, p2, ()), marks, ()), ())) = emarks_S N x x2 x3 p p2 marks := by kernel_rfl
noncomputable def sp_emarks (N : Nat) : Spec := { f := 12, ins := ⟨[.agg [.sl (.sl (.int .i64)), .sl (.int .i64), .i .i64], .agg [.i .i64, .i .i64], .sl (.sl (.sl (.int .i64)))], []⟩, outs := [⟨[.b], []⟩], run := fun p k => (emarks_S N p.1.1.1 p.1.1.2.1 p.1.1.2.2.1 p.1.2.1.1 p.1.2.1.2.1 p.1.2.2.1).bind fun r => k ((r, ()), ()) }
theorem sp_emarks_ok (N : Nat) : SpecOK Try.prog (sp_emarks N) := fn_sound (B := emarks_B) (loops := [emarks_l2_L N, emarks_l1_L N, emarks_l3_L N]) (leaves := [emarks_j1_k N]) (fun p => emarks_S N p.1.1.1 p.1.1.2.1 p.1.1.2.2.1 p.1.2.1.1 p.1.2.1.2.1 p.1.2.2.1) (fun r => ((r, ()), ())) emarks_rt (fun _ _ _ => rfl) (fun r z h => by cases h; rfl) Try.func12 (by kernel_rfl) (by kernel_rfl) (by kernel_rfl) rfl rfl (by kernel_rfl) (fun args w => Sem.pv_run _ _ _ (by kernel_rfl) w) (emarks_all N) mixed ⟨emarks_l2_ok N, emarks_l1_ok N, emarks_l3_ok N, trivial⟩ (fun z E Xc hE hX hret => ⟨emarks_j1_lf N hE hX hret, trivial⟩) (fun p => emarks_eq N p.1.1.1 p.1.1.2.1 p.1.1.2.2.1 p.1.2.1.1 p.1.2.1.2.1 p.1.2.2.1)

end Go.Proofs.Ytfcnhnbnjdccfaa

namespace Go.Proofs.Ytfcnhnbnjdccfaa
set_option linter.all false
open Go

section
variable {N : Nat} {T : List (List Int)} {H A B : List Int} {f : Int}
/-- A cell of the grid. -/
def gv (G : List Int) (i a b : Nat) : Int := G.getD (i * 49 + a * 7 + b) 0
def val3 (X : List (List (List Int))) (i a b : Nat) : Int := ((X.getD i []).getD a []).getD b 0
theorem get_gv {Z : Type} {G : List Int} {k i a b : Nat} {g : Int → Option Z} (hG : G.length = 539) (hk : k = i * 49 + a * 7 + b) (h : i ≤ 10 ∧ a ≤ 6 ∧ b ≤ 6) : get G k g = g (gv G i a b) := by
  subst hk
  exact get_get 0 (by omega)
theorem gv_in {G : List Int} (hG : G.length = 539) (hin : ∀ x ∈ G, 0 ≤ x ∧ x ≤ 99) {i a b : Nat} (h : i ≤ 10 ∧ a ≤ 6 ∧ b ≤ 6) : 0 ≤ gv G i a b ∧ gv G i a b ≤ 99 := hin _ (getD_mem (by omega))
theorem bound_j4_v {G : List Int} {i a b : Nat} {n : Int} (hG : G.length = 539) (hH : H.length ≤ 10) (hB : B.length ≤ 6) (hi : i ≤ H.length) (ha : a ≤ 6) (hb : b ≤ B.length) (hn : n ≤ 99) :
    bound_j4 N (T, H, f, A, B) i a b n G = some (min n (if 0 < i ∧ 0 < b ∧ H.getD (i - 1) 0 = B.getD (b - 1) 0 then gv G (i - 1) a (b - 1) else 99), G) := by
  unfold bound_j4
  have out : ¬ (0 < i ∧ 0 < b ∧ H.getD (i - 1) 0 = B.getD (b - 1) 0) → some (n, G) = some (min n (if 0 < i ∧ 0 < b ∧ H.getD (i - 1) 0 = B.getD (b - 1) 0 then gv G (i - 1) a (b - 1) else 99), G) := fun h => by
    rw [if_neg h, Int.min_eq_left hn]
  by_cases c1 : 0 < i
  · rw [br_dec (by omega)]
    by_cases c2 : 0 < b
    · have e1 : ((i : Int) - 1).toNat = i - 1 := by omega
      have e2 : ((b : Int) - 1).toNat = b - 1 := by omega
      rw [br_dec (by omega), chk_eq (by omega), idx_get 0 (by omega) (by dsimp only; omega), chk_eq (by omega), idx_get 0 (by omega) (by dsimp only; omega), e1, e2]
      dsimp only
      by_cases c3 : H.getD (i - 1) 0 = B.getD (b - 1) 0
      · rw [br_dec c3, chk_eq (by omega), chk_eq (by omega), rng_eq (by omega), rng_eq (by omega), rng_eq (by omega), get_gv (i := i - 1) (a := a) (b := b - 1) hG (by simp) (by omega), if_pos ⟨c1, c2, c3⟩]
      · rw [br_ndec c3]; exact out (fun h => c3 h.2.2)
    · rw [br_ndec (by omega)]; exact out (fun h => c2 h.2.1)
  · rw [br_ndec (by omega)]; exact out (fun h => c1 h.1)
theorem bound_j3_v {G : List Int} {i a b : Nat} {n : Int} (hG : G.length = 539) (hH : H.length ≤ 10) (hA : A.length ≤ 6) (hB : B.length ≤ 6) (hi : i ≤ H.length) (ha : a ≤ A.length) (hb : b ≤ B.length) (hn : n ≤ 99) :
    bound_j3 N (T, H, f, A, B) i a b n G = some (min (min n (if 0 < i ∧ 0 < a ∧ H.getD (i - 1) 0 = A.getD (a - 1) 0 then gv G (i - 1) (a - 1) b else 99)) (if 0 < i ∧ 0 < b ∧ H.getD (i - 1) 0 = B.getD (b - 1) 0 then gv G (i - 1) a (b - 1) else 99), G) := by
  unfold bound_j3
  have j4 := fun (n : Int) (hn : n ≤ 99) => bound_j4_v (N := N) (T := T) (A := A) (f := f) (a := a) (n := n) hG hH hB hi (by omega) hb hn
  have out : ¬ (0 < i ∧ 0 < a ∧ H.getD (i - 1) 0 = A.getD (a - 1) 0) → min n (if 0 < i ∧ 0 < a ∧ H.getD (i - 1) 0 = A.getD (a - 1) 0 then gv G (i - 1) (a - 1) b else 99) = n := fun h => by
    rw [if_neg h, Int.min_eq_left hn]
  by_cases c1 : 0 < i
  · rw [br_dec (by omega)]
    by_cases c2 : 0 < a
    · have e1 : ((i : Int) - 1).toNat = i - 1 := by omega
      have e2 : ((a : Int) - 1).toNat = a - 1 := by omega
      rw [br_dec (by omega), chk_eq (by omega), idx_get 0 (by omega) (by dsimp only; omega), chk_eq (by omega), idx_get 0 (by omega) (by dsimp only; omega), e1, e2]
      dsimp only
      by_cases c3 : H.getD (i - 1) 0 = A.getD (a - 1) 0
      · rw [br_dec c3, chk_eq (by omega), chk_eq (by omega), rng_eq (by omega), rng_eq (by omega), rng_eq (by omega), get_gv (i := i - 1) (a := a - 1) (b := b) hG (by simp) (by omega), j4 _ (by omega), if_pos (show 0 < i ∧ 0 < a ∧ H.getD (i - 1) 0 = A.getD (a - 1) 0 from ⟨c1, c2, c3⟩)]
      · rw [br_ndec c3, j4 _ hn, out (fun h => c3 h.2.2)]
    · rw [br_ndec (by omega), j4 _ hn, out (fun h => c2 h.2.1)]
  · rw [br_ndec (by omega), j4 _ hn, out (fun h => c1 h.1)]
theorem bound_v {G : List Int} {i a b : Nat} (hG : G.length = 539) (hin : ∀ x ∈ G, 0 ≤ x ∧ x ≤ 99) (hH : H.length ≤ 10) (hA : A.length ≤ 6) (hB : B.length ≤ 6) (hi : i ≤ H.length) (ha : a ≤ A.length) (hb : b ≤ B.length) :
    bound_S N (T, H, f, A, B) i a b G = some (bndF H A B (gv G) i a b, G) := by
  unfold bound_S bndF
  have j3 := fun (n : Int) (hn : n ≤ 99) => bound_j3_v (N := N) (T := T) (f := f) (n := n) hG hH hA hB hi ha hb hn
  rw [chk_eq (by omega), chk_eq (by omega)]
  by_cases z : i + a + b = 0
  · rw [br_dec (by omega), if_pos z]
  · rw [br_ndec (by omega), if_neg z]
    have j2 : ∀ n : Int, n ≤ 99 → bound_j2 N (T, H, f, A, B) i a b n G = some (min (min (min n (if 0 < b then gv G i a (b - 1) + 1 else 99)) (if 0 < i ∧ 0 < a ∧ H.getD (i - 1) 0 = A.getD (a - 1) 0 then gv G (i - 1) (a - 1) b else 99)) (if 0 < i ∧ 0 < b ∧ H.getD (i - 1) 0 = B.getD (b - 1) 0 then gv G (i - 1) a (b - 1) else 99), G) := fun n hn => by
      unfold bound_j2
      by_cases c : 0 < b
      · have g := gv_in hG hin (i := i) (a := a) (b := b - 1) (by omega)
        rw [br_dec (by omega), chk_eq (by omega), rng_eq (by omega), rng_eq (by omega), rng_eq (by omega), get_gv (i := i) (a := a) (b := b - 1) hG (by simp) (by omega), chk_eq (by omega), j3 _ (by omega), if_pos c]
      · rw [br_ndec (by omega), j3 _ hn, if_neg c, Int.min_eq_left hn]
    have j1 : ∀ n : Int, n ≤ 99 → bound_j1 N (T, H, f, A, B) i a b n G = some (min (min (min (min n (if 0 < a then gv G i (a - 1) b + 1 else 99)) (if 0 < b then gv G i a (b - 1) + 1 else 99)) (if 0 < i ∧ 0 < a ∧ H.getD (i - 1) 0 = A.getD (a - 1) 0 then gv G (i - 1) (a - 1) b else 99)) (if 0 < i ∧ 0 < b ∧ H.getD (i - 1) 0 = B.getD (b - 1) 0 then gv G (i - 1) a (b - 1) else 99), G) := fun n hn => by
      unfold bound_j1
      by_cases c : 0 < a
      · have g := gv_in hG hin (i := i) (a := a - 1) (b := b) (by omega)
        have e2 : ((a : Int) - 1).toNat = a - 1 := by omega
        rw [br_dec (by omega), chk_eq (by omega), rng_eq (by omega), rng_eq (by omega), rng_eq (by omega), get_gv (i := i) (a := a - 1) (b := b) hG (by rw [e2]; simp) (by omega), chk_eq (by omega), j2 _ (by omega), if_pos c]
      · rw [br_ndec (by omega), j2 _ hn, if_neg c, Int.min_eq_left hn]
    by_cases c : 0 < i
    · have g := gv_in hG hin (i := i - 1) (a := a) (b := b) (by omega)
      have e1 : ((i : Int) - 1).toNat = i - 1 := by omega
      rw [br_dec (by omega), chk_eq (by omega), rng_eq (by omega), rng_eq (by omega), rng_eq (by omega), get_gv (i := i - 1) (a := a) (b := b) hG (by rw [e1]; simp) (by omega), chk_eq (by omega), j1 _ (by omega), if_pos c]
    · rw [br_ndec (by omega), j1 _ (by omega), if_neg c]
      simp
theorem bndF_congr {v v' : Nat → Nat → Nat → Int} {i a b : Nat} (h : ∀ i' a' b', i' ≤ i → a' ≤ a → b' ≤ b → i' + a' + b' < i + a + b → v i' a' b' = v' i' a' b') : bndF H A B v i a b = bndF H A B v' i a b := by
  unfold bndF
  by_cases z : i + a + b = 0
  · rw [if_pos z, if_pos z]
  · rw [if_neg z, if_neg z]
    have e1 : (if 0 < i then v (i - 1) a b + 1 else 99) = if 0 < i then v' (i - 1) a b + 1 else 99 := by split; rw [h _ _ _ (by omega) (by omega) (by omega) (by omega)]; rfl
    have e2 : (if 0 < a then v i (a - 1) b + 1 else 99) = if 0 < a then v' i (a - 1) b + 1 else 99 := by split; rw [h _ _ _ (by omega) (by omega) (by omega) (by omega)]; rfl
    have e3 : (if 0 < b then v i a (b - 1) + 1 else 99) = if 0 < b then v' i a (b - 1) + 1 else 99 := by split; rw [h _ _ _ (by omega) (by omega) (by omega) (by omega)]; rfl
    have e4 : (if 0 < i ∧ 0 < a ∧ H.getD (i - 1) 0 = A.getD (a - 1) 0 then v (i - 1) (a - 1) b else 99) = if 0 < i ∧ 0 < a ∧ H.getD (i - 1) 0 = A.getD (a - 1) 0 then v' (i - 1) (a - 1) b else 99 := by
      split
      · rename_i c; rw [h _ _ _ (by omega) (by omega) (by omega) (by omega)]
      · rfl
    have e5 : (if 0 < i ∧ 0 < b ∧ H.getD (i - 1) 0 = B.getD (b - 1) 0 then v (i - 1) a (b - 1) else 99) = if 0 < i ∧ 0 < b ∧ H.getD (i - 1) 0 = B.getD (b - 1) 0 then v' (i - 1) a (b - 1) else 99 := by
      split
      · rename_i c; rw [h _ _ _ (by omega) (by omega) (by omega) (by omega)]
      · rfl
    rw [e1, e2, e3, e4, e5]
theorem gv_set {G : List Int} {i a b i' a' b' : Nat} {v : Int} (hG : G.length = 539) (h : i ≤ 10 ∧ a ≤ 6 ∧ b ≤ 6) (h' : a' ≤ 6 ∧ b' ≤ 6) : gv (G.set (i * 49 + a * 7 + b) v) i' a' b' = if i' = i ∧ a' = a ∧ b' = b then v else gv G i' a' b' := by
  unfold gv
  rw [getD_set3 _ _ _ _ _ (by omega)]
  by_cases c : i' = i ∧ a' = a ∧ b' = b
  · rw [if_pos c, if_pos (by obtain ⟨rfl, rfl, rfl⟩ := c; rfl)]
  · rw [if_neg c, if_neg (fun h2 => c (by omega))]
theorem val_upd3 {X : List (List (List Int))} {I A' B' i a b i' a' b' : Nat} {v : Int} (hX : Shp X I A' B') (hi : i < I) (ha : a < A') (hb : b < B') : val3 (upd3 X i a b v) i' a' b' = if i' = i ∧ a' = a ∧ b' = b then v else val3 X i' a' b' := by
  obtain ⟨h1, h2⟩ := hX
  obtain ⟨h3, h4⟩ := h2 i hi
  unfold val3 upd3
  rw [getD_set3 _ _ _ _ _ (by omega)]
  by_cases c1 : i' = i
  · subst c1
    rw [if_pos rfl, getD_set3 _ _ _ _ _ (by omega)]
    by_cases c2 : a' = a
    · subst c2
      rw [if_pos rfl, getD_set3 _ _ _ _ _ (by rw [h4 a' ha]; exact hb)]
      by_cases c3 : b' = b
      · rw [if_pos c3, if_pos ⟨rfl, rfl, c3⟩]
      · rw [if_neg c3, if_neg (fun h => c3 h.2.2)]
    · rw [if_neg c2, if_neg (fun h => c2 h.2.1)]
  · rw [if_neg c1, if_neg (fun h => c1 h.1)]
/-- So far the marks are as great as can be. -/
structure MI (H A B G : List Int) (X : List (List (List Int))) (o : Nat) : Prop where
  glen : G.length = 539
  gin : ∀ x ∈ G, 0 ≤ x ∧ x ≤ 99
  shp : Shp X (H.length + 1) (A.length + 1) (B.length + 1)
  fix : ∀ i a b, i ≤ H.length → a ≤ A.length → b ≤ B.length → i * 49 + a * 7 + b < o → gv G i a b = bndF H A B (gv G) i a b ∧ val3 X i a b = gv G i a b
theorem MI.step {G : List Int} {X : List (List (List Int))} {i a b : Nat} (h : MI H A B G X (i * 49 + a * 7 + b)) (hH : H.length ≤ 10) (hA : A.length ≤ 6) (hB : B.length ≤ 6) (hi : i ≤ H.length) (ha : a ≤ A.length) (hb : b ≤ B.length) :
    MI H A B (G.set (i * 49 + a * 7 + b) (bndF H A B (gv G) i a b)) (upd3 X i a b (bndF H A B (gv G) i a b)) (i * 49 + a * 7 + (b + 1)) := by
  have hle := bndF_le (H := H) (A := A) (B := B) (v := gv G) i a b
  have hnn : 0 ≤ bndF H A B (gv G) i a b := bndF_nonneg (fun i' a' b' h1 h2 h3 _ => (gv_in h.glen h.gin (by omega)).1)
  refine ⟨by rw [List.length_set]; exact h.glen, fun x hx => ?_, h.shp.upd3 (by omega) (by omega), fun i' a' b' h1 h2 h3 h4 => ?_⟩
  · rcases List.mem_or_eq_of_mem_set hx with hx | rfl
    · exact h.gin x hx
    · exact ⟨hnn, hle⟩
  · have hcg : bndF H A B (gv (G.set (i * 49 + a * 7 + b) (bndF H A B (gv G) i a b))) i' a' b' = bndF H A B (gv G) i' a' b' := bndF_congr (fun i2 a2 b2 g1 g2 g3 g4 => by
      rw [gv_set h.glen (by omega) (by omega), if_neg (by omega)])
    rw [hcg, gv_set h.glen (by omega) (by omega), val_upd3 h.shp (by omega) (by omega) (by omega)]
    by_cases c : i' = i ∧ a' = a ∧ b' = b
    · rw [if_pos c, if_pos c]
      obtain ⟨rfl, rfl, rfl⟩ := c
      exact ⟨rfl, rfl⟩
    · rw [if_neg c, if_neg c]
      exact h.fix i' a' b' h1 h2 h3 (by omega)
theorem MI.mono {G : List Int} {X : List (List (List Int))} {o o' : Nat} (h : MI H A B G X o) (hA : A.length ≤ 6) (hB : B.length ≤ 6) (ho : ∀ i a b, i ≤ H.length → a ≤ A.length → b ≤ B.length → i * 49 + a * 7 + b < o' → i * 49 + a * 7 + b < o) : MI H A B G X o' :=
  ⟨h.glen, h.gin, h.shp, fun i a b h1 h2 h3 h4 => h.fix i a b h1 h2 h3 (ho i a b h1 h2 h3 h4)⟩
theorem mkB_v (hH : H.length ≤ 10) (hA : A.length ≤ 6) (hB : B.length ≤ 6) {i a : Nat} (hi : i ≤ H.length) (ha : a ≤ A.length) : ∀ (k b : Nat) (G : List Int) (X : List (List (List Int))), k + b = B.length + 1 → MI H A B G X (i * 49 + a * 7 + b) → ∃ G2 X2, mkB N (T, H, f, A, B) i a k b G X = some (G2, X2) ∧ MI H A B G2 X2 (i * 49 + a * 7 + (B.length + 1))
  | 0, b, G, X, hk, h => ⟨G, X, rfl, by rw [show B.length + 1 = b by omega]; exact h⟩
  | k + 1, b, G, X, hk, h => by
    unfold mkB
    rw [bound_v h.glen h.gin hH hA hB hi ha (by omega)]
    simp only [Option.bind_some]
    exact mkB_v hH hA hB hi ha k (b + 1) _ _ (by omega) (h.step hH hA hB hi ha (by omega))
theorem mkA_v (hH : H.length ≤ 10) (hA : A.length ≤ 6) (hB : B.length ≤ 6) {i : Nat} (hi : i ≤ H.length) : ∀ (k a : Nat) (G : List Int) (X : List (List (List Int))), k + a = A.length + 1 → MI H A B G X (i * 49 + a * 7) → ∃ G2 X2, mkA N (T, H, f, A, B) (B.length + 1) i k a G X = some (G2, X2) ∧ MI H A B G2 X2 (i * 49 + (A.length + 1) * 7)
  | 0, a, G, X, hk, h => ⟨G, X, rfl, by rw [show A.length + 1 = a by omega]; exact h⟩
  | k + 1, a, G, X, hk, h => by
    unfold mkA
    obtain ⟨G1, X1, e, h1⟩ := mkB_v (N := N) (T := T) (f := f) hH hA hB hi (by omega : a ≤ A.length) (B.length + 1) 0 G X (by omega) h
    rw [e]
    simp only [Option.bind_some]
    exact mkA_v hH hA hB hi k (a + 1) G1 X1 (by omega) (h1.mono hA hB (fun i' a' b' _ _ _ _ => by omega))
theorem mkI_v (hH : H.length ≤ 10) (hA : A.length ≤ 6) (hB : B.length ≤ 6) : ∀ (k i : Nat) (G : List Int) (X : List (List (List Int))), k + i = H.length + 1 → MI H A B G X (i * 49) → ∃ G2 X2, mkI N (T, H, f, A, B) (A.length + 1) (B.length + 1) k i G X = some (G2, X2) ∧ MI H A B G2 X2 ((H.length + 1) * 49)
  | 0, i, G, X, hk, h => ⟨G, X, rfl, by rw [show H.length + 1 = i by omega]; exact h⟩
  | k + 1, i, G, X, hk, h => by
    unfold mkI
    obtain ⟨G1, X1, e, h1⟩ := mkA_v (N := N) (T := T) (f := f) hH hA hB (by omega : i ≤ H.length) (A.length + 1) 0 G X (by omega) h
    rw [e]
    simp only [Option.bind_some]
    exact mkI_v hH hA hB k (i + 1) G1 X1 (by omega) (h1.mono hA hB (fun i' a' b' _ _ _ _ => by omega))
/-- Marks that are as great as can be. -/
structure Mks (H A B : List Int) (X : List (List (List Int))) : Prop where
  shp : Shp X (H.length + 1) (A.length + 1) (B.length + 1)
  fix : ∀ i a b, i ≤ H.length → a ≤ A.length → b ≤ B.length → val3 X i a b = bndF H A B (val3 X) i a b
  rng : ∀ i a b, i ≤ H.length → a ≤ A.length → b ≤ B.length → 0 ≤ val3 X i a b ∧ val3 X i a b ≤ 99
theorem marks_v (hN : 20 ≤ N) {p p2 : Int} (h : openE T H f p p2 = 0) : ∃ X, marks_S N T H f p p2 = some (X, 0) ∧ Mks H (T.getD p.toNat []) (T.getD p2.toNat []) X := by
  obtain ⟨hF, ha, hb, e⟩ := opened_good hN h
  have hH := hF.h
  have lA := (hF.l (T.getD p.toNat []) (getD_mem (by omega))).2
  have lB := (hF.l (T.getD p2.toNat []) (getD_mem (by omega))).2
  unfold marks_S
  rw [e]
  simp only [Option.bind_some, decide_true, Bool.not_true, br_false]
  unfold marks_j1
  dsimp only
  generalize T.getD p.toNat [] = A at *
  generalize T.getD p2.toNat [] = B at *
  rw [if_pos ⟨hH, lA, lB⟩]
  obtain ⟨G2, X2, e2, h2⟩ := mkI_v (N := N) (T := T) (f := f) hH lA lB (H.length + 1) 0 (List.replicate 539 0) (zeros3 (H.length + 1) (A.length + 1) (B.length + 1)) (by omega) ⟨List.length_replicate, fun x hx => by rw [(List.mem_replicate.1 hx).2]; decide, Shp.zeros _ _ _, fun i a b _ _ _ h => by omega⟩
  rw [e2]
  refine ⟨X2, rfl, h2.shp, fun i a b h1 h3 h4 => ?_, fun i a b h1 h3 h4 => ?_⟩
  · obtain ⟨g1, g2⟩ := h2.fix i a b h1 h3 h4 (by omega)
    rw [g2, g1]
    exact bndF_congr (fun i' a' b' k1 k2 k3 _ => ((h2.fix i' a' b' (by omega) (by omega) (by omega) (by omega)).2).symm)
  · obtain ⟨g1, g2⟩ := h2.fix i a b h1 h3 h4 (by omega)
    rw [g2]
    exact gv_in h2.glen h2.gin (by omega)
theorem marks_bad (hN : 20 ≤ N) {p p2 : Int} (h : openE T H f p p2 ≠ 0) : marks_S N T H f p p2 = some ([], openE T H f p p2) := by
  unfold marks_S
  rw [opened_bad hN h]
  simp only [Option.bind_some]
  rw [br_nnd h]
end
end Go.Proofs.Ytfcnhnbnjdccfaa

namespace Go.Proofs.Ytfcnhnbnjdccfaa
set_option linter.all false
open Go

section
variable {N : Nat} {T : List (List Int)} {H A B : List Int} {f : Int} {m : List (List (List Int))}
theorem idx3_v {Z : Type} {I A' B' : Nat} (hS : Shp m I A' B') {i k n : Int} {g : Int → Option Z} (h1 : 0 ≤ i ∧ i < I) (h2 : 0 ≤ k ∧ k < A') (h3 : 0 ≤ n ∧ n < B') : (idx m i fun x => idx x k fun y => idx y n fun z => g z) = g (val3 m i.toNat k.toNat n.toNat) := by
  obtain ⟨g1, g2⟩ := hS
  obtain ⟨g3, g4⟩ := g2 i.toNat (by omega)
  have g5 := g4 k.toNat (by omega)
  rw [idx_get [] h1.1 (by omega), idx_get [] h2.1 (by omega), idx_get 0 h3.1 (by omega)]
  rfl
/-! ### The reference -/
abbrev RecT := List (List (List Int)) → List Int → List Int → Bool → Bool → Int → Int → Int → List (List Int) → List Int → Int → Option (List (List (List Int)) × List Int × List Int × Bool × Bool × Int × Int × List (List Int) × List Int × Int)
section
variable {rec : RecT} {al ho : Bool} {i k n : Nat} {now : Int} (hS : Shp m (H.length + 1) (A.length + 1) (B.length + 1)) (hH : H.length ≤ 1000) (hA : A.length ≤ 1000) (hB : B.length ≤ 1000) (hi : i ≤ H.length) (hk : k ≤ A.length) (hn : n ≤ B.length)
include hS hH hA hB hi hk hn
theorem rshows_j3_v : rshows_j3 N rec m A B al ho i k n now T H f = rshows_j4 N rec m A B al (ho && !(decide (0 < i ∧ 0 < n ∧ H.getD (i - 1) 0 = B.getD (n - 1) 0 ∧ val3 m (i - 1) k (n - 1) < now))) i k n T H f := by
  unfold rshows_j3
  by_cases c1 : 0 < i
  · rw [br_dec (by omega)]
    by_cases c2 : 0 < n
    · have e1 : (IntKind.i64.wrap ((i : Int) - 1)) = (i : Int) - 1 := wrap64 (by omega)
      have e2 : (IntKind.i64.wrap ((n : Int) - 1)) = (n : Int) - 1 := wrap64 (by omega)
      have e3 : ((i : Int) - 1).toNat = i - 1 := by omega
      have e4 : ((n : Int) - 1).toNat = n - 1 := by omega
      rw [br_dec (by omega), e1, e2, idx_get 0 (by omega) (by omega), idx_get 0 (by omega) (by omega), e3, e4]
      by_cases c3 : H.getD (i - 1) 0 = B.getD (n - 1) 0
      · rw [br_dec c3, idx3_v hS (by omega) (by omega) (by omega), e3, e4, Int.toNat_natCast]
        by_cases c4 : val3 m (i - 1) k (n - 1) < now
        · rw [br_dec c4, decide_eq_true (show 0 < i ∧ 0 < n ∧ H.getD (i - 1) 0 = B.getD (n - 1) 0 ∧ val3 m (i - 1) k (n - 1) < now from ⟨c1, c2, c3, c4⟩)]; simp
        · rw [br_ndec c4, decide_eq_false (fun h => c4 h.2.2.2)]; simp
      · rw [br_ndec c3, decide_eq_false (fun h => c3 h.2.2.1)]; simp
    · rw [br_ndec (by omega), decide_eq_false (fun h => c2 h.2.1)]; simp
  · rw [br_ndec (by omega), decide_eq_false (fun h => c1 h.1)]; simp
theorem rshows_j2_v : rshows_j2 N rec m A B al ho i k n now T H f = rshows_j3 N rec m A B al (ho && !(decide (0 < i ∧ 0 < k ∧ H.getD (i - 1) 0 = A.getD (k - 1) 0 ∧ val3 m (i - 1) (k - 1) n < now))) i k n now T H f := by
  unfold rshows_j2
  by_cases c1 : 0 < i
  · rw [br_dec (by omega)]
    by_cases c2 : 0 < k
    · have e1 : (IntKind.i64.wrap ((i : Int) - 1)) = (i : Int) - 1 := wrap64 (by omega)
      have e2 : (IntKind.i64.wrap ((k : Int) - 1)) = (k : Int) - 1 := wrap64 (by omega)
      have e3 : ((i : Int) - 1).toNat = i - 1 := by omega
      have e4 : ((k : Int) - 1).toNat = k - 1 := by omega
      rw [br_dec (by omega), e1, e2, idx_get 0 (by omega) (by omega), idx_get 0 (by omega) (by omega), e3, e4]
      by_cases c3 : H.getD (i - 1) 0 = A.getD (k - 1) 0
      · rw [br_dec c3, idx3_v hS (by omega) (by omega) (by omega), e3, e4, Int.toNat_natCast]
        by_cases c4 : val3 m (i - 1) (k - 1) n < now
        · rw [br_dec c4, decide_eq_true (show 0 < i ∧ 0 < k ∧ H.getD (i - 1) 0 = A.getD (k - 1) 0 ∧ val3 m (i - 1) (k - 1) n < now from ⟨c1, c2, c3, c4⟩)]; simp
        · rw [br_ndec c4, decide_eq_false (fun h => c4 h.2.2.2)]; simp
      · rw [br_ndec c3, decide_eq_false (fun h => c3 h.2.2.1)]; simp
    · rw [br_ndec (by omega), decide_eq_false (fun h => c2 h.2.1)]; simp
  · rw [br_ndec (by omega), decide_eq_false (fun h => c1 h.1)]; simp
theorem rshows_j1_v : rshows_j1 N rec m A B al ho i k n now T H f = rshows_j2 N rec m A B al (ho && !((decide (0 < i) && decide (val3 m (i - 1) k n < IntKind.i64.wrap (now - 1))) || ((decide (0 < k) && decide (val3 m i (k - 1) n < IntKind.i64.wrap (now - 1))) || (decide (0 < n) && decide (val3 m i k (n - 1) < IntKind.i64.wrap (now - 1)))))) i k n now T H f := by
  unfold rshows_j1
  generalize IntKind.i64.wrap (now - 1) = W
  have t1 : ((i : Int) - 1).toNat = i - 1 := by omega
  have t2 : ((k : Int) - 1).toNat = k - 1 := by omega
  have t3 : ((n : Int) - 1).toNat = n - 1 := by omega
  have third : br (decide (0 < (n : Int))) (idx m i fun x => idx x k fun y => idx y (IntKind.i64.wrap ((n : Int) - 1)) fun z => br (decide (z < W)) (rshows_j2 N rec m A B al false i k n now T H f) (rshows_j2 N rec m A B al ho i k n now T H f)) (rshows_j2 N rec m A B al ho i k n now T H f)
      = rshows_j2 N rec m A B al (ho && !(decide (0 < n) && decide (val3 m i k (n - 1) < W))) i k n now T H f := by
    by_cases c : 0 < n
    · have e : (IntKind.i64.wrap ((n : Int) - 1)) = (n : Int) - 1 := wrap64 (by omega)
      rw [br_dec (by omega), e, idx3_v hS (by omega) (by omega) (by omega), t3, Int.toNat_natCast, Int.toNat_natCast]
      by_cases d : val3 m i k (n - 1) < W
      · rw [br_dec d]; simp [c, d]
      · rw [br_ndec d]; simp [d]
    · rw [br_ndec (by omega)]; simp [c]
  have second : br (decide (0 < (k : Int))) (idx m i fun x => idx x (IntKind.i64.wrap ((k : Int) - 1)) fun y => idx y n fun z => br (decide (z < W)) (rshows_j2 N rec m A B al false i k n now T H f) (rshows_j2 N rec m A B al (ho && !(decide (0 < n) && decide (val3 m i k (n - 1) < W))) i k n now T H f)) (rshows_j2 N rec m A B al (ho && !(decide (0 < n) && decide (val3 m i k (n - 1) < W))) i k n now T H f)
      = rshows_j2 N rec m A B al (ho && !((decide (0 < k) && decide (val3 m i (k - 1) n < W)) || (decide (0 < n) && decide (val3 m i k (n - 1) < W)))) i k n now T H f := by
    by_cases c : 0 < k
    · have e : (IntKind.i64.wrap ((k : Int) - 1)) = (k : Int) - 1 := wrap64 (by omega)
      rw [br_dec (by omega), e, idx3_v hS (by omega) (by omega) (by omega), t2, Int.toNat_natCast, Int.toNat_natCast]
      by_cases d : val3 m i (k - 1) n < W
      · rw [br_dec d]; simp [c, d]
      · rw [br_ndec d]; simp [d]
    · rw [br_ndec (by omega)]; simp [c]
  rw [third, second]
  by_cases c : 0 < i
  · have e : (IntKind.i64.wrap ((i : Int) - 1)) = (i : Int) - 1 := wrap64 (by omega)
    rw [br_dec (by omega), e, idx3_v hS (by omega) (by omega) (by omega), t1, Int.toNat_natCast, Int.toNat_natCast]
    by_cases d : val3 m (i - 1) k n < W
    · rw [br_dec d]; simp [c, d]
    · rw [br_ndec d]; simp [d]
  · rw [br_ndec (by omega)]; simp [c]
end
/-- What is asked of a mark, but at the beginning. -/
def C3 (H A B : List Int) (v : Nat → Nat → Nat → Int) (i a b : Nat) : Prop :=
  (0 < i → v i a b ≤ v (i - 1) a b + 1) ∧ (0 < a → v i a b ≤ v i (a - 1) b + 1) ∧ (0 < b → v i a b ≤ v i a (b - 1) + 1) ∧ (0 < i → 0 < a → H.getD (i - 1) 0 = A.getD (a - 1) 0 → v i a b ≤ v (i - 1) (a - 1) b) ∧ (0 < i → 0 < b → H.getD (i - 1) 0 = B.getD (b - 1) 0 → v i a b ≤ v (i - 1) a (b - 1))
theorem C3.stp {v : Nat → Nat → Nat → Int} {i a b : Nat} : Stp3 H A B v i a b (v i a b) ↔ (i + a + b = 0 → v i a b ≤ 0) ∧ C3 H A B v i a b :=
  ⟨fun h => ⟨h.sz, h.sh, h.sa, h.sb, h.sha, h.shb⟩, fun h => ⟨h.1, h.2.1, h.2.2.1, h.2.2.2.1, h.2.2.2.2.1, h.2.2.2.2.2⟩⟩
/-- All marks are from 0 to 99. -/
def Rng3 (H A B : List Int) (m : List (List (List Int))) : Prop := ∀ i a b, i ≤ H.length → a ≤ A.length → b ≤ B.length → 0 ≤ val3 m i a b ∧ val3 m i a b ≤ 99
section
variable (hS : Shp m (H.length + 1) (A.length + 1) (B.length + 1)) (hH : H.length ≤ 1000) (hA : A.length ≤ 1000) (hB : B.length ≤ 1000)
include hS hH hA hB
/-- One mark. -/
theorem rshows_one {rec : RecT} {al ho : Bool} {i k n : Nat} (hi : i ≤ H.length) (hk : k ≤ A.length) (hn : n ≤ B.length) : ∃ ho', rshows_j1 N rec m A B al ho i k n (val3 m i k n) T H f = rec m A B al ho' i k ((n : Int) + 1) T H f ∧ (Rng3 H A B m → (ho' = true ↔ ho = true ∧ C3 H A B (val3 m) i k n)) := by
  rw [rshows_j1_v hS hH hA hB hi hk hn, rshows_j2_v hS hH hA hB hi hk hn, rshows_j3_v hS hH hA hB hi hk hn]
  unfold rshows_j4
  rw [chk_eq (by omega)]
  refine ⟨_, rfl, fun hR => ?_⟩
  have h0 := hR i k n hi hk hn
  rw [wrap64 (by omega)]
  unfold C3
  simp only [Bool.and_eq_true, Bool.not_eq_true', Bool.or_eq_false_iff, Bool.and_eq_false_iff, decide_eq_false_iff_not]
  constructor
  · rintro ⟨⟨⟨h1, h2, h3, h4⟩, h5⟩, h6⟩
    refine ⟨h1, fun g => ?_, fun g => ?_, fun g => ?_, fun g1 g2 g3 => ?_, fun g1 g2 g3 => ?_⟩
    · rcases h2 with h | h
      · exact absurd g h
      · omega
    · rcases h3 with h | h
      · exact absurd g h
      · omega
    · rcases h4 with h | h
      · exact absurd g h
      · omega
    · have : ¬ val3 m (i - 1) (k - 1) n < val3 m i k n := fun h => h5 ⟨g1, g2, g3, h⟩
      omega
    · have : ¬ val3 m (i - 1) k (n - 1) < val3 m i k n := fun h => h6 ⟨g1, g2, g3, h⟩
      omega
  · rintro ⟨h1, h2, h3, h4, h5, h6⟩
    refine ⟨⟨⟨h1, ?_, ?_, ?_⟩, fun g => ?_⟩, fun g => ?_⟩
    · by_cases g : 0 < i
      · have := h2 g; exact .inr (by omega)
      · exact .inl g
    · by_cases g : 0 < k
      · have := h3 g; exact .inr (by omega)
      · exact .inl g
    · by_cases g : 0 < n
      · have := h4 g; exact .inr (by omega)
      · exact .inl g
    · have := h5 g.1 g.2.1 g.2.2.1; omega
    · have := h6 g.1 g.2.1 g.2.2.1; omega
theorem rshows_l5_p {i k : Nat} (hi : i ≤ H.length) (hk : k ≤ A.length) : ∀ (fu n : Nat) (al ho : Bool), B.length + 1 < fu + n → n ≤ B.length + 1 → ∃ al' ho', rshows_l5 N fu m A B al ho i k n T H f = some (m, A, B, al', ho', (i : Int), (k : Int), T, H, f) ∧ (al' = true ↔ al = true ∧ ∀ b, n ≤ b → b ≤ B.length → 0 ≤ val3 m i k b ∧ val3 m i k b ≤ 99) ∧ (Rng3 H A B m → (ho' = true ↔ ho = true ∧ ∀ b, n ≤ b → b ≤ B.length → C3 H A B (val3 m) i k b))
  | 0, n, al, ho, h, hn => by omega
  | fu + 1, n, al, ho, h, hn => by
    rw [rshows_l5]
    by_cases c : n ≤ B.length
    · rw [br_dec (by omega), idx3_v hS (by omega) (by omega) (by omega)]
      simp only [Int.toNat_natCast]
      rw [off_v]
      simp only [Option.bind_some]
      have one := fun (al2 : Bool) => rshows_one (N := N) (T := T) (f := f) hS hH hA hB (rec := rshows_l5 N fu) (al := al2) (ho := ho) hi hk c
      by_cases d : 0 ≤ val3 m i k n ∧ val3 m i k n ≤ 99
      · rw [decide_eq_true d, Bool.not_true, br_false]
        obtain ⟨h1, e1, g1⟩ := one al
        rw [e1]
        obtain ⟨al', ho', e2, q1, q2⟩ := rshows_l5_p hi hk fu (n + 1) al h1 (by omega) (by omega)
        rw [show ((n + 1 : Nat) : Int) = (n : Int) + 1 by omega] at e2
        refine ⟨al', ho', e2, ?_, fun hR => ?_⟩
        · rw [q1]
          exact ⟨fun h => ⟨h.1, fun b h1 h2 => by rcases Nat.lt_or_ge n b with h3 | h3; exact h.2 b h3 h2; obtain rfl : b = n := by omega
                                                  exact d⟩, fun h => ⟨h.1, fun b h1 h2 => h.2 b (by omega) h2⟩⟩
        · rw [q2 hR, g1 hR]
          exact ⟨fun h => ⟨h.1.1, fun b h1 h2 => by rcases Nat.lt_or_ge n b with h3 | h3; exact h.2 b h3 h2; obtain rfl : b = n := by omega
                                                    exact h.1.2⟩, fun h => ⟨⟨h.1, h.2 n (Nat.le_refl _) c⟩, fun b h1 h2 => h.2 b (by omega) h2⟩⟩
      · rw [decide_eq_false d, Bool.not_false, br_true]
        obtain ⟨h1, e1, g1⟩ := one false
        rw [e1]
        obtain ⟨al', ho', e2, q1, q2⟩ := rshows_l5_p hi hk fu (n + 1) false h1 (by omega) (by omega)
        rw [show ((n + 1 : Nat) : Int) = (n : Int) + 1 by omega] at e2
        refine ⟨al', ho', e2, ?_, fun hR => ?_⟩
        · rw [q1]
          exact ⟨fun h => absurd h.1 (by decide), fun h => absurd (h.2 n (Nat.le_refl _) c) d⟩
        · exact absurd (hR i k n hi hk c) d
    · rw [br_ndec (by omega)]
      exact ⟨al, ho, rfl, ⟨fun h => ⟨h, fun b h1 h2 => by omega⟩, fun h => h.1⟩, fun _ => ⟨fun h => ⟨h, fun b h1 h2 => by omega⟩, fun h => h.1⟩⟩
theorem rshows_l4_p (hBN : B.length + 1 < N) {i : Nat} (hi : i ≤ H.length) : ∀ (fu k : Nat) (al ho : Bool), A.length + 1 < fu + k → k ≤ A.length + 1 → ∃ al' ho', rshows_l4 N fu m A B al ho i k T H f = some (m, A, B, al', ho', (i : Int), T, H, f) ∧ (al' = true ↔ al = true ∧ ∀ a b, k ≤ a → a ≤ A.length → b ≤ B.length → 0 ≤ val3 m i a b ∧ val3 m i a b ≤ 99) ∧ (Rng3 H A B m → (ho' = true ↔ ho = true ∧ ∀ a b, k ≤ a → a ≤ A.length → b ≤ B.length → C3 H A B (val3 m) i a b))
  | 0, k, al, ho, h, hn => by omega
  | fu + 1, k, al, ho, h, hn => by
    rw [rshows_l4]
    by_cases c : k ≤ A.length
    · obtain ⟨al1, ho1, e1, p1, p2⟩ := rshows_l5_p (N := N) (T := T) (f := f) hS hH hA hB hi c N 0 al ho (by omega) (by omega)
      rw [show ((0 : Nat) : Int) = 0 from rfl] at e1
      rw [br_dec (by omega), e1]
      simp only [Option.bind_some]
      rw [chk_eq (by omega)]
      obtain ⟨al', ho', e2, q1, q2⟩ := rshows_l4_p hBN hi fu (k + 1) al1 ho1 (by omega) (by omega)
      rw [show ((k + 1 : Nat) : Int) = (k : Int) + 1 by omega] at e2
      refine ⟨al', ho', e2, ?_, fun hR => ?_⟩
      · rw [q1, p1]
        exact ⟨fun h => ⟨h.1.1, fun a b h1 h2 h3 => by rcases Nat.lt_or_ge k a with h4 | h4; exact h.2 a b h4 h2 h3; obtain rfl : a = k := by omega
                                                       exact h.1.2 b (Nat.zero_le _) h3⟩, fun h => ⟨⟨h.1, fun b _ h2 => h.2 k b (Nat.le_refl _) c h2⟩, fun a b h1 h2 h3 => h.2 a b (by omega) h2 h3⟩⟩
      · rw [q2 hR, p2 hR]
        exact ⟨fun h => ⟨h.1.1, fun a b h1 h2 h3 => by rcases Nat.lt_or_ge k a with h4 | h4; exact h.2 a b h4 h2 h3; obtain rfl : a = k := by omega
                                                       exact h.1.2 b (Nat.zero_le _) h3⟩, fun h => ⟨⟨h.1, fun b _ h2 => h.2 k b (Nat.le_refl _) c h2⟩, fun a b h1 h2 h3 => h.2 a b (by omega) h2 h3⟩⟩
    · rw [br_ndec (by omega)]
      exact ⟨al, ho, rfl, ⟨fun h => ⟨h, fun a b h1 h2 => by omega⟩, fun h => h.1⟩, fun _ => ⟨fun h => ⟨h, fun a b h1 h2 => by omega⟩, fun h => h.1⟩⟩
theorem rshows_l3_p (hAN : A.length + 1 < N) (hBN : B.length + 1 < N) : ∀ (fu i : Nat) (al ho : Bool), H.length + 1 < fu + i → i ≤ H.length + 1 → ∃ al' ho', rshows_l3 N fu m A B al ho i T H f = some (m, A, B, al', ho', T, H, f) ∧ (al' = true ↔ al = true ∧ ∀ j a b, i ≤ j → j ≤ H.length → a ≤ A.length → b ≤ B.length → 0 ≤ val3 m j a b ∧ val3 m j a b ≤ 99) ∧ (Rng3 H A B m → (ho' = true ↔ ho = true ∧ ∀ j a b, i ≤ j → j ≤ H.length → a ≤ A.length → b ≤ B.length → C3 H A B (val3 m) j a b))
  | 0, k, al, ho, h, hn => by omega
  | fu + 1, i, al, ho, h, hn => by
    rw [rshows_l3]
    by_cases c : i ≤ H.length
    · obtain ⟨al1, ho1, e1, p1, p2⟩ := rshows_l4_p (N := N) (T := T) (f := f) hS hH hA hB hBN c N 0 al ho (by omega) (by omega)
      rw [show ((0 : Nat) : Int) = 0 from rfl] at e1
      rw [br_dec (by omega), e1]
      simp only [Option.bind_some]
      rw [chk_eq (by omega)]
      obtain ⟨al', ho', e2, q1, q2⟩ := rshows_l3_p hAN hBN fu (i + 1) al1 ho1 (by omega) (by omega)
      rw [show ((i + 1 : Nat) : Int) = (i : Int) + 1 by omega] at e2
      refine ⟨al', ho', e2, ?_, fun hR => ?_⟩
      · rw [q1, p1]
        exact ⟨fun h => ⟨h.1.1, fun j a b h1 h2 h3 h5 => by rcases Nat.lt_or_ge i j with h4 | h4; exact h.2 j a b h4 h2 h3 h5; obtain rfl : j = i := by omega
                                                            exact h.1.2 a b (Nat.zero_le _) h3 h5⟩, fun h => ⟨⟨h.1, fun a b _ h2 h3 => h.2 i a b (Nat.le_refl _) c h2 h3⟩, fun j a b h1 h2 h3 h5 => h.2 j a b (by omega) h2 h3 h5⟩⟩
      · rw [q2 hR, p2 hR]
        exact ⟨fun h => ⟨h.1.1, fun j a b h1 h2 h3 h5 => by rcases Nat.lt_or_ge i j with h4 | h4; exact h.2 j a b h4 h2 h3 h5; obtain rfl : j = i := by omega
                                                            exact h.1.2 a b (Nat.zero_le _) h3 h5⟩, fun h => ⟨⟨h.1, fun a b _ h2 h3 => h.2 i a b (Nat.le_refl _) c h2 h3⟩, fun j a b h1 h2 h3 h5 => h.2 j a b (by omega) h2 h3 h5⟩⟩
    · rw [br_ndec (by omega)]
      exact ⟨al, ho, rfl, ⟨fun h => ⟨h, fun j a b h1 h2 => by omega⟩, fun h => h.1⟩, fun _ => ⟨fun h => ⟨h, fun j a b h1 h2 => by omega⟩, fun h => h.1⟩⟩
end
/-! ### The size of marks -/
def rowK (B : List Int) (k : List Int) : Bool := decide ((k.length : Int) = (B.length : Int) + 1)
def rowL (A B : List Int) (l : List (List Int)) : Bool := decide ((l.length : Int) = (A.length : Int) + 1) && l.all (rowK B)
theorem rshows_l2_p {i : Nat} {l : List (List Int)} (hl : m[i]? = some l) (hll : l.length ≤ 1000) (hB : B.length ≤ 1000) : ∀ (fu k : Nat), l.length < fu + k → k ≤ l.length → rshows_l2 N fu m A B i k T H f = some (if (l.drop k).all (rowK B) = true then .inr (m, A, B, (i : Int), T, H, f) else .inl ())
  | 0, k, h, _ => by omega
  | fu + 1, k, h, hk => by
    rw [rshows_l2, idx_eq (by omega) (by rw [Int.toNat_natCast]; exact hl)]
    by_cases c : k < l.length
    · have hk' : l[((k : Nat) : Int).toNat]? = some (l.getD k []) := by simp [List.getD, c]
      have hd : l.drop k = l.getD k [] :: l.drop (k + 1) := by
        rw [List.drop_eq_getElem_cons c]; simp [List.getD, c]
      rw [br_dec (by omega), idx_eq (by omega) (by rw [Int.toNat_natCast]; exact hl), idx_eq (by omega) hk', chk_eq (by omega), hd, List.all_cons]
      generalize l.getD k [] = r
      have next := rshows_l2_p hl hll hB fu (k + 1) (by omega) (by omega)
      rw [show ((k + 1 : Nat) : Int) = (k : Int) + 1 by omega] at next
      unfold rowK at next ⊢
      by_cases d : (r.length : Int) = (B.length : Int) + 1
      · rw [br_nd d, chk_eq (by omega), next, decide_eq_true d, Bool.true_and]
      · rw [br_nnd d, decide_eq_false d, Bool.false_and]; rfl
    · rw [br_ndec (by omega), List.drop_of_length_le (by omega)]; rfl
theorem rshows_l1_p (hm : m.length ≤ 1000) (hml : ∀ l ∈ m, l.length ≤ 1000 ∧ l.length < N) (hA : A.length ≤ 1000) (hB : B.length ≤ 1000) : ∀ (fu i : Nat), m.length < fu + i → i ≤ m.length → ∃ r, rshows_l1 N fu m A B i T H f = some r ∧ ((m.drop i).all (rowL A B) = true ∧ r = .inr (.inr (m, A, B, T, H, f)) ∨ (m.drop i).all (rowL A B) = false ∧ (r = .inl () ∨ r = .inr (.inl ())))
  | 0, i, h, _ => by omega
  | fu + 1, i, h, hi => by
    rw [rshows_l1]
    by_cases c : i < m.length
    · have hk' : m[i]? = some (m.getD i []) := by simp [List.getD, c]
      have hd : m.drop i = m.getD i [] :: m.drop (i + 1) := by
        rw [List.drop_eq_getElem_cons c]; simp [List.getD, c]
      obtain ⟨l1, l2⟩ := hml (m.getD i []) (getD_mem c)
      rw [br_dec (by omega), idx_eq (by omega) (by rw [Int.toNat_natCast]; exact hk'), chk_eq (by omega), hd, List.all_cons]
      have e2 := rshows_l2_p (N := N) (A := A) (B := B) (T := T) (H := H) (f := f) hk' l1 hB N 0 (by omega) (by omega)
      generalize m.getD i [] = l at *
      rw [show ((0 : Nat) : Int) = 0 from rfl, List.drop_zero] at e2
      obtain ⟨r, e3, hr⟩ := rshows_l1_p hm hml hA hB fu (i + 1) (by omega) (by omega)
      rw [show ((i + 1 : Nat) : Int) = (i : Int) + 1 by omega] at e3
      have hrow : rowL A B l = (decide ((l.length : Int) = (A.length : Int) + 1) && l.all (rowK B)) := rfl
      rw [hrow]
      by_cases d : (l.length : Int) = (A.length : Int) + 1
      · rw [br_nd d, e2, decide_eq_true d, Bool.true_and]
        simp only [Option.bind_some]
        cases g : l.all (rowK B) with
        | true =>
          simp only [if_true]
          rw [chk_eq (by omega), Bool.true_and]
          exact ⟨r, e3, hr⟩
        | false => exact ⟨_, rfl, .inr ⟨rfl, .inr rfl⟩⟩
      · rw [br_nnd d, decide_eq_false d, Bool.false_and]
        exact ⟨_, rfl, .inr ⟨rfl, .inl rfl⟩⟩
    · rw [br_ndec (by omega), List.drop_of_length_le (by omega)]
      exact ⟨_, rfl, .inl ⟨rfl, rfl⟩⟩
theorem shp_of (h1 : (m.length : Int) = (H.length : Int) + 1) (h2 : m.all (rowL A B) = true) : Shp m (H.length + 1) (A.length + 1) (B.length + 1) := by
  refine ⟨by omega, fun i hi => ?_⟩
  have g := List.all_eq_true.1 h2 (m.getD i []) (getD_mem (by omega))
  unfold rowL at g
  simp only [Bool.and_eq_true, decide_eq_true_eq] at g
  refine ⟨by omega, fun a ha => ?_⟩
  have g2 := List.all_eq_true.1 g.2 ((m.getD i []).getD a []) (getD_mem (by omega))
  unfold rowK at g2
  simp only [decide_eq_true_eq] at g2
  omega
/-- What marks of an echo without an error show. -/
def ShowG (H A B : List Int) (m : List (List (List Int))) (r : Int × Int) : Prop :=
  (¬ ((m.length : Int) = (H.length : Int) + 1 ∧ m.all (rowL A B) = true) ∧ r = (0, 2)) ∨
    (((m.length : Int) = (H.length : Int) + 1 ∧ m.all (rowL A B) = true) ∧
      ((¬ Rng3 H A B m ∧ r = (0, 3)) ∨ (Rng3 H A B m ∧
        ((¬ Holds3 H A B (val3 m) ∧ r = (0, 8)) ∨ (Holds3 H A B (val3 m) ∧ r = (val3 m H.length A.length B.length, 0))))))
/-- What marks show. -/
def ShowV (T : List (List Int)) (H : List Int) (f p p2 : Int) (m : List (List (List Int))) (r : Int × Int) : Prop :=
  if openE T H f p p2 ≠ 0 then r = (0, openE T H f p p2) else ShowG H (T.getD p.toNat []) (T.getD p2.toNat []) m r
theorem ShowV.good {p p2 : Int} {o : Option (Int × Int)} (c : openE T H f p p2 = 0) (h : ∃ r, o = some r ∧ ShowG H (T.getD p.toNat []) (T.getD p2.toNat []) m r) : ∃ r, o = some r ∧ ShowV T H f p p2 m r := by
  obtain ⟨r, e, h⟩ := h
  refine ⟨r, e, ?_⟩
  unfold ShowV
  rw [if_neg (by simpa using c)]
  exact h
theorem ShowV.bad {p p2 : Int} (c : openE T H f p p2 ≠ 0) : ShowV T H f p p2 m (0, openE T H f p p2) := by
  unfold ShowV
  rw [if_pos c]
theorem ShowV.uniq {p p2 : Int} {r r' : Int × Int} (h : ShowV T H f p p2 m r) (h' : ShowV T H f p p2 m r') : r = r' := by
  unfold ShowV at h h'
  split at h
  · rename_i c
    rw [if_pos c] at h'
    rw [h, h']
  · rename_i c
    rw [if_neg c] at h'
    unfold ShowG at h h'
    rcases h with ⟨a1, e⟩ | ⟨a1, h⟩
    · rcases h' with ⟨_, e'⟩ | ⟨b1, _⟩
      · rw [e, e']
      · exact absurd b1 a1
    · rcases h' with ⟨b1, _⟩ | ⟨_, h'⟩
      · exact absurd a1 b1
      · rcases h with ⟨a2, e⟩ | ⟨a2, h⟩
        · rcases h' with ⟨_, e'⟩ | ⟨b2, _⟩
          · rw [e, e']
          · exact absurd b2 a2
        · rcases h' with ⟨b2, _⟩ | ⟨_, h'⟩
          · exact absurd a2 b2
          · rcases h with ⟨a3, e⟩ | ⟨a3, e⟩
            · rcases h' with ⟨_, e'⟩ | ⟨b3, _⟩
              · rw [e, e']
              · exact absurd b3 a3
            · rcases h' with ⟨b3, _⟩ | ⟨_, e'⟩
              · exact absurd a3 b3
              · rw [e, e']
theorem holds_iff {v : Nat → Nat → Nat → Int} : Holds3 H A B v ↔ v 0 0 0 ≤ 0 ∧ ∀ i a b, i ≤ H.length → a ≤ A.length → b ≤ B.length → C3 H A B v i a b := by
  constructor
  · intro h
    exact ⟨(h 0 0 0 (by omega) (by omega) (by omega)).sz rfl, fun i a b h1 h2 h3 => (C3.stp.1 (h i a b h1 h2 h3)).2⟩
  · intro h i a b h1 h2 h3
    refine C3.stp.2 ⟨fun z => ?_, h.2 i a b h1 h2 h3⟩
    obtain rfl : i = 0 := by omega
    obtain rfl : a = 0 := by omega
    obtain rfl : b = 0 := by omega
    exact h.1
theorem rshows_v (hN : 1010 ≤ N) (hs : Small T H) {p p2 : Int} (hm : m.length ≤ 14) (hml : ∀ l ∈ m, l.length ≤ 14) : ∃ r, rshows_S N T H f p p2 m = some r ∧ ShowV T H f p p2 m r := by
  unfold rshows_S
  rw [rtwo_v (by omega) hs]
  simp only [Option.bind_some]
  by_cases c : openE T H f p p2 = 0
  · refine ShowV.good c ?_
    rw [br_nd c]
    obtain ⟨hF, ha, hb, _⟩ := opened_good (N := N) (by omega) c
    have hH := hF.h
    have lA := (hF.l (T.getD p.toNat []) (getD_mem (by omega))).2
    have lB := (hF.l (T.getD p2.toNat []) (getD_mem (by omega))).2
    rw [idx_get [] ha.1 (by omega), idx_get [] hb.1 (by omega), chk_eq (by omega)]
    generalize T.getD p.toNat [] = A at *
    generalize T.getD p2.toNat [] = B at *
    by_cases c1 : (m.length : Int) = (H.length : Int) + 1
    · rw [br_nd c1]
      obtain ⟨r1, e1, h1⟩ := rshows_l1_p (N := N) (T := T) (H := H) (f := f) (A := A) (B := B) (m := m) (by omega) (fun l hl => by have := hml l hl; omega) (by omega) (by omega) N 0 (by omega) (by omega)
      rw [show ((0 : Nat) : Int) = 0 from rfl] at e1
      rw [List.drop_zero] at h1
      rw [e1]
      simp only [Option.bind_some]
      rcases h1 with ⟨h1, rfl⟩ | ⟨h1, rfl | rfl⟩
      · have hS := shp_of c1 h1
        dsimp only
        rw [idx3_v hS (i := 0) (k := 0) (n := 0) (by omega) (by omega) (by omega)]
        obtain ⟨al, ho, e2, g1, g2⟩ := rshows_l3_p (N := N) (T := T) (f := f) hS (by omega) (by omega) (by omega) (by omega) (by omega) N 0 true (decide (val3 m (0 : Int).toNat (0 : Int).toNat (0 : Int).toNat = 0)) (by omega) (by omega)
        rw [show ((0 : Nat) : Int) = 0 from rfl] at e2
        rw [e2]
        simp only [Option.bind_some]
        have hal : al = true ↔ Rng3 H A B m := by
          rw [g1]
          exact ⟨fun h i a b h1 h2 h3 => h.2 i a b (Nat.zero_le _) h1 h2 h3, fun h => ⟨rfl, fun j a b _ h1 h2 h3 => h j a b h1 h2 h3⟩⟩
        cases al with
        | false => exact ⟨_, rfl, .inr ⟨⟨c1, h1⟩, .inl ⟨fun h => absurd (hal.2 h) (by decide), rfl⟩⟩⟩
        | true =>
          have hR := hal.1 rfl
          rw [Bool.not_true, br_false]
          have hho : ho = true ↔ Holds3 H A B (val3 m) := by
            rw [g2 hR, holds_iff, decide_eq_true_eq]
            have r0 := hR 0 0 0 (by omega) (by omega) (by omega)
            have e0 : val3 m (0 : Int).toNat (0 : Int).toNat (0 : Int).toNat = val3 m 0 0 0 := rfl
            rw [e0]
            exact ⟨fun h => ⟨by omega, fun i a b h1 h2 h3 => h.2 i a b (Nat.zero_le _) h1 h2 h3⟩, fun h => ⟨by omega, fun j a b _ h1 h2 h3 => h.2 j a b h1 h2 h3⟩⟩
          cases ho with
          | false => exact ⟨_, rfl, .inr ⟨⟨c1, h1⟩, .inr ⟨hR, .inl ⟨fun h => absurd (hho.2 h) (by decide), rfl⟩⟩⟩⟩
          | true =>
            rw [Bool.not_true, br_false, idx3_v hS (by omega) (by omega) (by omega)]
            exact ⟨_, rfl, .inr ⟨⟨c1, h1⟩, .inr ⟨hR, .inr ⟨hho.1 rfl, by simp⟩⟩⟩⟩
      · exact ⟨_, rfl, .inl ⟨fun h => absurd h.2 (by rw [h1]; decide), rfl⟩⟩
      · exact ⟨_, rfl, .inl ⟨fun h => absurd h.2 (by rw [h1]; decide), rfl⟩⟩
    · rw [br_nnd c1]
      exact ⟨_, rfl, .inl ⟨fun h => c1 h.1, rfl⟩⟩
  · rw [br_nnd c]
    exact ⟨_, rfl, ShowV.bad c⟩
end
end Go.Proofs.Ytfcnhnbnjdccfaa

namespace Go.Proofs.Ytfcnhnbnjdccfaa
set_option linter.all false
open Go

section
variable {N : Nat} {T : List (List Int)} {H A B : List Int} {f : Int} {m : List (List (List Int))}
theorem ixfg_gen (d : List (List Int) × List Int × Int × List Int × List Int) : ∀ (n : Nat) (s : List (List Int)) (u u2 : Int), ixfg_l1 N n s u u2 d = (ixL (fun x => (shows11_S N x d).bind fun c => some (!c)) n s u u2).bind fun e => match e with | .inl i => some (.inl (i, d)) | .inr _ => some (.inr d)
  | 0, _, _, _ => rfl
  | n + 1, s, u, u2 => by
    unfold ixfg_l1 ixL
    by_cases c : u2 < u
    · rw [br_dec c, br_dec c]
      unfold idx
      by_cases c0 : 0 ≤ u2
      · rw [if_pos c0, if_pos c0]
        cases hx : s[u2.toNat]? with
        | none => rfl
        | some p =>
          dsimp only
          unfold every1g_S
          cases hy : shows11_S N p d with
          | none => rfl
          | some b =>
            simp only [Option.bind_some]
            cases b with
            | false => rfl
            | true =>
              simp only [Bool.not_true, br_false]
              unfold chk
              cases okI (u2 + 1) with
              | false => rfl
              | true => exact ixfg_gen d n s u (u2 + 1)
      · rw [if_neg c0, if_neg c0]; rfl
    · rw [br_ndec c, br_ndec c]; rfl
theorem everyg_v {s : List (List Int)} {d : List (List Int) × List Int × Int × List Int × List Int} {p : List Int → Bool} (hp : ∀ x ∈ s, shows11_S N x d = some (p x)) (hs : s.length ≤ 1000) (hN : s.length < N) : everyg_S N s d = some (s.all p) := by
  obtain ⟨r, h1, h2⟩ := ixL_ok (f := fun x => (shows11_S N x d).bind fun c => some (!c)) (p := fun x => !(p x)) (s := s) (fun x hx => by rw [hp x hx]; rfl) (by omega) N 0 (by omega) (by omega)
  unfold everyg_S cofg_S ixfg_S
  rw [ixfg_gen]
  rw [show ((0 : Nat) : Int) = 0 from rfl] at h1
  rw [h1, ← any_not]
  cases r with
  | inl i => simp only [List.drop_zero] at h2; simp [h2.1.1, h2.2]
  | inr u => simp only [List.drop_zero] at h2; simp [h2]
theorem ixfh_gen (d : List (List Int) × List Int × Int × List Int × List Int) : ∀ (n : Nat) (s : List (List (List Int))) (u u2 : Int), ixfh_l1 N n s u u2 d = (ixL (fun x => (shows1_S N x d).bind fun c => some (!c)) n s u u2).bind fun e => match e with | .inl i => some (.inl (i, d)) | .inr _ => some (.inr d)
  | 0, _, _, _ => rfl
  | n + 1, s, u, u2 => by
    unfold ixfh_l1 ixL
    by_cases c : u2 < u
    · rw [br_dec c, br_dec c]
      unfold idx
      by_cases c0 : 0 ≤ u2
      · rw [if_pos c0, if_pos c0]
        cases hx : s[u2.toNat]? with
        | none => rfl
        | some p =>
          dsimp only
          unfold every1h_S
          cases hy : shows1_S N p d with
          | none => rfl
          | some b =>
            simp only [Option.bind_some]
            cases b with
            | false => rfl
            | true =>
              simp only [Bool.not_true, br_false]
              unfold chk
              cases okI (u2 + 1) with
              | false => rfl
              | true => exact ixfh_gen d n s u (u2 + 1)
      · rw [if_neg c0, if_neg c0]; rfl
    · rw [br_ndec c, br_ndec c]; rfl
theorem everyh_v {s : List (List (List Int))} {d : List (List Int) × List Int × Int × List Int × List Int} {p : List (List Int) → Bool} (hp : ∀ x ∈ s, shows1_S N x d = some (p x)) (hs : s.length ≤ 1000) (hN : s.length < N) : everyh_S N s d = some (s.all p) := by
  obtain ⟨r, h1, h2⟩ := ixL_ok (f := fun x => (shows1_S N x d).bind fun c => some (!c)) (p := fun x => !(p x)) (s := s) (fun x hx => by rw [hp x hx]; rfl) (by omega) N 0 (by omega) (by omega)
  unfold everyh_S cofh_S ixfh_S
  rw [ixfh_gen]
  rw [show ((0 : Nat) : Int) = 0 from rfl] at h1
  rw [h1, ← any_not]
  cases r with
  | inl i => simp only [List.drop_zero] at h2; simp [h2.1.1, h2.2]
  | inr u => simp only [List.drop_zero] at h2; simp [h2]
theorem ixfj_gen : ∀ (n : Nat) (s : List (Int)) (u u2 : Int), ixfj_l1 N n s u u2 = ixL (every1j_S N) n s u u2
  | 0, _, _, _ => rfl
  | n + 1, s, u, u2 => by simp only [ixfj_l1, ixL, ixfj_gen n]
theorem everyj_v {s : List (Int)} {p : Int → Bool} (hp : ∀ x ∈ s, every1j_S N x = some (!p x)) (hs : s.length ≤ 1000000) (hN : s.length < N) : everyj_S N s = some (s.all p) := by
  have := ixS_any (f := every1j_S N) (p := fun x => !p x) (s := s) (N := N) hp hs hN
  unfold everyj_S cofj_S
  have e : ixfj_S N s = ixS (every1j_S N) N s := by
    unfold ixfj_S ixS
    rw [ixfj_gen] <;> rfl
  rw [e, this]
  simp [any_not]
theorem ixfk_gen : ∀ (n : Nat) (s : List (List Int)) (u u2 : Int), ixfk_l1 N n s u u2 = ixL (every1k_S N) n s u u2
  | 0, _, _, _ => rfl
  | n + 1, s, u, u2 => by simp only [ixfk_l1, ixL, ixfk_gen n]
theorem everyk_v {s : List (List Int)} {p : List Int → Bool} (hp : ∀ x ∈ s, every1k_S N x = some (!p x)) (hs : s.length ≤ 1000000) (hN : s.length < N) : everyk_S N s = some (s.all p) := by
  have := ixS_any (f := every1k_S N) (p := fun x => !p x) (s := s) (N := N) hp hs hN
  unfold everyk_S cofk_S
  have e : ixfk_S N s = ixS (every1k_S N) N s := by
    unfold ixfk_S ixS
    rw [ixfk_gen] <;> rfl
  rw [e, this]
  simp [any_not]
theorem ixfl_gen : ∀ (n : Nat) (s : List (List (List Int))) (u u2 : Int), ixfl_l1 N n s u u2 = ixL (every1l_S N) n s u u2
  | 0, _, _, _ => rfl
  | n + 1, s, u, u2 => by simp only [ixfl_l1, ixL, ixfl_gen n]
theorem everyl_v {s : List (List (List Int))} {p : List (List Int) → Bool} (hp : ∀ x ∈ s, every1l_S N x = some (!p x)) (hs : s.length ≤ 1000000) (hN : s.length < N) : everyl_S N s = some (s.all p) := by
  have := ixS_any (f := every1l_S N) (p := fun x => !p x) (s := s) (N := N) hp hs hN
  unfold everyl_S cofl_S
  have e : ixfl_S N s = ixS (every1l_S N) N s := by
    unfold ixfl_S ixS
    rw [ixfl_gen] <;> rfl
  rw [e, this]
  simp [any_not]

theorem shows11_v {k : List Int} (hB : B.length ≤ 1000) : shows11_S N k (T, H, f, A, B) = some (rowK B k) := by
  unfold shows11_S rowK
  rw [chk_eq (by dsimp only; omega)]
theorem shows1_v {l : List (List Int)} (hA : A.length ≤ 1000) (hB : B.length ≤ 1000) (hl : l.length ≤ 1000) (hN : l.length < N) : shows1_S N l (T, H, f, A, B) = some (rowL A B l) := by
  unfold shows1_S rowL
  rw [chk_eq (by dsimp only; omega)]
  dsimp only
  by_cases c : (l.length : Int) = (A.length : Int) + 1
  · rw [br_dec c, everyg_v (p := rowK B) (fun x _ => shows11_v hB) hl hN, decide_eq_true c]; rfl
  · rw [br_ndec c, decide_eq_false c]; rfl
def okM (n : Int) : Bool := decide (0 ≤ n ∧ n ≤ 99)
theorem shows2_v {l : List (List Int)} (hl : l.length ≤ 1000 ∧ l.length < N) (hk : ∀ k ∈ l, k.length ≤ 1000 ∧ k.length < N) : shows2_S N l = some (l.all fun k => k.all okM) := by
  unfold shows2_S
  rw [everyk_v (p := fun k => k.all okM) (fun k hk' => by
    unfold every1k_S shows21_S
    rw [everyj_v (p := okM) (fun x _ => by unfold every1j_S shows211_S; rw [in_v]; rfl) (by have := (hk k hk').1; omega) (hk k hk').2]
    rfl) (by omega) hl.2]
  rfl
theorem rng_all (hS : Shp m (H.length + 1) (A.length + 1) (B.length + 1)) : (m.all fun l => l.all fun k => k.all okM) = true ↔ Rng3 H A B m := by
  obtain ⟨g1, g2⟩ := hS
  constructor
  · intro h i a b h1 h2 h3
    obtain ⟨g3, g4⟩ := g2 i (by omega)
    have g5 := g4 a (by omega)
    have k1 := List.all_eq_true.1 h (m.getD i []) (getD_mem (by omega))
    have k2 := List.all_eq_true.1 k1 ((m.getD i []).getD a []) (getD_mem (by omega))
    have k3 := List.all_eq_true.1 k2 (((m.getD i []).getD a []).getD b 0) (getD_mem (by omega))
    unfold okM at k3
    exact of_decide_eq_true k3
  · intro h
    refine List.all_eq_true.2 fun l hl => List.all_eq_true.2 fun k hk => List.all_eq_true.2 fun x hx => ?_
    obtain ⟨i, hi, rfl⟩ := List.getElem_of_mem hl
    obtain ⟨a, ha, rfl⟩ := List.getElem_of_mem hk
    obtain ⟨b, hb, rfl⟩ := List.getElem_of_mem hx
    have e1 : m.getD i [] = m[i] := by simp [List.getD, hi]
    obtain ⟨g3, g4⟩ := g2 i (by omega)
    rw [e1] at g3 g4
    have e2 : m[i].getD a [] = m[i][a] := by simp [List.getD, ha]
    have g5 := g4 a (by omega)
    rw [e2] at g5
    have := h i a b (by omega) (by omega) (by omega)
    unfold val3 at this
    rw [e1, e2, show m[i][a].getD b 0 = m[i][a][b] by simp [List.getD, hb]] at this
    exact decide_eq_true this
/-- The grid has the marks so far. -/
structure SI (H A B : List Int) (m : List (List (List Int))) (G : List Int) (o : Nat) : Prop where
  glen : G.length = 539
  gin : ∀ x ∈ G, 0 ≤ x ∧ x ≤ 99
  agr : ∀ i a b, i ≤ H.length → a ≤ A.length → b ≤ B.length → i * 49 + a * 7 + b < o → gv G i a b = val3 m i a b
theorem SI.mono {G : List Int} {o o' : Nat} (h : SI H A B m G o) (ho : ∀ i a b, i ≤ H.length → a ≤ A.length → b ≤ B.length → i * 49 + a * 7 + b < o' → i * 49 + a * 7 + b < o) : SI H A B m G o' :=
  ⟨h.glen, h.gin, fun i a b h1 h2 h3 h4 => h.agr i a b h1 h2 h3 (ho i a b h1 h2 h3 h4)⟩
section
variable (hS : Shp m (H.length + 1) (A.length + 1) (B.length + 1)) (hR : Rng3 H A B m) (hH : H.length ≤ 10) (hA : A.length ≤ 6) (hB : B.length ≤ 6)
include hS hR hH hA hB
theorem shows_l3_p {i a : Nat} {u : List (List (List Int))} {u2 u3 u5 u6 : Int} {u4 : List (List Int)} (hi : i ≤ H.length) (ha : a ≤ A.length) : ∀ (n b : Nat) (G : List Int), B.length + 1 < n + b → b ≤ B.length + 1 → SI H A B m G (i * 49 + a * 7 + b) →
    (∃ G', shows_l3 N n i a u u2 u3 u4 u5 u6 ((m.getD i []).getD a []) (((m.getD i []).getD a []).length : Int) b (T, H, f, A, B) G = some (.inr ((i : Int), u, u2, u3, u4, u5, u6, (T, H, f, A, B), G')) ∧ SI H A B m G' (i * 49 + a * 7 + (B.length + 1)) ∧ ∀ c, b ≤ c → c ≤ B.length → val3 m i a c ≤ bndF H A B (val3 m) i a c) ∨
    (shows_l3 N n i a u u2 u3 u4 u5 u6 ((m.getD i []).getD a []) (((m.getD i []).getD a []).length : Int) b (T, H, f, A, B) G = some (.inl ()) ∧ ∃ c, c ≤ B.length ∧ ¬ val3 m i a c ≤ bndF H A B (val3 m) i a c)
  | 0, b, G, h, _, _ => by omega
  | n + 1, b, G, h, hb, hG => by
    rw [shows_l3]
    have hl : ((m.getD i []).getD a []).length = B.length + 1 := (hS.2 i (by omega)).2 a (by omega)
    by_cases c : b ≤ B.length
    · have hx0 : ((m.getD i []).getD a [])[((b : Nat) : Int).toNat]? = some (val3 m i a b) := by
        have : b < ((m.getD i []).getD a []).length := by omega
        have h2 : ∀ l : List Int, b < l.length → l[b]? = some (l.getD b 0) := fun l h => by simp [List.getD, h]
        rw [Int.toNat_natCast]
        exact h2 _ this
      have r0 := hR i a b hi ha c
      have ge := hG.glen
      have hG2 : SI H A B m (G.set (i * 49 + a * 7 + b) (val3 m i a b)) (i * 49 + a * 7 + (b + 1)) := by
        refine ⟨by rw [List.length_set]; exact ge, fun x hx => ?_, fun i' a' b' h1 h2 h3 h4 => ?_⟩
        · rcases List.mem_or_eq_of_mem_set hx with hx | rfl
          · exact hG.gin x hx
          · exact r0
        · rw [gv_set ge (by omega) (by omega)]
          by_cases d : i' = i ∧ a' = a ∧ b' = b
          · rw [if_pos d]; obtain ⟨rfl, rfl, rfl⟩ := d; rfl
          · rw [if_neg d]; exact hG.agr i' a' b' h1 h2 h3 (by omega)
      have ebn : bndF H A B (gv (G.set (i * 49 + a * 7 + b) (val3 m i a b))) i a b = bndF H A B (val3 m) i a b := bndF_congr (fun i' a' b' h1 h2 h3 h4 => hG2.agr i' a' b' (by omega) (by omega) (by omega) (by omega))
      rw [br_dec (by omega), idx_eq (by omega) hx0, rng_eq (by omega), rng_eq (by omega), rng_eq (by omega)]
      simp only [Int.toNat_natCast]
      rw [get_gv (i := i) (a := a) (b := b) ge rfl (by omega), bound_v hG2.glen hG2.gin hH hA hB hi ha c, ebn]
      simp only [Option.bind_some]
      by_cases d : bndF H A B (val3 m) i a b < val3 m i a b
      · rw [br_dec d]
        exact .inr ⟨rfl, b, c, by omega⟩
      · rw [br_ndec d, chk_eq (by omega)]
        have next := shows_l3_p (u := u) (u2 := u2) (u3 := u3) (u4 := u4) (u5 := u5) (u6 := u6) hi ha n (b + 1) _ (by omega) (by omega) hG2
        rw [show ((b + 1 : Nat) : Int) = (b : Int) + 1 by omega] at next
        rcases next with ⟨G', e, g1, g2⟩ | ⟨e, g⟩
        · exact .inl ⟨G', e, g1, fun x h1 h2 => by
            rcases Nat.lt_or_ge b x with h3 | h3
            · exact g2 x h3 h2
            · obtain rfl : x = b := by omega
              omega⟩
        · exact .inr ⟨e, g⟩
    · rw [br_ndec (by omega)]
      exact .inl ⟨G, rfl, by rw [show B.length + 1 = b by omega]; exact hG, fun x h1 h2 => by omega⟩
theorem shows_l2_p (hN : 20 ≤ N) {i : Nat} {u : List (List (List Int))} {u2 u3 : Int} (hi : i ≤ H.length) : ∀ (n a : Nat) (G : List Int), A.length + 1 < n + a → a ≤ A.length + 1 → SI H A B m G (i * 49 + a * 7) →
    (∃ G', shows_l2 N n i u u2 u3 (m.getD i []) ((m.getD i []).length : Int) a (T, H, f, A, B) G = some (.inr (u, u2, u3, (T, H, f, A, B), G')) ∧ SI H A B m G' (i * 49 + (A.length + 1) * 7) ∧ ∀ x c, a ≤ x → x ≤ A.length → c ≤ B.length → val3 m i x c ≤ bndF H A B (val3 m) i x c) ∨
    (shows_l2 N n i u u2 u3 (m.getD i []) ((m.getD i []).length : Int) a (T, H, f, A, B) G = some (.inl ()) ∧ ∃ x c, x ≤ A.length ∧ c ≤ B.length ∧ ¬ val3 m i x c ≤ bndF H A B (val3 m) i x c)
  | 0, a, G, h, _, _ => by omega
  | n + 1, a, G, h, hb, hG => by
    rw [shows_l2]
    have hl : (m.getD i []).length = A.length + 1 := (hS.2 i (by omega)).1
    by_cases c : a ≤ A.length
    · rw [br_dec (by omega), idx_get [] (by omega) (by omega), Int.toNat_natCast]
      rcases shows_l3_p (N := N) (T := T) (f := f) hS hR hH hA hB (u := u) (u2 := u2) (u3 := u3) (u4 := m.getD i []) (u5 := ((m.getD i []).length : Int)) (u6 := (a : Int)) hi c N 0 G (by omega) (by omega) hG with ⟨G', e, g1, g2⟩ | ⟨e, x, g1, g2⟩
      · rw [show ((0 : Nat) : Int) = 0 from rfl] at e
        rw [e]
        simp only [Option.bind_some]
        rw [chk_eq (by omega)]
        have next := shows_l2_p hN (u := u) (u2 := u2) (u3 := u3) hi n (a + 1) G' (by omega) (by omega) (g1.mono (fun i' a' b' _ _ _ _ => by omega))
        rw [show ((a + 1 : Nat) : Int) = (a : Int) + 1 by omega] at next
        rcases next with ⟨G2, e2, k1, k2⟩ | ⟨e2, k⟩
        · exact .inl ⟨G2, e2, k1, fun x y h1 h2 h3 => by
            rcases Nat.lt_or_ge a x with h4 | h4
            · exact k2 x y h4 h2 h3
            · obtain rfl : x = a := by omega
              exact g2 y (Nat.zero_le _) h3⟩
        · exact .inr ⟨e2, k⟩
      · rw [show ((0 : Nat) : Int) = 0 from rfl] at e
        rw [e]
        exact .inr ⟨rfl, a, x, c, g1, g2⟩
    · rw [br_ndec (by omega)]
      exact .inl ⟨G, rfl, by rw [show A.length + 1 = a by omega]; exact hG, fun x y h1 h2 => by omega⟩
theorem shows_l1_p (hN : 20 ≤ N) : ∀ (n i : Nat) (G : List Int), H.length + 1 < n + i → i ≤ H.length + 1 → SI H A B m G (i * 49) →
    (∃ G', shows_l1 N n m (m.length : Int) i (T, H, f, A, B) G = some (.inr ((T, H, f, A, B), G')) ∧ SI H A B m G' ((H.length + 1) * 49) ∧ ∀ z x c, i ≤ z → z ≤ H.length → x ≤ A.length → c ≤ B.length → val3 m z x c ≤ bndF H A B (val3 m) z x c) ∨
    (shows_l1 N n m (m.length : Int) i (T, H, f, A, B) G = some (.inl ()) ∧ ∃ z x c, z ≤ H.length ∧ x ≤ A.length ∧ c ≤ B.length ∧ ¬ val3 m z x c ≤ bndF H A B (val3 m) z x c)
  | 0, i, G, h, _, _ => by omega
  | n + 1, i, G, h, hb, hG => by
    rw [shows_l1]
    have hl : m.length = H.length + 1 := hS.1
    by_cases c : i ≤ H.length
    · rw [br_dec (by omega), idx_get [] (by omega) (by omega), Int.toNat_natCast]
      rcases shows_l2_p (N := N) (T := T) (f := f) hS hR hH hA hB hN (u := m) (u2 := (m.length : Int)) (u3 := (i : Int)) c N 0 G (by omega) (by omega) hG with ⟨G', e, g1, g2⟩ | ⟨e, x, y, g1, g2, g3⟩
      · rw [show ((0 : Nat) : Int) = 0 from rfl] at e
        rw [e]
        simp only [Option.bind_some]
        rw [chk_eq (by omega)]
        have next := shows_l1_p hN n (i + 1) G' (by omega) (by omega) (g1.mono (fun i' a' b' _ _ _ _ => by omega))
        rw [show ((i + 1 : Nat) : Int) = (i : Int) + 1 by omega] at next
        rcases next with ⟨G2, e2, k1, k2⟩ | ⟨e2, k⟩
        · exact .inl ⟨G2, e2, k1, fun z x y h1 h2 h3 h5 => by
            rcases Nat.lt_or_ge i z with h4 | h4
            · exact k2 z x y h4 h2 h3 h5
            · obtain rfl : z = i := by omega
              exact g2 x y (Nat.zero_le _) h3 h5⟩
        · exact .inr ⟨e2, k⟩
      · rw [show ((0 : Nat) : Int) = 0 from rfl] at e
        rw [e]
        exact .inr ⟨rfl, i, x, y, c, g1, g2, g3⟩
    · rw [br_ndec (by omega)]
      exact .inl ⟨G, rfl, by rw [show H.length + 1 = i by omega]; exact hG, fun z x y h1 h2 => by omega⟩
end
theorem shows_v (hN : 1010 ≤ N) {p p2 : Int} (hm : m.length ≤ 14) (hml : ∀ l ∈ m, l.length ≤ 14 ∧ ∀ k ∈ l, k.length ≤ 14) : ∃ r, shows_S N T H f p p2 m = some r ∧ ShowV T H f p p2 m r := by
  unfold shows_S
  by_cases c : openE T H f p p2 = 0
  · refine ShowV.good c ?_
    obtain ⟨hF, ha, hb, e⟩ := opened_good (N := N) (by omega) c
    have hH := hF.h
    have lA := (hF.l (T.getD p.toNat []) (getD_mem (by omega))).2
    have lB := (hF.l (T.getD p2.toNat []) (getD_mem (by omega))).2
    rw [e]
    simp only [Option.bind_some, decide_true, Bool.not_true, br_false]
    generalize T.getD p.toNat [] = A at *
    generalize T.getD p2.toNat [] = B at *
    rw [chk_eq (by omega)]
    by_cases c1 : (m.length : Int) = (H.length : Int) + 1
    · rw [br_nd c1, everyh_v (p := rowL A B) (fun l hl => shows1_v (by omega) (by omega) (by have := (hml l hl).1; omega) (by have := (hml l hl).1; omega)) (by omega) (by omega)]
      simp only [Option.bind_some]
      cases c2 : m.all (rowL A B) with
      | false => exact ⟨_, rfl, .inl ⟨fun h => absurd h.2 (by rw [c2]; decide), rfl⟩⟩
      | true =>
        have hS := shp_of c1 c2
        rw [Bool.not_true, br_false, everyl_v (p := fun l => l.all fun k => k.all okM) (fun l hl => by
          unfold every1l_S
          rw [shows2_v (by have := (hml l hl).1; omega) (fun k hk => by have := (hml l hl).2 k hk; omega)]; rfl) (by omega) (by omega)]
        simp only [Option.bind_some]
        have hra := rng_all (H := H) (A := A) (B := B) hS
        cases c3 : (m.all fun l => l.all fun k => k.all okM) with
        | false =>
          rw [c3] at hra
          exact ⟨_, rfl, .inr ⟨⟨c1, c2⟩, .inl ⟨fun h => absurd (hra.2 h) (by decide), rfl⟩⟩⟩
        | true =>
          rw [c3] at hra
          have hR := hra.1 rfl
          have hle : ∀ z x y, z ≤ H.length → x ≤ A.length → y ≤ B.length → (val3 m z x y ≤ bndF H A B (val3 m) z x y ↔ Stp3 H A B (val3 m) z x y (val3 m z x y)) := fun z x y h1 h2 h3 => le_bndF (hR z x y h1 h2 h3).2
          rw [Bool.not_true, br_false]
          rcases shows_l1_p (N := N) (T := T) (f := f) hS hR hH lA lB (by omega) N 0 (List.replicate 539 0) (by omega) (by omega) ⟨List.length_replicate, fun x hx => by rw [(List.mem_replicate.1 hx).2]; decide, fun i a b _ _ _ h => by omega⟩ with ⟨G', e1, g1, g2⟩ | ⟨e1, z, x, y, h1, h2, h3, h4⟩
          · rw [show ((0 : Nat) : Int) = 0 from rfl] at e1
            rw [e1]
            simp only [Option.bind_some, Int.toNat_natCast]
            rw [rng_eq (by omega), rng_eq (by omega), rng_eq (by omega), get_gv (i := H.length) (a := A.length) (b := B.length) g1.glen rfl (by omega), g1.agr _ _ _ (by omega) (by omega) (by omega) (by omega)]
            exact ⟨_, rfl, .inr ⟨⟨c1, c2⟩, .inr ⟨hR, .inr ⟨fun i a b h1 h2 h3 => (hle i a b h1 h2 h3).1 (g2 i a b (Nat.zero_le _) h1 h2 h3), rfl⟩⟩⟩⟩
          · rw [show ((0 : Nat) : Int) = 0 from rfl] at e1
            rw [e1]
            exact ⟨_, rfl, .inr ⟨⟨c1, c2⟩, .inr ⟨hR, .inl ⟨fun h => h4 ((hle z x y h1 h2 h3).2 (h z x y h1 h2 h3)), rfl⟩⟩⟩⟩
    · rw [br_nnd c1]
      exact ⟨_, rfl, .inl ⟨fun h => c1 h.1, rfl⟩⟩
  · rw [opened_bad (by omega) c]
    simp only [Option.bind_some]
    rw [br_nnd c]
    exact ⟨_, rfl, ShowV.bad c⟩
end
end Go.Proofs.Ytfcnhnbnjdccfaa

namespace Go.Proofs.Ytfcnhnbnjdccfaa
set_option linter.all false
open Go

section
variable {N : Nat} {T : List (List Int)} {H A B : List Int} {f : Int}
theorem copyr_v {l : List (List Int)} (hl : l.length ≤ 1000) (hx : ∀ x ∈ l, x.length ≤ 1000) (hN : 1010 ≤ N) : copyr_S N l = some l := by
  unfold copyr_S
  rw [grd_eq (lmI_iff.2 (by omega))]
  have := copyr_l1_p (N := N) (u := l) (by omega) (fun x h => by have := hx x h; omega) N 0 (List.replicate (l.length : Int).toNat []) (by omega) (by omega) (by simp) (by simp)
  rw [show ((0 : Nat) : Int) = 0 from rfl] at this
  rw [this]; rfl
theorem liker_v {l : List (List Int)} (hl : l.length ≤ 1000) (hx : ∀ x ∈ l, x.length ≤ 1000 ∧ x.length < N) (hN : l.length < N) : liker_S N l l = some true := by
  unfold liker_S equalf_S
  have := equalf_l1_p (N := N) (T := l) hl hx N 0 (by omega) (by omega)
  rw [show ((0 : Nat) : Int) = 0 from rfl] at this
  rw [br_nd (by first | trivial | rfl), this]; rfl
theorem emarks_l2_p {m u given : List (List (List Int))} {l r : List (List Int)} {u2 u3 p p2 : Int} (hr : r.length ≤ 1000) : ∀ (n k : Nat), r.length < n + k → k ≤ r.length → emarks_l2 N n m l u u2 u3 r (r.length : Int) k T H f p p2 given = some (.inl ()) ∨ emarks_l2 N n m l u u2 u3 r (r.length : Int) k T H f p p2 given = some (.inr (m, l, u, u2, u3, T, H, f, p, p2, given)) ∧ ∀ x ∈ r.drop k, x.length ≤ 10
  | 0, k, h, _ => by omega
  | n + 1, k, h, hk => by
    rw [emarks_l2]
    by_cases c : k < r.length
    · have hk' : r[((k : Nat) : Int).toNat]? = some (r.getD k []) := by simp [List.getD, c]
      have hd : r.drop k = r.getD k [] :: r.drop (k + 1) := by
        rw [List.drop_eq_getElem_cons c]; simp [List.getD, c]
      rw [br_dec (by omega), idx_eq (by omega) hk', hd]
      generalize r.getD k [] = y
      by_cases d : 10 < (y.length : Int)
      · rw [br_dec d]; exact .inl rfl
      · rw [br_ndec d, chk_eq (by omega)]
        have := emarks_l2_p (m := m) (u := u) (given := given) (l := l) (u2 := u2) (u3 := u3) (p := p) (p2 := p2) hr n (k + 1) (by omega) (by omega)
        rw [show ((k + 1 : Nat) : Int) = (k : Int) + 1 by omega] at this
        rcases this with h1 | ⟨h1, h2⟩
        · exact .inl h1
        · refine .inr ⟨h1, fun x hx => ?_⟩
          rcases List.mem_cons.1 hx with rfl | hx
          · omega
          · exact h2 x hx
    · rw [br_ndec (by omega), List.drop_of_length_le (by omega)]
      exact .inr ⟨rfl, fun x hx => by cases hx⟩
theorem emarks_l1_p (hN : 1010 ≤ N) {m : List (List (List Int))} {p p2 : Int} (hm : m.length ≤ 14) : ∀ (n k : Nat) (G : List (List (List Int))), m.length < n + k → k ≤ m.length → G.length ≤ 100 + k → (∃ r, emarks_l1 N n m m (m.length : Int) k T H f p p2 G = some r ∧ (r = .inl () ∨ r = .inr (.inl ()))) ∨ emarks_l1 N n m m (m.length : Int) k T H f p p2 G = some (.inr (.inr (m, T, H, f, p, p2, G ++ m.drop k))) ∧ ∀ l ∈ m.drop k, l.length ≤ 10 ∧ ∀ x ∈ l, x.length ≤ 10
  | 0, k, G, h, _, _ => by omega
  | n + 1, k, G, h, hk, hG => by
    rw [emarks_l1]
    by_cases c : k < m.length
    · have hk' : m[((k : Nat) : Int).toNat]? = some (m.getD k []) := by simp [List.getD, c]
      have hd : m.drop k = m.getD k [] :: m.drop (k + 1) := by
        rw [List.drop_eq_getElem_cons c]; simp [List.getD, c]
      rw [br_dec (by omega), idx_eq (by omega) hk', hd]
      generalize m.getD k [] = y
      by_cases d : 10 < (y.length : Int)
      · rw [br_dec d]; exact .inl ⟨_, rfl, .inl rfl⟩
      · rw [br_ndec d]
        rcases emarks_l2_p (N := N) (T := T) (H := H) (f := f) (m := m) (u := m) (given := G) (l := y) (r := y) (u2 := (m.length : Int)) (u3 := (k : Int)) (p := p) (p2 := p2) (by omega) N 0 (by omega) (by omega) with e | ⟨e, h2⟩
        · rw [show ((0 : Nat) : Int) = 0 from rfl] at e
          rw [e]; exact .inl ⟨_, rfl, .inr rfl⟩
        · rw [show ((0 : Nat) : Int) = 0 from rfl] at e
          rw [List.drop_zero] at h2
          rw [e]
          simp only [Option.bind_some]
          rw [copyr_v (by omega) (fun x hx => by have := h2 x hx; omega) hN]
          simp only [Option.bind_some]
          rw [lim_eq (by simp; omega), chk_eq (by omega)]
          have := emarks_l1_p hN (p := p) (p2 := p2) hm n (k + 1) (G ++ [y]) (by omega) (by omega) (by simp; omega)
          rw [show ((k + 1 : Nat) : Int) = (k : Int) + 1 by omega, List.append_assoc] at this
          rcases this with h1 | ⟨h1, h3⟩
          · exact .inl h1
          · refine .inr ⟨h1, fun l hl => ?_⟩
            rcases List.mem_cons.1 hl with rfl | hl
            · exact ⟨by omega, h2⟩
            · exact h3 l hl
    · rw [br_ndec (by omega), List.drop_of_length_le (by omega), List.append_nil]
      exact .inr ⟨rfl, fun x hx => by cases hx⟩
theorem emarks_l3_p (hN : 1010 ≤ N) {m : List (List (List Int))} {T2 : List (List Int)} {H2 : List Int} {f2 : Int} (hm : m.length ≤ 14) (hml : ∀ l ∈ m, l.length ≤ 10 ∧ ∀ x ∈ l, x.length ≤ 10) : ∀ (n k : Nat), m.length < n + k → k ≤ m.length → emarks_l3 N n m (m.length : Int) k T H f m T2 H2 f2 = some (.inr (T, H, f, T2, H2, f2))
  | 0, k, h, _ => by omega
  | n + 1, k, h, hk => by
    rw [emarks_l3]
    by_cases c : k < m.length
    · have hk' : m[((k : Nat) : Int).toNat]? = some (m.getD k []) := by simp [List.getD, c]
      obtain ⟨h1, h2⟩ := hml (m.getD k []) (getD_mem c)
      rw [br_dec (by omega), idx_eq (by omega) hk', rng_eq (by omega), get_eq hk', liker_v (by omega) (fun x hx => by have := h2 x hx; omega) (by omega)]
      simp only [Option.bind_some, Bool.not_true, br_false]
      rw [chk_eq (by omega)]
      have := emarks_l3_p hN (T2 := T2) (H2 := H2) (f2 := f2) hm hml n (k + 1) (by omega) (by omega)
      rw [show ((k + 1 : Nat) : Int) = (k : Int) + 1 by omega] at this
      exact this
    · rw [br_ndec (by omega)]
theorem Mks.small {X : List (List (List Int))} (h : Mks H A B X) (hH : H.length ≤ 10) (hA : A.length ≤ 6) (hB : B.length ≤ 6) : X.length ≤ 14 ∧ ∀ l ∈ X, l.length ≤ 14 ∧ ∀ k ∈ l, k.length ≤ 14 := by
  obtain ⟨g1, g2⟩ := h.shp
  refine ⟨by omega, fun l hl => ?_⟩
  obtain ⟨i, hi, rfl⟩ := List.getElem_of_mem hl
  have e1 : X.getD i [] = X[i] := by simp [List.getD, hi]
  obtain ⟨g3, g4⟩ := g2 i (by omega)
  rw [e1] at g3 g4
  refine ⟨by omega, fun k hk => ?_⟩
  obtain ⟨a, ha, rfl⟩ := List.getElem_of_mem hk
  have e2 : X[i].getD a [] = X[i][a] := by simp [List.getD, ha]
  have g5 := g4 a (by omega)
  rw [e2] at g5
  omega
theorem Mks.rows {X : List (List (List Int))} (h : Mks H A B X) : (X.length : Int) = (H.length : Int) + 1 ∧ X.all (rowL A B) = true := by
  obtain ⟨g1, g2⟩ := h.shp
  refine ⟨by omega, List.all_eq_true.2 fun l hl => ?_⟩
  obtain ⟨i, hi, rfl⟩ := List.getElem_of_mem hl
  have e1 : X.getD i [] = X[i] := by simp [List.getD, hi]
  obtain ⟨g3, g4⟩ := g2 i (by omega)
  rw [e1] at g3 g4
  unfold rowL
  simp only [Bool.and_eq_true, decide_eq_true_eq]
  refine ⟨by omega, List.all_eq_true.2 fun k hk => ?_⟩
  obtain ⟨a, ha, rfl⟩ := List.getElem_of_mem hk
  have e2 : X[i].getD a [] = X[i][a] := by simp [List.getD, ha]
  have g5 := g4 a (by omega)
  rw [e2] at g5
  unfold rowK
  simp only [decide_eq_true_eq]
  omega
/-- What marks that are returned show. -/
theorem Mks.show {X : List (List (List Int))} {p p2 : Int} {r : Int × Int} (c : openE T H f p p2 = 0) (h : Mks H (T.getD p.toNat []) (T.getD p2.toNat []) X) (hr : ShowV T H f p p2 X r) (hl : H.length + (T.getD p.toNat []).length + (T.getD p2.toNat []).length ≤ 99) : r = (leastV H (T.getD p.toNat []) (T.getD p2.toNat []), 0) := by
  unfold ShowV at hr
  rw [if_neg (by simpa using c)] at hr
  have hH : Holds3 H (T.getD p.toNat []) (T.getD p2.toNat []) (val3 X) := fun i a b h1 h2 h3 => (le_bndF (h.rng i a b h1 h2 h3).2).1 (by rw [← h.fix i a b h1 h2 h3]; exact Int.le_refl _)
  rcases hr with ⟨g, _⟩ | ⟨_, ⟨g, _⟩ | ⟨_, ⟨g, _⟩ | ⟨_, g⟩⟩⟩
  · exact absurd h.rows g
  · exact absurd h.rng g
  · exact absurd hH g
  · rw [g, fix_least hl h.fix]
theorem emarks_true {m : List (List (List Int))} {p p2 : Int} (h0 : (Ty.pair (.sl (.sl (.int .i64))) (.pair (.sl (.int .i64)) (.int .i64))).inB (T, H, f)) (h1 : (Ty.pair (.int .i64) (.int .i64)).inB (p, p2)) (h2 : (Ty.sl (.sl (.sl (.int .i64)))).inB m) : emarks_S 1100 T H f p p2 m = some true := by
  unfold emarks_S
  rcases great_v (N := 1100) (by omega) T H f with e | ⟨e, hm⟩
  · rw [e]; simp only [Option.bind_some, br_true, awake_v]
  · rw [e]
    simp only [Option.bind_some, br_false]
    by_cases c0 : 14 < (m.length : Int)
    · rw [br_dec c0]; simp only [awake_v, Option.bind_some]
    · rw [br_ndec c0]
      rcases emarks_l1_p (N := 1100) (T := T) (H := H) (f := f) (m := m) (p := p) (p2 := p2) (by omega) (by omega) 1100 0 [] (by omega) (by omega) (by simp) with ⟨r, e1, rfl | rfl⟩ | ⟨e1, hml⟩
      · rw [show ((0 : Nat) : Int) = 0 from rfl] at e1
        rw [e1]; simp only [Option.bind_some, awake_v]
      · rw [show ((0 : Nat) : Int) = 0 from rfl] at e1
        rw [e1]; simp only [Option.bind_some, awake_v]
      · rw [show ((0 : Nat) : Int) = 0 from rfl, List.nil_append, List.drop_zero] at e1
        rw [List.drop_zero] at hml
        rw [e1]
        simp only [Option.bind_some]
        rw [copye_small (by omega) hm]
        simp only [Option.bind_some]
        obtain ⟨r1, e2, g2⟩ := shows_v (N := 1100) (T := T) (H := H) (f := f) (m := m) (p := p) (p2 := p2) (by omega) (by omega) (fun l hl => ⟨by have := (hml l hl).1; omega, fun k hk => by have := (hml l hl).2 k hk; omega⟩)
        obtain ⟨r2, e3, g3⟩ := rshows_v (N := 1100) (T := T) (H := H) (f := f) (m := m) (p := p) (p2 := p2) (by omega) hm (by omega) (fun l hl => by have := (hml l hl).1; omega)
        have er := g2.uniq g3
        subst er
        rw [e2, e3]
        simp only [Option.bind_some, decide_true, Bool.not_true, br_false]
        have e4 := emarks_l3_p (N := 1100) (T := T) (H := H) (f := f) (T2 := T) (H2 := H) (f2 := f) (by omega) (by omega : m.length ≤ 14) hml 1100 0 (by omega) (by omega)
        rw [show ((0 : Nat) : Int) = 0 from rfl] at e4
        have fin : emarks_j1 1100 m T H f m T H f = some true := by
          unfold emarks_j1
          rw [e4]
          simp only [Option.bind_some]
          rw [same_v (by omega) hm, awake_v]; rfl
        by_cases c : openE T H f p p2 = 0
        · obtain ⟨hF, ha, hb, _⟩ := opened_good (N := 1100) (by omega) c
          have hH := hF.h
          have lA := (hF.l (T.getD p.toNat []) (getD_mem (by omega))).2
          have lB := (hF.l (T.getD p2.toNat []) (getD_mem (by omega))).2
          obtain ⟨X, e5, hX⟩ := marks_v (N := 1100) (T := T) (H := H) (f := f) (by omega) c
          obtain ⟨x1, x2⟩ := hX.small hH lA lB
          obtain ⟨r3, e6, g6⟩ := rshows_v (N := 1100) (T := T) (H := H) (f := f) (m := X) (p := p) (p2 := p2) (by omega) hm x1 (fun l hl => (x2 l hl).1)
          have er3 := hX.show c g6 (by omega)
          subst er3
          rw [e5, least_v (by omega) hF ha hb, rtwo_v (by omega) hm]
          simp only [Option.bind_some]
          rw [c]
          simp only [decide_true, Bool.not_true, br_false, br_true]
          rw [e6]
          simp only [Option.bind_some, decide_true, Bool.not_true, br_false]
          exact fin
        · rw [marks_bad (by omega) c, least_bad2 (by omega) c, rtwo_v (by omega) hm]
          simp only [Option.bind_some, decide_true, Bool.not_true, br_false, List.length_nil]
          rw [br_nnd c, br_ndec (by omega), br_ndec c]
          exact fin
end
end Go.Proofs.Ytfcnhnbnjdccfaa

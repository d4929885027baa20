/-
  The statement 'FindAsks' is proved: for every input the call returns true, and each argument reads afterwards as it read before.
  Conditions: none.
-/
import Derived.Test.YthncjilcflilcaaRows
import Derived.Test.YthncjilcflilcaaZi
import Derived.Test.YthncjilcflilcaaZh
namespace Go.Proofs.Ythncjilcflilcaa.findAsksDone
set_option linter.all false
open Go Go.ChangeShapes Go.WideShapes Go.ChangeAt Go.RowKit

theorem own : ownKnob Try.prog.godebug = none := by kernel_rfl
theorem laidOut : laidOutB Try.prog = true := by kernel_rfl

abbrev Y0 : Ty := (.pair (.sl (.int .i64)) (.pair (.int .i64) (.pair (.sl (.sl (.int .i64))) (.pair (.sl (.sl (.int .i64))) (.sl (.int .i64))))))
theorem walk (x0 : (List (Int)) × ((Int) × ((List (List (Int))) × ((List (List (Int))) × (List (Int)))))) (v0 : Value) (w : World) (r0 : RepV (gAll w) (Y0.av x0) v0) (b0 : Y0.inB x0) :
    Calls Try.prog 4 #[v0] w fun e w' => e = .returned (.bool true) ∧ Below w.heap.size w w' := by
  exact SpecOK.toLaw (sp_fasks_ok 1100) (p := (((x0.1, x0.2.1, x0.2.2.1, x0.2.2.2.1, x0.2.2.2.2, ()), ()), ())) (r := ((true, ()), ())) (vs := [v0]) (by
    show ((fasks_S 1100 x0.1 x0.2.1 x0.2.2.1 x0.2.2.2.1 x0.2.2.2.2).bind fun r => some ((r, ()), ())) = _
    rw [fasks_true b0]; rfl) rfl ⟨_, _, rfl, r0, rfl⟩ rfl

set_option maxRecDepth 100000 in
theorem lifted (os : Os) (started : os.Started) (H : Type) (enc : TypeId × Value → H) :
    ReturnsInHanded {} Try.checked os 4 .any (Rows.findAsksSpec.pre6 enc Try.prog Try.f4 Rows.findAsksRow.domain false) (Rows.findAsksSpec.post enc Try.prog Try.f4 false true false false) := by
  refine returnsInHanded_of_change (C := Try.checked) own started (by kernel_rfl) Try.func4
    (ChangeSpec.witness6 (enc := enc) (C := Try.checked) false ⟨#[], #[.agg #[.slice none 0 0, .int .i64 0, .slice none 0 0, .slice none 0 0, .slice none 0 0]], []⟩ 8 (by kernel_rfl) (by kernel_rfl) (by kernel_rfl) (by kernel_rfl)) ?_
  intro W base args ds gs before hval0 hW hcnd _
  have hval : ∀ (j : Nat) t v, Try.f4.params[j]? = some t → args[j]? = some v → Value.okWide Try.prog W .any base t v := hval0
  have hW' := hW
  obtain ⟨p, q, hA0, hV, rfl, hfz, hnd⟩ := hW
  have hA : DataW.TrodAll enc Try.prog W 0 (fun _ => true) true Try.f4.params.toList args.toList ds p := hA0
  rw [Try.params4] at hA hval
  obtain ⟨v0, vs0, d0, ds0, p0, q0, hargs, rfl, rfl, h0, r0⟩ := trodAll_cons hA
  obtain ⟨rfl, rfl, rfl⟩ := trodAll_nil r0
  obtain rfl : args = #[v0] := by cases args; simp_all
  obtain ⟨rfl, rfl⟩ := trodVars_none hV
  have k0 := h0
  have lt0 : ∀ x ∈ p0, x.block < W.heap.size := by obtain ⟨m, hm⟩ := k0; exact DataW.trod_lt m _ _ _ hm
  obtain ⟨x0, g0, b0⟩ := arg_rep 20 (y := Y0) (hval 0 26 v0 rfl rfl) k0 (by kernel_rfl)
  clear hA0 hval0
  refine (walk x0 v0 W g0 b0).mono fun e W' ⟨he, bel⟩ => ?_
  subst he
  exact ⟨_, rfl, _, _, _, [], _, [], hW', trodAll_mk1 (shut_bool Try.underlying4 _), (trodAll_cons_mk (Below.trod laidOut (by kernel_rfl) (of_decide_eq_true (by kernel_rfl)) k0 bel lt0) trodAll_mk0), rfl, bel.frame _, fun h => by cases h⟩

theorem over : Rows.findAsksRow.holds Try.pinned (OpenSpec.ofChange Rows.findAsksSpec) :=
  OpenClaim.holds_of_wide 4 Try.f4 rfl rfl rfl rfl rfl rfl rfl ⟨rfl, rfl, rfl, rfl, rfl⟩ rfl rfl rfl rfl rfl (by kernel_rfl) Try.func4 (by kernel_rfl)
    (of_decide_eq_true (by kernel_rfl)) (by unfold Func.isWrapper; first | (rw [if_pos (by decide +kernel)]; kernel_rfl) | (rw [if_neg (by decide +kernel)]; exact ⟨rfl, rfl⟩))
    (fun os started H enc _ => lifted os started H enc)

end Go.Proofs.Ythncjilcflilcaa.findAsksDone
namespace Go.Proofs.Ythncjilcflilcaa
/-- The statement. -/
theorem findAsks_proved : Rows.FindAsksSaid := findAsksDone.over
end Go.Proofs.Ythncjilcflilcaa


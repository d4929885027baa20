/-
  The statement 'EchoMarks' is proved: for every input the call returns true, and each argument reads afterwards as it read before.
  Conditions: none.
-/
import Derived.Test.YtfcnhnbnjdccfaaRows
import Derived.Test.YtfcnhnbnjdccfaaZj
import Derived.Test.YtfcnhnbnjdccfaaZi
namespace Go.Proofs.Ytfcnhnbnjdccfaa.echoMarksDone
set_option linter.all false
open Go Go.ChangeShapes Go.WideShapes Go.ChangeAt Go.RowKit

theorem own : ownKnob Try.prog.godebug = none := by kernel_rfl
theorem laidOut : laidOutB Try.prog = true := by kernel_rfl

abbrev Y0 : Ty := (.pair (.sl (.sl (.int .i64))) (.pair (.sl (.int .i64)) (.int .i64)))
abbrev Y1 : Ty := (.pair (.int .i64) (.int .i64))
abbrev Y2 : Ty := (.sl (.sl (.sl (.int .i64))))
theorem walk (x0 : (List (List (Int))) × ((List (Int)) × (Int))) (x1 : (Int) × (Int)) (x2 : List (List (List (Int)))) (v0 : Value) (v1 : Value) (v2 : Value) (w : World) (r0 : RepV (gAll w) (Y0.av x0) v0) (r1 : RepV (gAll w) (Y1.av x1) v1) (r2 : RepV (gAll w) (Y2.av x2) v2) (b0 : Y0.inB x0) (b1 : Y1.inB x1) (b2 : Y2.inB x2) :
    Calls Try.prog 12 #[v0, v1, v2] w fun e w' => e = .returned (.bool true) ∧ Below w.heap.size w w' := by
  exact SpecOK.toLaw (sp_emarks_ok 1100) (p := (((x0.1, x0.2.1, x0.2.2, ()), (x1.1, x1.2, ()), x2, ()), ())) (r := ((true, ()), ())) (vs := [v0, v1, v2]) (by
    show ((emarks_S 1100 x0.1 x0.2.1 x0.2.2 x1.1 x1.2 x2).bind fun r => some ((r, ()), ())) = _
    rw [emarks_true b0 b1 b2]; rfl) rfl ⟨_, _, rfl, r0, ⟨_, _, rfl, r1, ⟨_, _, rfl, r2, rfl⟩⟩⟩ rfl

set_option maxRecDepth 100000 in
theorem lifted (os : Os) (started : os.Started) (H : Type) (enc : TypeId × Value → H) :
    ReturnsInHanded {} Try.checked os 12 .any (Rows.echoMarksSpec.pre6 enc Try.prog Try.f12 Rows.echoMarksRow.domain false) (Rows.echoMarksSpec.post enc Try.prog Try.f12 false true false false) := by
  refine returnsInHanded_of_change (C := Try.checked) own started (by kernel_rfl) Try.func12
    (ChangeSpec.witness6 (enc := enc) (C := Try.checked) false ⟨#[], #[.agg #[.slice none 0 0, .slice none 0 0, .int .i64 0], .agg #[.int .i64 0, .int .i64 0], .slice none 0 0], []⟩ 8 (by kernel_rfl) (by kernel_rfl) (by kernel_rfl) (by kernel_rfl)) ?_
  intro W base args ds gs before hval0 hW hcnd _
  have hval : ∀ (j : Nat) t v, Try.f12.params[j]? = some t → args[j]? = some v → Value.okWide Try.prog W .any base t v := hval0
  have hW' := hW
  obtain ⟨p, q, hA0, hV, rfl, hfz, hnd⟩ := hW
  have hA : DataW.TrodAll enc Try.prog W 0 (fun _ => true) true Try.f12.params.toList args.toList ds p := hA0
  rw [Try.params12] at hA hval
  obtain ⟨v0, vs0, d0, ds0, p0, q0, hargs, rfl, rfl, h0, r0⟩ := trodAll_cons hA
  obtain ⟨v1, vs1, d1, ds1, p1, q1, rfl, rfl, rfl, h1, r1⟩ := trodAll_cons r0
  obtain ⟨v2, vs2, d2, ds2, p2, q2, rfl, rfl, rfl, h2, r2⟩ := trodAll_cons r1
  obtain ⟨rfl, rfl, rfl⟩ := trodAll_nil r2
  obtain rfl : args = #[v0, v1, v2] := by cases args; simp_all
  obtain ⟨rfl, rfl⟩ := trodVars_none hV
  have k0 := h0
  have lt0 : ∀ x ∈ p0, x.block < W.heap.size := by obtain ⟨m, hm⟩ := k0; exact DataW.trod_lt m _ _ _ hm
  obtain ⟨x0, g0, b0⟩ := arg_rep 20 (y := Y0) (hval 0 26 v0 rfl rfl) k0 (by kernel_rfl)
  have k1 := h1
  have lt1 : ∀ x ∈ p1, x.block < W.heap.size := by obtain ⟨m, hm⟩ := k1; exact DataW.trod_lt m _ _ _ hm
  obtain ⟨x1, g1, b1⟩ := arg_rep 20 (y := Y1) (hval 1 38 v1 rfl rfl) k1 (by kernel_rfl)
  have k2 := h2
  have lt2 : ∀ x ∈ p2, x.block < W.heap.size := by obtain ⟨m, hm⟩ := k2; exact DataW.trod_lt m _ _ _ hm
  obtain ⟨x2, g2, b2⟩ := arg_rep 20 (y := Y2) (hval 2 100 v2 rfl rfl) k2 (by kernel_rfl)
  clear hA0 hval0
  refine (walk x0 x1 x2 v0 v1 v2 W g0 g1 g2 b0 b1 b2).mono fun e W' ⟨he, bel⟩ => ?_
  subst he
  exact ⟨_, rfl, _, _, _, [], _, [], hW', trodAll_mk1 (shut_bool Try.underlying4 _), (trodAll_cons_mk (Below.trod laidOut (by kernel_rfl) (of_decide_eq_true (by kernel_rfl)) k0 bel lt0) (trodAll_cons_mk (Below.trod laidOut (by kernel_rfl) (of_decide_eq_true (by kernel_rfl)) k1 bel lt1) (trodAll_cons_mk (Below.trod laidOut (by kernel_rfl) (of_decide_eq_true (by kernel_rfl)) k2 bel lt2) trodAll_mk0))), rfl, bel.frame _, fun h => by cases h⟩

theorem over : Rows.echoMarksRow.holds Try.pinned (OpenSpec.ofChange Rows.echoMarksSpec) :=
  OpenClaim.holds_of_wide 12 Try.f12 rfl rfl rfl rfl rfl rfl rfl ⟨rfl, rfl, rfl, rfl, rfl⟩ rfl rfl rfl rfl rfl (by kernel_rfl) Try.func12 (by kernel_rfl)
    (of_decide_eq_true (by kernel_rfl)) (by unfold Func.isWrapper; first | (rw [if_pos (by decide +kernel)]; kernel_rfl) | (rw [if_neg (by decide +kernel)]; exact ⟨rfl, rfl⟩))
    (fun os started H enc _ => lifted os started H enc)

end Go.Proofs.Ytfcnhnbnjdccfaa.echoMarksDone
namespace Go.Proofs.Ytfcnhnbnjdccfaa
/-- The statement. -/
theorem echoMarks_proved : Rows.EchoMarksSaid := echoMarksDone.over
end Go.Proofs.Ytfcnhnbnjdccfaa


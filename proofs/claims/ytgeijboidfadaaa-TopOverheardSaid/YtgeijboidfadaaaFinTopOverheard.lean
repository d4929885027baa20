/-
  The statement 'TopOverheard' is proved: for every input the call returns true, and each argument reads afterwards as it read before.
  Conditions: none.
-/
import Derived.Test.YtgeijboidfadaaaRows
import Derived.Test.YtgeijboidfadaaaZj
import Derived.Test.YtgeijboidfadaaaZi
namespace Go.Proofs.Ytgeijboidfadaaa.topOverheardDone
set_option linter.all false
open Go Go.ChangeShapes Go.WideShapes Go.ChangeAt Go.RowKit

theorem own : ownKnob Try.prog.godebug = none := by kernel_rfl
theorem laidOut : laidOutB Try.prog = true := by kernel_rfl

abbrev Y0 : Ty := (.sl (.int .u8))
abbrev Y1 : Ty := (.sl (.int .u8))
theorem walk (x0 : List (Int)) (x1 : List (Int)) (v0 : Value) (v1 : Value) (w : World) (r0 : RepV (gAll w) (Y0.av x0) v0) (r1 : RepV (gAll w) (Y1.av x1) v1) (b0 : Y0.inB x0) (b1 : Y1.inB x1) :
    Calls Try.prog 4 #[v0, v1] w fun e w' => e = .returned (.bool true) ∧ Below w.heap.size w w' := by
  exact SpecOK.toLaw (sp_toverheard_ok 1100) (p := ((x0, x1, ()), ())) (r := ((true, ()), ())) (vs := [v0, v1]) (by
    show ((toverheard_S 1100 x0 x1).bind fun r => some ((r, ()), ())) = _
    rw [toverheard_true b0 b1]; rfl) rfl ⟨_, _, rfl, r0, ⟨_, _, rfl, r1, rfl⟩⟩ rfl

set_option maxRecDepth 100000 in
theorem lifted (os : Os) (started : os.Started) (H : Type) (enc : TypeId × Value → H) :
    ReturnsInHanded {} Try.checked os 4 .any (Rows.topOverheardSpec.pre6 enc Try.prog Try.f4 Rows.topOverheardRow.domain false) (Rows.topOverheardSpec.post enc Try.prog Try.f4 false true false false) := by
  refine returnsInHanded_of_change (C := Try.checked) own started (by kernel_rfl) Try.func4
    (ChangeSpec.witness6 (enc := enc) (C := Try.checked) false ⟨#[], #[.slice none 0 0, .slice none 0 0], []⟩ 8 (by kernel_rfl) (by kernel_rfl) (by kernel_rfl) (by kernel_rfl)) ?_
  intro W base args ds gs before hval0 hW hcnd _
  have hval : ∀ (j : Nat) t v, Try.f4.params[j]? = some t → args[j]? = some v → Value.okWide Try.prog W .any base t v := hval0
  have hW' := hW
  obtain ⟨p, q, hA0, hV, rfl, hfz, hnd⟩ := hW
  have hA : DataW.TrodAll enc Try.prog W 0 (fun _ => true) true Try.f4.params.toList args.toList ds p := hA0
  rw [Try.params4] at hA hval
  obtain ⟨v0, vs0, d0, ds0, p0, q0, hargs, rfl, rfl, h0, r0⟩ := trodAll_cons hA
  obtain ⟨v1, vs1, d1, ds1, p1, q1, rfl, rfl, rfl, h1, r1⟩ := trodAll_cons r0
  obtain ⟨rfl, rfl, rfl⟩ := trodAll_nil r1
  obtain rfl : args = #[v0, v1] := by cases args; simp_all
  obtain ⟨rfl, rfl⟩ := trodVars_none hV
  have k0 := h0
  have lt0 : ∀ x ∈ p0, x.block < W.heap.size := by obtain ⟨m, hm⟩ := k0; exact DataW.trod_lt m _ _ _ hm
  obtain ⟨x0, g0, b0⟩ := arg_rep 20 (y := Y0) (hval 0 22 v0 rfl rfl) k0 (by kernel_rfl)
  have k1 := h1
  have lt1 : ∀ x ∈ p1, x.block < W.heap.size := by obtain ⟨m, hm⟩ := k1; exact DataW.trod_lt m _ _ _ hm
  obtain ⟨x1, g1, b1⟩ := arg_rep 20 (y := Y1) (hval 1 22 v1 rfl rfl) k1 (by kernel_rfl)
  clear hA0 hval0
  refine (walk x0 x1 v0 v1 W g0 g1 b0 b1).mono fun e W' ⟨he, bel⟩ => ?_
  subst he
  exact ⟨_, rfl, _, _, _, [], _, [], hW', trodAll_mk1 (shut_bool Try.underlying4 _), (trodAll_cons_mk (Below.trod laidOut (by kernel_rfl) (of_decide_eq_true (by kernel_rfl)) k0 bel lt0) (trodAll_cons_mk (Below.trod laidOut (by kernel_rfl) (of_decide_eq_true (by kernel_rfl)) k1 bel lt1) trodAll_mk0)), rfl, bel.frame _, fun h => by cases h⟩

theorem over : Rows.topOverheardRow.holds Try.pinned (OpenSpec.ofChange Rows.topOverheardSpec) :=
  OpenClaim.holds_of_wide 4 Try.f4 rfl rfl rfl rfl rfl rfl rfl ⟨rfl, rfl, rfl, rfl, rfl⟩ rfl rfl rfl rfl rfl (by kernel_rfl) Try.func4 (by kernel_rfl)
    (of_decide_eq_true (by kernel_rfl)) (by unfold Func.isWrapper; first | (rw [if_pos (by decide +kernel)]; kernel_rfl) | (rw [if_neg (by decide +kernel)]; exact ⟨rfl, rfl⟩))
    (fun os started H enc _ => lifted os started H enc)

end Go.Proofs.Ytgeijboidfadaaa.topOverheardDone
namespace Go.Proofs.Ytgeijboidfadaaa
/-- The statement. -/
theorem topOverheard_proved : Rows.TopOverheardSaid := topOverheardDone.over
end Go.Proofs.Ytgeijboidfadaaa


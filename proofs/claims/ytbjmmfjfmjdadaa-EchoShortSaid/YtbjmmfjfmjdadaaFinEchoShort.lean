/-
  The statement 'EchoShort' is proved: for every input the call returns true, and each argument reads afterwards as it read before.
  Conditions: none.
-/
import Derived.Test.YtbjmmfjfmjdadaaRows
import Derived.Test.YtbjmmfjfmjdadaaZi
import Derived.Test.YtbjmmfjfmjdadaaZh
namespace Go.Proofs.Ytbjmmfjfmjdadaa.echoShortDone
set_option linter.all false
open Go Go.ChangeShapes Go.WideShapes Go.ChangeAt Go.RowKit

theorem own : ownKnob Try.prog.godebug = none := by kernel_rfl
theorem laidOut : laidOutB Try.prog = true := by kernel_rfl

abbrev Y0 : Ty := (.sl (.int .u8))
abbrev Y1 : Ty := (.sl (.int .u8))
abbrev Y2 : Ty := (.int .u8)
abbrev Y3 : Ty := (.int .u8)
theorem walk (x0 : List (Int)) (x1 : List (Int)) (x2 : Int) (x3 : Int) (v0 : Value) (v1 : Value) (v2 : Value) (v3 : Value) (w : World) (r0 : RepV (gAll w) (Y0.av x0) v0) (r1 : RepV (gAll w) (Y1.av x1) v1) (r2 : RepV (gAll w) (Y2.av x2) v2) (r3 : RepV (gAll w) (Y3.av x3) v3) (b0 : Y0.inB x0) (b1 : Y1.inB x1) (b2 : Y2.inB x2) (b3 : Y3.inB x3) :
    Calls Try.prog 3 #[v0, v1, v2, v3] w fun e w' => e = .returned (.bool true) ∧ Below w.heap.size w w' := by
  exact SpecOK.toLaw (sp_eshort_ok 1100) (p := ((x0, x1, x2, x3, ()), ())) (r := ((true, ()), ())) (vs := [v0, v1, v2, v3]) (by
    show ((eshort_S 1100 x0 x1 x2 x3).bind fun r => some ((r, ()), ())) = _
    rw [eshort_true b0 b1 b2 b3]; rfl) rfl ⟨_, _, rfl, r0, ⟨_, _, rfl, r1, ⟨_, _, rfl, r2, ⟨_, _, rfl, r3, rfl⟩⟩⟩⟩ rfl

set_option maxRecDepth 100000 in
theorem lifted (os : Os) (started : os.Started) (H : Type) (enc : TypeId × Value → H) :
    ReturnsInHanded {} Try.checked os 3 .any (Rows.echoShortSpec.pre6 enc Try.prog Try.f3 Rows.echoShortRow.domain false) (Rows.echoShortSpec.post enc Try.prog Try.f3 false true false false) := by
  refine returnsInHanded_of_change (C := Try.checked) own started (by kernel_rfl) Try.func3
    (ChangeSpec.witness6 (enc := enc) (C := Try.checked) false ⟨#[], #[.slice none 0 0, .slice none 0 0, .int .u8 0, .int .u8 0], []⟩ 8 (by kernel_rfl) (by kernel_rfl) (by kernel_rfl) (by kernel_rfl)) ?_
  intro W base args ds gs before hval0 hW hcnd _
  have hval : ∀ (j : Nat) t v, Try.f3.params[j]? = some t → args[j]? = some v → Value.okWide Try.prog W .any base t v := hval0
  have hW' := hW
  obtain ⟨p, q, hA0, hV, rfl, hfz, hnd⟩ := hW
  have hA : DataW.TrodAll enc Try.prog W 0 (fun _ => true) true Try.f3.params.toList args.toList ds p := hA0
  rw [Try.params3] at hA hval
  obtain ⟨v0, vs0, d0, ds0, p0, q0, hargs, rfl, rfl, h0, r0⟩ := trodAll_cons hA
  obtain ⟨v1, vs1, d1, ds1, p1, q1, rfl, rfl, rfl, h1, r1⟩ := trodAll_cons r0
  obtain ⟨v2, vs2, d2, ds2, p2, q2, rfl, rfl, rfl, h2, r2⟩ := trodAll_cons r1
  obtain ⟨v3, vs3, d3, ds3, p3, q3, rfl, rfl, rfl, h3, r3⟩ := trodAll_cons r2
  obtain ⟨rfl, rfl, rfl⟩ := trodAll_nil r3
  obtain rfl : args = #[v0, v1, v2, v3] := by cases args; simp_all
  obtain ⟨rfl, rfl⟩ := trodVars_none hV
  have k0 := h0
  have lt0 : ∀ x ∈ p0, x.block < W.heap.size := by obtain ⟨m, hm⟩ := k0; exact DataW.trod_lt m _ _ _ hm
  obtain ⟨x0, g0, b0⟩ := arg_rep 20 (y := Y0) (hval 0 22 v0 rfl rfl) k0 (by kernel_rfl)
  have k1 := h1
  have lt1 : ∀ x ∈ p1, x.block < W.heap.size := by obtain ⟨m, hm⟩ := k1; exact DataW.trod_lt m _ _ _ hm
  obtain ⟨x1, g1, b1⟩ := arg_rep 20 (y := Y1) (hval 1 22 v1 rfl rfl) k1 (by kernel_rfl)
  have k2 := h2
  have lt2 : ∀ x ∈ p2, x.block < W.heap.size := by obtain ⟨m, hm⟩ := k2; exact DataW.trod_lt m _ _ _ hm
  obtain ⟨x2, g2, b2⟩ := arg_rep 20 (y := Y2) (hval 2 5 v2 rfl rfl) k2 (by kernel_rfl)
  have k3 := h3
  have lt3 : ∀ x ∈ p3, x.block < W.heap.size := by obtain ⟨m, hm⟩ := k3; exact DataW.trod_lt m _ _ _ hm
  obtain ⟨x3, g3, b3⟩ := arg_rep 20 (y := Y3) (hval 3 5 v3 rfl rfl) k3 (by kernel_rfl)
  clear hA0 hval0
  refine (walk x0 x1 x2 x3 v0 v1 v2 v3 W g0 g1 g2 g3 b0 b1 b2 b3).mono fun e W' ⟨he, bel⟩ => ?_
  subst he
  exact ⟨_, rfl, _, _, _, [], _, [], hW', trodAll_mk1 (shut_bool Try.underlying4 _), (trodAll_cons_mk (Below.trod laidOut (by kernel_rfl) (of_decide_eq_true (by kernel_rfl)) k0 bel lt0) (trodAll_cons_mk (Below.trod laidOut (by kernel_rfl) (of_decide_eq_true (by kernel_rfl)) k1 bel lt1) (trodAll_cons_mk (Below.trod laidOut (by kernel_rfl) (of_decide_eq_true (by kernel_rfl)) k2 bel lt2) (trodAll_cons_mk (Below.trod laidOut (by kernel_rfl) (of_decide_eq_true (by kernel_rfl)) k3 bel lt3) trodAll_mk0)))), rfl, bel.frame _, fun h => by cases h⟩

theorem over : Rows.echoShortRow.holds Try.pinned (OpenSpec.ofChange Rows.echoShortSpec) :=
  OpenClaim.holds_of_wide 3 Try.f3 rfl rfl rfl rfl rfl rfl rfl ⟨rfl, rfl, rfl, rfl, rfl⟩ rfl rfl rfl rfl rfl (by kernel_rfl) Try.func3 (by kernel_rfl)
    (of_decide_eq_true (by kernel_rfl)) (by unfold Func.isWrapper; first | (rw [if_pos (by decide +kernel)]; kernel_rfl) | (rw [if_neg (by decide +kernel)]; exact ⟨rfl, rfl⟩))
    (fun os started H enc _ => lifted os started H enc)

end Go.Proofs.Ytbjmmfjfmjdadaa.echoShortDone
namespace Go.Proofs.Ytbjmmfjfmjdadaa
/-- The statement. -/
theorem echoShort_proved : Rows.EchoShortSaid := echoShortDone.over
end Go.Proofs.Ytbjmmfjfmjdadaa


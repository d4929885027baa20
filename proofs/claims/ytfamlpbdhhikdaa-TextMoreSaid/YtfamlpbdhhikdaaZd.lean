/-
  Parts of a proof, put together: SvP, InB.
  Conditions: none.
-/
import Derived.Test.YtfamlpbdhhikdaaChecked
import Derived.Test.YtfamlpbdhhikdaaZa
import Derived.Test.YtfamlpbdhhikdaaZc
namespace Go.Proofs.Ytfamlpbdhhikdaa
set_option linter.all false
open Go
theorem mixed : Try.prog.follows .mixedOrders = true := by kernel_rfl
theorem bind_congr_ {α Y : Type} (o : Option α) (f g : α → Option Y) (h : ∀ e, f e = g e) : o.bind f = o.bind g := by rw [funext h]
theorem SpecOK.none {P : Program} {s : Spec} (h : ∀ (Z : Type) (p : s.ins.den) (κ : altD s.outs → Option Z), s.run p κ = Option.none) (hc : ∀ args w, (callFunc s.f args).run P w = .ok (.enter s.f args) w) : SpecOK P s :=
  ⟨fun Z p κ => by rw [h, h]; rfl, hc, fun p r hr => by rw [h] at hr; cases hr⟩
end Go.Proofs.Ytfamlpbdhhikdaa

namespace Go.Proofs.Ytfamlpbdhhikdaa
set_option linter.all false
open Go

/-- Numbers within their kind, lists no longer than may be. -/
def Ty.inB : (t : Ty) → t.den → Prop
  | .int k, n => inR k n
  | .bool, _ => True
  | .pair a b, x => a.inB x.1 ∧ b.inB x.2
  | .sl a, l => l.length ≤ 9223372036854775807 ∧ ∀ x ∈ (l : List a.den), a.inB x
  | .ptr a, x => a.inB x
theorem Ty.inB_of {M : Nat → Option Obj} : ∀ (t : Ty) (x : t.den) (vs : List Value), RepC M t x vs → t.inB x
  | .int k, n, vs, h => h.2
  | .bool, _, _, _ => trivial
  | .pair a b, x, vs, h => by
    obtain ⟨v1, v2, _, h1, h2⟩ := h
    exact ⟨Ty.inB_of a _ _ h1, Ty.inB_of b _ _ h2⟩
  | .sl a, l, vs, h => by
    obtain ⟨v, _, h1, ad, cap, _, _, h2⟩ := h
    refine ⟨h1, fun x hx => ?_⟩
    rcases h2 with rfl | ⟨b, o, us, ty, _, _, h3⟩
    · cases hx
    · obtain ⟨i, hi⟩ := List.getElem?_of_mem hx
      obtain ⟨us, _, h4⟩ := h3 i x hi
      exact Ty.inB_of a _ _ h4
  | .ptr a, x, vs, h => by
    obtain ⟨b, o, ws, ty, us, _, _, _, h4⟩ := h
    exact Ty.inB_of a _ _ h4
theorem Ty.inB_i64 {n : Int} (h : (Ty.int .i64).inB n) : -9223372036854775808 ≤ n ∧ n ≤ 9223372036854775807 := by
  have h1 : IntKind.i64.min = -9223372036854775808 := by decide
  have h2 : IntKind.i64.max = 9223372036854775807 := by decide
  unfold Ty.inB inR at h
  rw [h1, h2] at h
  exact h
end Go.Proofs.Ytfamlpbdhhikdaa

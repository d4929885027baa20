/-
  Parts of a proof, put together: Brg.
  Conditions: none.
-/
import Derived.Below
import Derived.ChangeOld
import Derived.OpenShut
import Derived.ProofKit
import Derived.ShutString
import Derived.WalkKit
import Derived.Test.YtfcnhnbnjdccfaaZd
namespace Go.Proofs.Ytfcnhnbnjdccfaa
open Go Go.RowKit

/-- All that there is stays as it is. -/
def gAll (w : World) : Gh := ⟨fun _ => none, fun b => w.heap[b]?⟩
theorem SpecOK.toLaw {P : Program} {s : Spec} (hok : SpecOK P s) {p : s.ins.den} {r : altD s.outs} (hr : s.run p some = some r) (hb : s.ins.blks = []) {w : World} {vs : List Value} (hv : RepVs (gAll w) (encs id s.ins.avs p.1) vs)
  (ho : resVal (encs id (altOf s.outs r).1.avs (altOf s.outs r).2.1) = .b true) : Calls P s.f vs.toArray w fun e w' => e = .returned (.bool true) ∧ Below w.heap.size w w' := by
 have hh : ∀ i, hOf p.2 i = Option.none := fun i => by
  unfold hOf
  rw [List.getElem?_eq_none]
  rw [encBs_len, hb]; exact Nat.zero_le _
 have hs : Sim (gAll w) (hOf p.2) w := ⟨fun b o h => h, fun i k hk => (by rw [hh i] at hk; cases hk), fun i j ki kj b ci ni cj nj h1 => (by rw [hh i] at h1; cases h1)⟩
 refine (hok.fn p r hr (gAll w) w vs hv hs (fun _ _ => rfl)).calls.mono fun e w' ⟨v, he, g', st, _, hv'⟩ => ?_
 rw [ho] at hv'
 simp only [RepV] at hv'
 subst hv'
 refine ⟨he, st.os, st.tape, st.output, st.size, fun k hk => st.same k hk ?_⟩
 rintro ⟨i, hi, _⟩
 rw [hb] at hi
 simp at hi
/-- What is told of a slice of integers that came in. -/
def IsRow (k : IntKind) (w : World) (a : Option Addr) (len cap : Nat) (zs : List Int) : Prop :=
 (a = none ∧ len = 0 ∧ cap = 0 ∧ zs = []) ∨
 ∃ x, a = some x ∧ len ≤ cap ∧ cap ≤ maxLen ∧ zs.length = cap ∧ (∀ i, i < zs.length → w.cell? (x.add i) = some (.int k (zs.getD i 0))) ∧ ∀ n ∈ zs, (Lit.int k n).wf = true
theorem cell_heap {w : World} {b o : Nat} {sp : Option Nat} {v : Value} (h : w.cell? ⟨b, o, sp⟩ = some v) : sp = none ∧ ∃ cs ty z, w.heap[b]? = some (.cells cs ty z) ∧ cs[o]? = some v := by
 unfold World.cell? at h
 dsimp only at h
 split at h
 ·rename_i c ty z hb
  split at h
  ·cases h
  ·rename_i hn
   exact ⟨by cases sp <;> simp_all, c, ty, z, hb, h⟩
 ·cases h
theorem wf_inR {k : IntKind} {n : Int} (h : (Lit.int k n).wf = true) : inR k n := by
 simpa [Lit.wf, inR] using h
theorem isRow_rep {k : IntKind} {w : World} {a : Option Addr} {len cap : Nat} {zs : List Int} (h : IsRow k w a len cap zs) : (zs.take len).length = len ∧ len ≤ 9223372036854775807 ∧ RepV (gAll w) (.sl (.int k) (zs.take len)) (.slice a len cap) := by
 rcases h with ⟨rfl, rfl, rfl, rfl⟩ | ⟨x, rfl, hl, hm, hz, hc, hw⟩
 ·exact ⟨rfl, by decide, by simp, none, 0, rfl, Nat.le_refl _, .inl rfl⟩
 ·have hlen : (zs.take len).length = len := by simp; omega
  have hm' : len ≤ 9223372036854775807 := by have : maxLen ≤ 9223372036854775807 := by decide
                                             omega
  refine ⟨hlen, hm', by rw [hlen]; exact hm', some x, cap, by rw [hlen], by rw [hlen]; exact hl, ?_⟩
  by_cases h0 : len = 0
  ·subst h0; exact .inl (by simp)
  ·obtain ⟨b, o, sp⟩ := x
   have h1 := hc 0 (by omega)
   have hsp : sp = none := by
    have : (⟨b, o, sp⟩ : Addr).add 0 = ⟨b, o, sp⟩ := by unfold Addr.add; split <;> simp_all
    rw [this] at h1
    exact (cell_heap h1).1
   subst hsp
   rw [addr_add] at h1
   obtain ⟨_, cs, ty, z, hb, _⟩ := cell_heap h1
   refine .inr ⟨b, o, cs.toList, (ty, z), rfl, by show w.heap[b]? = _; rw [hb], fun i y hy => ⟨[.int k y], ?_, rfl, ?_⟩⟩
   ·have hi : i < len := by have := (List.getElem?_eq_some_iff.1 hy).1; rw [hlen] at this; exact this
    have h2 := hc i (by omega)
    rw [addr_add] at h2
    obtain ⟨_, cs', ty', z', hb', hv⟩ := cell_heap h2
    rw [hb] at hb'
    simp only [Option.some.injEq, Obj.cells.injEq] at hb'
    obtain ⟨rfl, _⟩ := hb'
    rw [List.getElem?_take, if_pos hi] at hy
    have e : zs.getD i 0 = y := by simp [List.getD, hy]
    rw [e] at hv
    intro j u hj
    cases j with
    | zero => simp at hj; subst hj; simpa [Ty.cells] using hv
    | succ j => simp at hj
   ·exact wf_inR (hw y (List.mem_of_mem_take (List.mem_of_getElem? hy)))
end Go.Proofs.Ytfcnhnbnjdccfaa

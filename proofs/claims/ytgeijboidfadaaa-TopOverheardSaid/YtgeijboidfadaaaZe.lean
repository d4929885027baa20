/-
  Parts of a proof, put together: SvP, InB, PIt1, PIt2, PIt3, PK, PE1.
  Conditions: none.
-/
import Derived.Test.YtgeijboidfadaaaChecked
import Derived.Test.YtgeijboidfadaaaZa
import Derived.Test.YtgeijboidfadaaaZd
namespace Go.Proofs.Ytgeijboidfadaaa
set_option linter.all false
open Go
theorem mixed : Try.prog.follows .mixedOrders = true := by kernel_rfl
theorem bind_congr_ {α Y : Type} (o : Option α) (f g : α → Option Y) (h : ∀ e, f e = g e) : o.bind f = o.bind g := by rw [funext h]
theorem SpecOK.none {P : Program} {s : Spec} (h : ∀ (Z : Type) (p : s.ins.den) (κ : altD s.outs → Option Z), s.run p κ = Option.none) (hc : ∀ args w, (callFunc s.f args).run P w = .ok (.enter s.f args) w) : SpecOK P s :=
  ⟨fun Z p κ => by rw [h, h]; rfl, hc, fun p r hr => by rw [h] at hr; cases hr⟩
end Go.Proofs.Ytgeijboidfadaaa

namespace Go.Proofs.Ytgeijboidfadaaa
set_option linter.all false
open Go

/-- Numbers within their kind, lists no longer than may be. -/
def Ty.inB : (t : Ty) → t.den → Prop
  | .int k, n => inR k n
  | .bool, _ => True
  | .pair a b, x => a.inB x.1 ∧ b.inB x.2
  | .sl a, l => l.length ≤ 9223372036854775807 ∧ ∀ x ∈ (l : List a.den), a.inB x
  | .ptr a, x => a.inB x
theorem Ty.inB_of {M : Nat → Option Obj} : ∀ (t : Ty) (x : t.den) (vs : List Value), RepC M t x vs → t.inB x
  | .int k, n, vs, h => h.2
  | .bool, _, _, _ => trivial
  | .pair a b, x, vs, h => by
    obtain ⟨v1, v2, _, h1, h2⟩ := h
    exact ⟨Ty.inB_of a _ _ h1, Ty.inB_of b _ _ h2⟩
  | .sl a, l, vs, h => by
    obtain ⟨v, _, h1, ad, cap, _, _, h2⟩ := h
    refine ⟨h1, fun x hx => ?_⟩
    rcases h2 with rfl | ⟨b, o, us, ty, _, _, h3⟩
    · cases hx
    · obtain ⟨i, hi⟩ := List.getElem?_of_mem hx
      obtain ⟨us, _, h4⟩ := h3 i x hi
      exact Ty.inB_of a _ _ h4
  | .ptr a, x, vs, h => by
    obtain ⟨b, o, ws, ty, us, _, _, _, h4⟩ := h
    exact Ty.inB_of a _ _ h4
theorem Ty.inB_i64 {n : Int} (h : (Ty.int .i64).inB n) : -9223372036854775808 ≤ n ∧ n ≤ 9223372036854775807 := by
  have h1 : IntKind.i64.min = -9223372036854775808 := by decide
  have h2 : IntKind.i64.max = 9223372036854775807 := by decide
  unfold Ty.inB inR at h
  rw [h1, h2] at h
  exact h
end Go.Proofs.Ytgeijboidfadaaa

namespace Go.Proofs.Ytgeijboidfadaaa
set_option linter.all false
open Go

/-- Some cells from one on. -/
def Cl (w : World) (b o : Nat) (vs : List Value) : Prop := ∀ (i : Nat) (v : Value), vs[i]? = some v → w.cell? ⟨b, o + i, none⟩ = some v
theorem Cl.cell {w : World} {b o i : Nat} {vs : List Value} {v : Value} (h : Cl w b o vs) (hi : vs[i]? = some v) : w.cell? ⟨b, o + i, none⟩ = some v := h i v hi
theorem Cl.blk {w : World} {b : Nat} {vs : List Value} {ty : TypeId} (h : Blk w b vs ty) : Cl w b 0 vs := fun i v hi => by rw [Nat.zero_add]; exact Blk.cell h hi
/-- The places of a text, from one on, where a word stands. -/
def standsL (text : List Int) (word : Int) (k : Nat) : List Nat := (List.range' k (text.length - k)).filter fun j => text.getD j 0 == word
theorem standsL_yes {text : List Int} {word : Int} {k : Nat} (h : k < text.length) (e : text.getD k 0 = word) : standsL text word k = k :: standsL text word (k + 1) := by
  unfold standsL
  rw [show text.length - k = (text.length - (k + 1)) + 1 by omega, List.range'_succ, List.filter_cons, if_pos (by simpa using e)]
theorem standsL_no {text : List Int} {word : Int} {k : Nat} (h : k < text.length) (e : ¬ text.getD k 0 = word) : standsL text word k = standsL text word (k + 1) := by
  unfold standsL
  rw [show text.length - k = (text.length - (k + 1)) + 1 by omega, List.range'_succ, List.filter_cons, if_neg (by simpa using e)]
theorem standsL_end {text : List Int} {word : Int} {k : Nat} (h : text.length ≤ k) : standsL text word k = [] := by
  unfold standsL
  rw [show text.length - k = 0 by omega]; rfl
theorem mem_standsL {text : List Int} {word : Int} {k j : Nat} : j ∈ standsL text word k ↔ k ≤ j ∧ j < text.length ∧ text.getD j 0 = word := by
  unfold standsL
  rw [List.mem_filter, List.mem_range'_1]
  simp only [beq_iff_eq]
  constructor
  · rintro ⟨⟨h1, h2⟩, h3⟩; exact ⟨h1, by omega, h3⟩
  · rintro ⟨h1, h2, h3⟩; exact ⟨⟨h1, by omega⟩, h3⟩

noncomputable def c133 : Code := (Try.f154.body).getD .skip
noncomputable def K133_0 : List Item := [.code (sub c133 [0]), .code (sub c133 [1])]
noncomputable def K133_1 : List Item := [.code (sub c133 [1, 0, 0, 0, 0]), .code (sub c133 [1, 0, 0, 0, 1]), .code (sub c133 [1, 0, 0, 1]), .inLoop (sub c133 [1, 0, 0]), .inBlock 0]
noncomputable def K133_2 : List Item := [.code (sub c133 [1, 0, 0, 0, 1]), .code (sub c133 [1, 0, 0, 1]), .inLoop (sub c133 [1, 0, 0]), .inBlock 0]
noncomputable def K133_3 : List Item := [.code (sub c133 [1, 0, 0, 1, 0, 0, 0]), .code (sub c133 [1, 0, 0, 1, 0, 0, 1]), .inBlock 1, .code (sub c133 [1, 0, 0, 1, 1]), .inLoop (sub c133 [1, 0, 0]), .inBlock 0]
noncomputable def K133_4 : List Item := []
noncomputable def K133_5 : List Item := [.code (sub c133 [1, 0, 0, 1, 0, 0, 1]), .inBlock 1, .code (sub c133 [1, 0, 0, 1, 1]), .inLoop (sub c133 [1, 0, 0]), .inBlock 0]
noncomputable def K133_6 : List Item := [.code (sub c133 [1, 0, 0, 1, 0, 0, 1, 0]), .inBlock 1, .code (sub c133 [1, 0, 0, 1, 1]), .inLoop (sub c133 [1, 0, 0]), .inBlock 0]
noncomputable def K133_7 : List Item := [.code (sub c133 [1, 0, 0, 1, 1]), .inLoop (sub c133 [1, 0, 0]), .inBlock 0]
set_option maxHeartbeats 400000 in
theorem stands1_fn (l bf bt bw of_ ot ow c : Nat) (a : Option Addr) (text : List Int) (fr : Nat) (word : Int) (S : List Nat) (J : List Nat → World → Prop) (Q : World → Prop) (w : World) (hbf : ∀ w', Upd (l :: S) w w' → Cl w' bf of_ [.int .i64 ↑fr]) (hbt : ∀ w', Upd (l :: S) w w' → Cl w' bt ot [.slice a text.length c]) (hbw : ∀ w', Upd (l :: S) w w' → Cl w' bw ow [.int .i64 word]) (hT : ∀ w', Upd (l :: S) w w' → Ints .i64 0 w' (.slice a text.length c) text) (hfr : fr ≤ text.length ∧ text.length ≤ 1000000) (hJ : J (standsL text word fr) w) (hx : ∀ r w1 w2, J r w1 → Ext w1 w2 → J r w2) (hy : ∀ k r w1, k ∈ standsL text word fr → J (k :: r) w1 → Upd (l :: S) w w1 → Yield Try.prog l #[.int .i64 ↑k] w1 (fun v w2 => Upd (l :: S) w1 w2 ∧ ((v = .bool true ∧ J r w2) ∨ (v = .bool false ∧ Q w2)))) : Fn Try.prog 154 #[(.func (.yield l) #[] #[]), (.pointer (some ⟨bf, of_, none⟩)), (.pointer (some ⟨bt, ot, none⟩)), (.pointer (some ⟨bw, ow, none⟩))] w (fun _ w' => Upd (l :: S) w w' ∧ (J [] w' ∨ Q w')) := by
  refine Fn.ofSt (c := c133) 25 K133_0 [(0, (.func (.yield l) #[] #[])), (1, (.pointer (some ⟨bf, of_, none⟩))), (2, (.pointer (some ⟨bt, ot, none⟩))), (3, (.pointer (some ⟨bw, ow, none⟩)))] Try.func154 (by kernel_rfl) ⟨⟨rfl, by kernel_rfl⟩, by kernel_rfl⟩ (by kernel_rfl) ?_
  intro cs
  refine St.reg K133_1 [(0, true), (1, true)] (by kernel_rfl) (by kernel_rfl) ?_
  refine RX.q 2 [(0, true, (.int .i64 (↑fr : Int)))] [(0, (.func (.yield l) #[] #[])), (2, (.pointer (some ⟨bt, ot, none⟩))), (3, (.pointer (some ⟨bw, ow, none⟩))), (5, (.int .i64 (↑fr : Int)))] [.cell ⟨bf, of_ + 0, none⟩ (.int .i64 (↑fr : Int))] (by kernel_rfl) (Cl.cell (hbf w (Upd.refl _ w)) rfl) ?_
  refine RX.done [(0, (.func (.yield l) #[] #[])), (2, (.pointer (some ⟨bt, ot, none⟩))), (3, (.pointer (some ⟨bw, ow, none⟩))), (5, (.int .i64 (↑fr : Int)))] (by kernel_rfl) (by kernel_rfl) ?_
  have loop1 : ∀ (N : Nat) (k : Nat) (w2 : World), (fr ≤ k ∧ k ≤ text.length) → (J (standsL text word k) w2) → (Upd (l :: S) w w2) → N = text.length - k → St Try.prog (fctx Try.prog 154 (fun _ w' => Upd (l :: S) w w' ∧ (J [] w' ∨ Q w')) cs) 25 K133_1 [(5, (.int .i64 (↑k : Int))), (0, (.func (.yield l) #[] #[])), (2, (.pointer (some ⟨bt, ot, none⟩))), (3, (.pointer (some ⟨bw, ow, none⟩)))] [] w2 := by
    intro N3
    induction N3 using Nat.strongRecOn with
    | ind N3 ih4 => ?_
    intro k w2 hk hJk hE hN5
    refine St.reg K133_2 [(0, true), (1, true), (2, true), (3, true)] (by kernel_rfl) (by kernel_rfl) ?_
    have hb6 : Cl w2 bt ot [(.slice a text.length c)] := hbt w2 hE
    refine RX.q 4 [(1, true, (.slice a text.length c))] [(0, (.func (.yield l) #[] #[])), (2, (.pointer (some ⟨bt, ot, none⟩))), (3, (.pointer (some ⟨bw, ow, none⟩))), (5, (.int .i64 (↑k : Int))), (10, (.bool (decide ((↑k : Int) < (↑text.length : Int)))))] [.cell ⟨bt, ot + 0, none⟩ (.slice a text.length c)] (by kernel_rfl) (Cl.cell hb6 rfl) ?_
    refine RX.done [(0, (.func (.yield l) #[] #[])), (2, (.pointer (some ⟨bt, ot, none⟩))), (3, (.pointer (some ⟨bw, ow, none⟩))), (5, (.int .i64 (↑k : Int))), (10, (.bool (decide ((↑k : Int) < (↑text.length : Int)))))] (by kernel_rfl) (by kernel_rfl) ?_
    refine St.cond (k1 := K133_3) (k2 := K133_4) (decide ((↑k : Int) < (↑text.length : Int))) (by kernel_rfl) (fun hc7 => ?_) (fun hc7 => ?_)
    · have hh8 : (↑k : Int) < (↑text.length : Int) := by simpa using hc7
      clear hc7
      refine St.weak (L' := [(0, (.func (.yield l) #[] #[])), (2, (.pointer (some ⟨bt, ot, none⟩))), (3, (.pointer (some ⟨bw, ow, none⟩))), (5, (.int .i64 (↑k : Int)))]) (by kernel_rfl) ?_
      refine St.drw K133_5 [] [(0, true), (1, true), (2, true), (3, true), (4, true), (5, true), (6, true), (7, true), (8, true), (9, false), (10, true), (11, true)] mixed (by kernel_rfl) (by kernel_rfl) ?_
      intro w9 hd10 hds11
      by_cases hg22 : (text.getD k 0) = word
      · have hE23 : Upd (l :: S) w w9 := (Upd.ext hE hd10)
        have hb24 : Cl w9 bt ot [(.slice a text.length c)] := hbt w9 hE23
        have hD25 : Ints .i64 0 w9 (.slice a text.length c) text := hT w9 hE23
        obtain ⟨b26, o27, hl28, hl29, hi30, hc31⟩ := Ints.at (P := Try.prog) (t := 23) (e := 3) hD25 (by kernel_rfl) (by kernel_rfl) k (by omega)
        have hb32 : Cl w9 bw ow [(.int .i64 word)] := hbw w9 hE23
        refine RX.qd 9 [(0, true, (.slice a text.length c)), (2, true, (.pointer (some ⟨b26, o27, none⟩))), (3, true, (.int .i64 (text.getD k 0))), (4, true, (.int .i64 word)), (5, false, (.bool true))] [(0, (.func (.yield l) #[] #[])), (2, (.pointer (some ⟨bt, ot, none⟩))), (3, (.pointer (some ⟨bw, ow, none⟩))), (5, (.int .i64 (↑k : Int))), (19, (.bool true)), (20, (.func (.yield l) #[] #[])), (21, (.int .i64 (↑k : Int)))] [.cell ⟨bt, ot + 0, none⟩ (.slice a text.length c), .raw (Instr.indexAt 23 (.slice a text.length c) (.int .i64 (↑k : Int))) (.pointer (some ⟨b26, o27, none⟩)), .cell ⟨b26, o27, none⟩ (.int .i64 (text.getD k 0)), .cell ⟨bw, ow + 0, none⟩ (.int .i64 word), .eq (.bool ((text.getD k 0) == word)) (.bool true)] (by kernel_rfl) ⟨Cl.cell hb24 rfl, hi30 _, hc31, Cl.cell hb32 rfl, bT (by simpa using hg22)⟩ ⟨List.not_mem_nil, fun w' _ => hi30 w', List.not_mem_nil, List.not_mem_nil, trivial⟩ ?_
        have hD33 : J (standsL text word k) w9 := (hx _ _ _ hJk hd10)
        have hJ37 := hD33; rw [standsL_yes (by omega) hg22] at hJ37
        refine RX.yieldL 22 l #[(.int .i64 (↑k : Int))] [(0, (.func (.yield l) #[] #[])), (2, (.pointer (some ⟨bt, ot, none⟩))), (3, (.pointer (some ⟨bw, ow, none⟩))), (5, (.int .i64 (↑k : Int))), (19, (.bool true)), (20, (.func (.yield l) #[] #[])), (21, (.int .i64 (↑k : Int)))] (by kernel_rfl) (by kernel_rfl) ?_
        refine Yield.mono (hy k _ w9 (mem_standsL.2 ⟨by omega, by omega, hg22⟩) hJ37 hE23) ?_
        rintro _ w34 ⟨hu35, ⟨rfl, hv36⟩ | ⟨rfl, hv36⟩⟩
        · refine RX.qd 2 [] [(0, (.func (.yield l) #[] #[])), (2, (.pointer (some ⟨bt, ot, none⟩))), (3, (.pointer (some ⟨bw, ow, none⟩))), (5, (.int .i64 (↑k : Int))), (24, (.bool false))] [] (by kernel_rfl) trivial trivial ?_
          refine RX.done [(0, (.func (.yield l) #[] #[])), (2, (.pointer (some ⟨bt, ot, none⟩))), (3, (.pointer (some ⟨bw, ow, none⟩))), (5, (.int .i64 (↑k : Int))), (24, (.bool false))] (by kernel_rfl) (by kernel_rfl) ?_
          refine St.cond (k1 := K133_6) (k2 := K133_7) false (by kernel_rfl) (fun hc => ?_) (fun hc => ?_)
          · cases hc
          · clear hc
            refine St.weak (L' := [(0, (.func (.yield l) #[] #[])), (2, (.pointer (some ⟨bt, ot, none⟩))), (3, (.pointer (some ⟨bw, ow, none⟩))), (5, (.int .i64 (↑k : Int)))]) (by kernel_rfl) ?_
            refine St.reg K133_1 [(0, true), (1, true), (2, true)] (by kernel_rfl) (by kernel_rfl) ?_
            refine RX.q 3 [(1, false, (.int .i64 ((↑k : Int) + 1)))] [(0, (.func (.yield l) #[] #[])), (2, (.pointer (some ⟨bt, ot, none⟩))), (3, (.pointer (some ⟨bw, ow, none⟩))), (5, (.int .i64 ((↑k : Int) + 1)))] [.eq (.int .i64 (IntKind.i64.wrap ((↑k : Int) + 1))) (.int .i64 ((↑k : Int) + 1))] (by kernel_rfl) (int64 (by omega)) ?_
            refine RX.done [(0, (.func (.yield l) #[] #[])), (2, (.pointer (some ⟨bt, ot, none⟩))), (3, (.pointer (some ⟨bw, ow, none⟩))), (5, (.int .i64 ((↑k : Int) + 1)))] (by kernel_rfl) (by kernel_rfl) ?_
            have hE38 : Upd (l :: S) w w34 := (Upd.trans hE23 hu35)
            refine St.weak (by kernel_rfl) (ih4 _ ?_ (k + 1) w34 (by omega) hv36 hE38 rfl)
            omega
        · refine RX.qd 2 [] [(0, (.func (.yield l) #[] #[])), (2, (.pointer (some ⟨bt, ot, none⟩))), (3, (.pointer (some ⟨bw, ow, none⟩))), (5, (.int .i64 (↑k : Int))), (24, (.bool true))] [] (by kernel_rfl) trivial trivial ?_
          refine RX.done [(0, (.func (.yield l) #[] #[])), (2, (.pointer (some ⟨bt, ot, none⟩))), (3, (.pointer (some ⟨bw, ow, none⟩))), (5, (.int .i64 (↑k : Int))), (24, (.bool true))] (by kernel_rfl) (by kernel_rfl) ?_
          refine St.cond (k1 := K133_6) (k2 := K133_7) true (by kernel_rfl) (fun hc => ?_) (fun hc => ?_)
          · clear hc
            refine St.weak (L' := []) (by kernel_rfl) ?_
            refine St.ret [] [] (by kernel_rfl) Try.func154 (by kernel_rfl) .nil ?_
            have hE39 : Upd (l :: S) w w34 := (Upd.trans hE23 hu35)
            exact ⟨hE39, .inr hv36⟩
          · cases hc
      · have hg40 : ¬ (text.getD k 0) = word := by simpa using hg22
        have hE41 : Upd (l :: S) w w9 := (Upd.ext hE hd10)
        have hb42 : Cl w9 bt ot [(.slice a text.length c)] := hbt w9 hE41
        have hD43 : Ints .i64 0 w9 (.slice a text.length c) text := hT w9 hE41
        obtain ⟨b44, o45, hl46, hl47, hi48, hc49⟩ := Ints.at (P := Try.prog) (t := 23) (e := 3) hD43 (by kernel_rfl) (by kernel_rfl) k (by omega)
        have hb50 : Cl w9 bw ow [(.int .i64 word)] := hbw w9 hE41
        refine RX.qd 9 [(0, true, (.slice a text.length c)), (2, true, (.pointer (some ⟨b44, o45, none⟩))), (3, true, (.int .i64 (text.getD k 0))), (4, true, (.int .i64 word)), (5, false, (.bool false))] [(0, (.func (.yield l) #[] #[])), (2, (.pointer (some ⟨bt, ot, none⟩))), (3, (.pointer (some ⟨bw, ow, none⟩))), (5, (.int .i64 (↑k : Int))), (19, (.bool false)), (20, undef), (21, undef)] [.cell ⟨bt, ot + 0, none⟩ (.slice a text.length c), .raw (Instr.indexAt 23 (.slice a text.length c) (.int .i64 (↑k : Int))) (.pointer (some ⟨b44, o45, none⟩)), .cell ⟨b44, o45, none⟩ (.int .i64 (text.getD k 0)), .cell ⟨bw, ow + 0, none⟩ (.int .i64 word), .eq (.bool ((text.getD k 0) == word)) (.bool false)] (by kernel_rfl) ⟨Cl.cell hb42 rfl, hi48 _, hc49, Cl.cell hb50 rfl, bF (by simpa using hg40)⟩ ⟨List.not_mem_nil, fun w' _ => hi48 w', List.not_mem_nil, List.not_mem_nil, trivial⟩ ?_
        refine RX.skip [(0, (.func (.yield l) #[] #[])), (2, (.pointer (some ⟨bt, ot, none⟩))), (3, (.pointer (some ⟨bw, ow, none⟩))), (5, (.int .i64 (↑k : Int))), (19, (.bool false)), (20, undef), (21, undef), (22, undef)] (by kernel_rfl) ?_
        refine RX.qd 2 [] [(0, (.func (.yield l) #[] #[])), (2, (.pointer (some ⟨bt, ot, none⟩))), (3, (.pointer (some ⟨bw, ow, none⟩))), (5, (.int .i64 (↑k : Int))), (24, (.bool false))] [] (by kernel_rfl) trivial trivial ?_
        refine RX.done [(0, (.func (.yield l) #[] #[])), (2, (.pointer (some ⟨bt, ot, none⟩))), (3, (.pointer (some ⟨bw, ow, none⟩))), (5, (.int .i64 (↑k : Int))), (24, (.bool false))] (by kernel_rfl) (by kernel_rfl) ?_
        refine St.cond (k1 := K133_6) (k2 := K133_7) false (by kernel_rfl) (fun hc => ?_) (fun hc => ?_)
        · cases hc
        · clear hc
          refine St.weak (L' := [(0, (.func (.yield l) #[] #[])), (2, (.pointer (some ⟨bt, ot, none⟩))), (3, (.pointer (some ⟨bw, ow, none⟩))), (5, (.int .i64 (↑k : Int)))]) (by kernel_rfl) ?_
          refine St.reg K133_1 [(0, true), (1, true), (2, true)] (by kernel_rfl) (by kernel_rfl) ?_
          refine RX.q 3 [(1, false, (.int .i64 ((↑k : Int) + 1)))] [(0, (.func (.yield l) #[] #[])), (2, (.pointer (some ⟨bt, ot, none⟩))), (3, (.pointer (some ⟨bw, ow, none⟩))), (5, (.int .i64 ((↑k : Int) + 1)))] [.eq (.int .i64 (IntKind.i64.wrap ((↑k : Int) + 1))) (.int .i64 ((↑k : Int) + 1))] (by kernel_rfl) (int64 (by omega)) ?_
          refine RX.done [(0, (.func (.yield l) #[] #[])), (2, (.pointer (some ⟨bt, ot, none⟩))), (3, (.pointer (some ⟨bw, ow, none⟩))), (5, (.int .i64 ((↑k : Int) + 1)))] (by kernel_rfl) (by kernel_rfl) ?_
          have hD51 : J (standsL text word k) w9 := (hx _ _ _ hJk hd10)
          refine St.weak (by kernel_rfl) (ih4 _ ?_ (k + 1) w9 (by omega) (by rw [← standsL_no (by omega) hg40]; exact hD51) hE41 rfl)
          omega
    · have hh52 : (↑text.length : Int) ≤ (↑k : Int) := by simpa using hc7
      clear hc7
      refine St.weak (L' := []) (by kernel_rfl) ?_
      refine St.ret [] [] (by kernel_rfl) Try.func154 (by kernel_rfl) .nil ?_
      refine ⟨hE, .inl ?_⟩
      rw [← standsL_end (text := text) (word := word) (k := k) (by omega)]; exact hJk
  exact St.weak (by kernel_rfl) (loop1 _ fr w (by omega) hJ (Upd.refl (l :: S) w) rfl)

theorem stands1_blk (l bf bt bw c : Nat) (a : Option Addr) (text : List Int) (fr : Nat) (word : Int) (S : List Nat) (J : List Nat → World → Prop) (Q : World → Prop) (w : World) (hbf : Blk w bf [.int .i64 ↑fr] 3) (hbt : Blk w bt [.slice a text.length c] 23) (hbw : Blk w bw [.int .i64 word] 3) (hn : (bf ≠ l ∧ bt ≠ l ∧ bw ≠ l) ∧ bf ∉ S ∧ bt ∉ S ∧ bw ∉ S) (hT : ∀ w', Upd (l :: S) w w' → Ints .i64 0 w' (.slice a text.length c) text) (hfr : fr ≤ text.length ∧ text.length ≤ 1000000) (hJ : J (standsL text word fr) w) (hx : ∀ r w1 w2, J r w1 → Ext w1 w2 → J r w2) (hy : ∀ k r w1, k ∈ standsL text word fr → J (k :: r) w1 → Upd (l :: S) w w1 → Yield Try.prog l #[.int .i64 ↑k] w1 (fun v w2 => Upd (l :: S) w1 w2 ∧ ((v = .bool true ∧ J r w2) ∨ (v = .bool false ∧ Q w2)))) : Fn Try.prog 154 #[(.func (.yield l) #[] #[]), (.pointer (some ⟨bf, 0, none⟩)), (.pointer (some ⟨bt, 0, none⟩)), (.pointer (some ⟨bw, 0, none⟩))] w (fun _ w' => Upd (l :: S) w w' ∧ (J [] w' ∨ Q w')) := by
  refine stands1_fn l bf bt bw 0 0 0 c a text fr word S J Q w (fun w' hu => Cl.blk (hu.blk hbf (by simp [hn]))) (fun w' hu => Cl.blk (hu.blk hbt (by simp [hn]))) (fun w' hu => Cl.blk (hu.blk hbw (by simp [hn]))) hT hfr hJ hx hy

noncomputable def c123 : Code := (Try.f140.body).getD .skip
noncomputable def K123_0 : List Item := [.code (sub c123 [0]), .code (sub c123 [1])]
noncomputable def K123_1 : List Item := [.code (sub c123 [1, 0]), .code (sub c123 [1, 1])]
noncomputable def K123_2 : List Item := [.code (sub c123 [1, 1])]
set_option maxHeartbeats 400000 in
theorem stands_fn (a : Option Addr) (n c : Nat) (fr word : Int) (w : World) : Fn Try.prog 140 #[(.slice a n c), (.int .i64 fr), (.int .i64 word)] w (fun v w' => ∃ b1 b2 b3, v = .func (.func 154) #[] #[.pointer (some ⟨b1, 0, none⟩), .pointer (some ⟨b2, 0, none⟩), .pointer (some ⟨b3, 0, none⟩)] ∧ Blk w' b1 [.int .i64 fr] 3 ∧ Blk w' b2 [.slice a n c] 23 ∧ Blk w' b3 [.int .i64 word] 3 ∧ (w.heap.size ≤ b1 ∧ w.heap.size ≤ b2 ∧ w.heap.size ≤ b3) ∧ Ext w w') := by
  refine Fn.ofSt (c := c123) 8 K123_0 [(0, (.slice a n c)), (1, (.int .i64 fr)), (2, (.int .i64 word))] Try.func140 (by kernel_rfl) ⟨⟨rfl, by kernel_rfl⟩, by kernel_rfl⟩ (by kernel_rfl) ?_
  intro cs
  refine St.reg K123_1 [(0, false), (1, false), (2, false), (3, true)] (by kernel_rfl) (by kernel_rfl) ?_
  refine RX.new 3 (.cells #[(.slice a n c)] 23) (.ptr) [(0, (.slice a n c)), (1, (.int .i64 fr)), (2, (.int .i64 word))] (by kernel_rfl) ?_
  intro b1 w2 hn3
  have := hn3.size; have := hn3.at_
  have hb4 : Blk w2 b1 [(.slice a n c)] 23 := hn3.blk
  refine RX.new 4 (.cells #[(.int .i64 fr)] 3) (.ptr) [(3, (.pointer (some ⟨b1, 0, none⟩))), (0, (.slice a n c)), (1, (.int .i64 fr)), (2, (.int .i64 word))] (by kernel_rfl) ?_
  intro b5 w6 hn7
  have := hn7.size; have := hn7.at_
  have hb8 : Blk w6 b5 [(.int .i64 fr)] 3 := hn7.blk
  refine RX.new 5 (.cells #[(.int .i64 word)] 3) (.ptr) [(4, (.pointer (some ⟨b5, 0, none⟩))), (3, (.pointer (some ⟨b1, 0, none⟩))), (0, (.slice a n c)), (1, (.int .i64 fr)), (2, (.int .i64 word))] (by kernel_rfl) ?_
  intro b9 w10 hn11
  have := hn11.size; have := hn11.at_
  have hb12 : Blk w10 b9 [(.int .i64 word)] 3 := hn11.blk
  refine RX.q 1 [] [(3, (.pointer (some ⟨b1, 0, none⟩))), (4, (.pointer (some ⟨b5, 0, none⟩))), (5, (.pointer (some ⟨b9, 0, none⟩)))] [] (by kernel_rfl) trivial ?_
  refine RX.done [(3, (.pointer (some ⟨b1, 0, none⟩))), (4, (.pointer (some ⟨b5, 0, none⟩))), (5, (.pointer (some ⟨b9, 0, none⟩)))] (by kernel_rfl) (by kernel_rfl) ?_
  refine St.reg K123_2 [(0, true), (1, true)] (by kernel_rfl) (by kernel_rfl) ?_
  refine RX.q 2 [] [(6, (.func (.func 154) #[] #[(.pointer (some ⟨b5, 0, none⟩)), (.pointer (some ⟨b1, 0, none⟩)), (.pointer (some ⟨b9, 0, none⟩))]))] [] (by kernel_rfl) trivial ?_
  refine RX.done [(6, (.func (.func 154) #[] #[(.pointer (some ⟨b5, 0, none⟩)), (.pointer (some ⟨b1, 0, none⟩)), (.pointer (some ⟨b9, 0, none⟩))]))] (by kernel_rfl) (by kernel_rfl) ?_
  refine St.ret [.tmp 6] [(.func (.func 154) #[] #[(.pointer (some ⟨b5, 0, none⟩)), (.pointer (some ⟨b1, 0, none⟩)), (.pointer (some ⟨b9, 0, none⟩))])] (by kernel_rfl) Try.func140 (by kernel_rfl) (.cons (.tmp rfl) .nil) ?_
  have hb13 : Blk w10 b5 [(.int .i64 fr)] 3 := (Ext.blk hn11.ext hb8)
  have hb14 : Blk w10 b1 [(.slice a n c)] 23 := (Ext.blk hn11.ext (Ext.blk hn7.ext hb4))
  have hE15 : Upd [] w w10 := (Upd.ext (Upd.ext (Upd.ext (Upd.refl [] w) hn3.ext) hn7.ext) hn11.ext)
  exact ⟨_, _, _, rfl, hb13, hb14, hb12, ⟨by omega, by omega, by omega⟩, hE15⟩

end Go.Proofs.Ytgeijboidfadaaa

namespace Go.Proofs.Ytgeijboidfadaaa
set_option linter.all false
open Go

abbrev At3 := Nat × Nat × Nat
def key3 (x : At3) : Value := .agg #[.int .i64 x.1, .int .i64 x.2.1, .int .i64 x.2.2]
/-- One thing that can be read of the next word: its side and place, and what is behind then. -/
abbrev Mv := (Int × Int) × At3
def mvP (m : Mv) : Value := .agg #[.int .i64 m.1.1, .int .i64 m.1.2]
def movesL (A B : List Int) (wd : Int) (x : At3) : List Mv :=
  ((3, 0), (x.1 + 1, x.2.1, x.2.2)) :: ((standsL A wd x.2.1).map (fun (j : Nat) => (((1 : Int), (j : Int)), ((x.1 + 1, j + 1, x.2.2) : At3))) ++ (standsL B wd x.2.2).map (fun (j : Nat) => (((2 : Int), (j : Int)), ((x.1 + 1, x.2.1, j + 1) : At3))))
noncomputable def c122 : Code := (Try.f139.body).getD .skip
noncomputable def K122_0 : List Item := [.code (sub c122 [0]), .code (sub c122 [1])]
noncomputable def K122_1 : List Item := [.code (sub c122 [1, 0, 0]), .code (sub c122 [1, 0, 1]), .code (sub c122 [1, 1])]
noncomputable def K122_2 : List Item := [.code (sub c122 [1, 0, 1]), .code (sub c122 [1, 1])]
noncomputable def K122_3 : List Item := [.code (sub c122 [1, 0, 1, 0]), .code (sub c122 [1, 1])]
noncomputable def K122_4 : List Item := [.code (sub c122 [1, 1, 0, 0]), .code (sub c122 [1, 1, 0, 1]), .code (sub c122 [1, 1, 1])]
noncomputable def K122_5 : List Item := [.code (sub c122 [1, 1, 0, 1, 0]), .inBlock 0, .code (sub c122 [1, 1, 1])]
noncomputable def K122_6 : List Item := [.code (sub c122 [1, 1, 1, 0]), .code (sub c122 [1, 1, 1, 1])]
noncomputable def K122_7 : List Item := [.code (sub c122 [1, 1, 0, 1, 0, 0]), .beginRound, .code (sub c122 [1, 1, 0, 1, 0, 1])]
noncomputable def K122_8 : List Item := [.beginRound, .code (sub c122 [1, 1, 0, 1, 0, 1])]
noncomputable def K122_9 : List Item := [.code (sub c122 [1, 1, 0, 1, 0, 1, 0, 0]), .code (sub c122 [1, 1, 0, 1, 0, 1, 0, 1]), .inBlock 1]
noncomputable def K122_10 : List Item := [.code (sub c122 [1, 1, 0, 1, 0, 1, 0, 1]), .inBlock 1]
noncomputable def K122_11 : List Item := [.code (sub c122 [1, 1, 0, 1, 0, 1, 0, 1, 0]), .inBlock 1]
noncomputable def K122_12 : List Item := []
noncomputable def K122_13 : List Item := [.code (sub c122 [1, 1, 1, 1, 0]), .inBlock 2]
noncomputable def K122_14 : List Item := [.code (sub c122 [1, 1, 1, 1, 0, 0]), .beginRound, .code (sub c122 [1, 1, 1, 1, 0, 1])]
noncomputable def K122_15 : List Item := [.beginRound, .code (sub c122 [1, 1, 1, 1, 0, 1])]
noncomputable def K122_16 : List Item := [.code (sub c122 [1, 1, 1, 1, 0, 1, 0, 0]), .code (sub c122 [1, 1, 1, 1, 0, 1, 0, 1]), .inBlock 3]
noncomputable def K122_17 : List Item := [.code (sub c122 [1, 1, 1, 1, 0, 1, 0, 1]), .inBlock 3]
noncomputable def K122_18 : List Item := [.code (sub c122 [1, 1, 1, 1, 0, 1, 0, 1, 0]), .inBlock 3]
set_option maxHeartbeats 1000000 in
theorem next1_fn (l bx bd d ox od oo : Nat) (xh xi xk : Nat) (aH aA aB : Option Addr) (cH cA cB : Nat) (vt : Value) (f : Int) (H A B : List Int) (S : List Nat) (J : List Mv → World → Prop) (Q : World → Prop) (w : World) (hbx : ∀ w', Upd (l :: S) w w' → Cl w' bx ox [.int .i64 ↑xh, .int .i64 ↑xi, .int .i64 ↑xk]) (hbd : ∀ w', Upd (l :: S) w w' → Cl w' bd od [.pointer (some ⟨d, oo, none⟩)]) (hd : ∀ w', Upd (l :: S) w w' → Cl w' d oo [vt, .slice aH H.length cH, .int .i64 f, .slice aA A.length cA, .slice aB B.length cB]) (hS : ∀ k ∈ l :: S, k < w.heap.size) (hCH : ∀ w', Upd (l :: S) w w' → Ints .i64 0 w' (.slice aH H.length cH) H) (hCA : ∀ w', Upd (l :: S) w w' → Ints .i64 0 w' (.slice aA A.length cA) A) (hCB : ∀ w', Upd (l :: S) w w' → Ints .i64 0 w' (.slice aB B.length cB) B) (hlt : (xh < H.length ∧ xi ≤ A.length ∧ xk ≤ B.length) ∧ H.length ≤ 1000 ∧ A.length ≤ 1000 ∧ B.length ≤ 1000) (hJ : J (movesL A B (H.getD xh 0) (xh, xi, xk)) w) (hxJ : ∀ r, Stays w.heap.size (J r)) (hxQ : Stays w.heap.size Q) (hy : ∀ m r w1, m ∈ movesL A B (H.getD xh 0) (xh, xi, xk) → J (m :: r) w1 → Upd (l :: S) w w1 → Yield Try.prog l #[mvP m, key3 m.2] w1 (fun v w2 => Upd (l :: S) w1 w2 ∧ ((v = .bool true ∧ J r w2) ∨ (v = .bool false ∧ Q w2)))) : Fn Try.prog 139 #[(.func (.yield l) #[] #[]), (.pointer (some ⟨bx, ox, none⟩)), (.pointer (some ⟨bd, od, none⟩))] w (fun _ w' => Upd (l :: S) w w' ∧ (J [] w' ∨ Q w')) := by
  refine Fn.ofSt (c := c122) 78 K122_0 [(0, (.func (.yield l) #[] #[])), (1, (.pointer (some ⟨bx, ox, none⟩))), (2, (.pointer (some ⟨bd, od, none⟩)))] Try.func139 (by kernel_rfl) ⟨⟨rfl, by kernel_rfl⟩, by kernel_rfl⟩ (by kernel_rfl) ?_
  intro cs
  have hl0 := hS l (by simp)
  refine St.reg K122_1 [(0, false)] (by kernel_rfl) (by kernel_rfl) ?_
  refine RX.new 3 (.cells #[(.func (.yield l) #[] #[])] 210) (.ptr) [(0, (.func (.yield l) #[] #[])), (1, (.pointer (some ⟨bx, ox, none⟩))), (2, (.pointer (some ⟨bd, od, none⟩)))] (by kernel_rfl) ?_
  intro b1 w2 hn3
  have := hn3.size; have := hn3.at_
  have hb4 : Blk w2 b1 [(.func (.yield l) #[] #[])] 210 := hn3.blk
  refine RX.done [(3, (.pointer (some ⟨b1, 0, none⟩))), (1, (.pointer (some ⟨bx, ox, none⟩))), (2, (.pointer (some ⟨bd, od, none⟩)))] (by kernel_rfl) (by kernel_rfl) ?_
  refine St.reg K122_2 [(0, true), (1, true), (2, true), (3, true), (4, true), (5, true), (6, true), (7, true), (8, true), (9, true), (10, false), (11, true)] (by kernel_rfl) (by kernel_rfl) ?_
  have hE5 : Upd (l :: S) w w2 := (Upd.ext (Upd.refl (l :: S) w) hn3.ext)
  have hb6 : Cl w2 bx ox [(.int .i64 (↑xh : Int)), (.int .i64 (↑xi : Int)), (.int .i64 (↑xk : Int))] := hbx w2 hE5
  refine RX.q 10 [(0, true, (.func (.yield l) #[] #[])), (3, true, (.int .i64 (↑xh : Int))), (4, false, (.int .i64 ((↑xh : Int) + 1))), (6, true, (.int .i64 (↑xi : Int))), (8, true, (.int .i64 (↑xk : Int)))] [(1, (.pointer (some ⟨bx, ox, none⟩))), (2, (.pointer (some ⟨bd, od, none⟩))), (3, (.pointer (some ⟨b1, 0, none⟩))), (6, (.func (.yield l) #[] #[])), (7, (.agg #[(.int .i64 3), (.int .i64 0)])), (15, (.agg #[(.int .i64 ((↑xh : Int) + 1)), (.int .i64 (↑xi : Int)), (.int .i64 (↑xk : Int))]))] [.cell ⟨b1, 0, none⟩ (.func (.yield l) #[] #[]), .cell ⟨bx, ox + 0, none⟩ (.int .i64 (↑xh : Int)), .eq (.int .i64 (IntKind.i64.wrap ((↑xh : Int) + 1))) (.int .i64 ((↑xh : Int) + 1)), .cell ⟨bx, ox + 1, none⟩ (.int .i64 (↑xi : Int)), .cell ⟨bx, ox + 2, none⟩ (.int .i64 (↑xk : Int))] (by kernel_rfl) ⟨Blk.cell hb4 rfl, Cl.cell hb6 rfl, int64 (by omega), Cl.cell hb6 rfl, Cl.cell hb6 rfl⟩ ?_
  have hD7 : J (movesL A B (H.getD xh 0) (xh, xi, xk)) w2 := (Stays.ext (hxJ _) hJ hn3.ext)
  refine RX.yield 16 l #[mvP ((3, 0), (xh + 1, xi, xk)), key3 (((3, 0), (xh + 1, xi, xk))).2] [(1, (.pointer (some ⟨bx, ox, none⟩))), (2, (.pointer (some ⟨bd, od, none⟩))), (3, (.pointer (some ⟨b1, 0, none⟩))), (6, (.func (.yield l) #[] #[])), (7, (.agg #[(.int .i64 3), (.int .i64 0)])), (15, (.agg #[(.int .i64 ((↑xh : Int) + 1)), (.int .i64 (↑xi : Int)), (.int .i64 (↑xk : Int))]))] (by kernel_rfl) ?_
  refine Yield.mono (hy ((3, 0), (xh + 1, xi, xk)) ((standsL A (H.getD xh 0) xi).map (fun (j : Nat) => (((1 : Int), (j : Int)), ((xh + 1, j + 1, xk) : At3))) ++ (standsL B (H.getD xh 0) xk).map (fun (j : Nat) => (((2 : Int), (j : Int)), ((xh + 1, xi, j + 1) : At3)))) w2 (List.mem_cons_self ..) hD7 hE5) ?_
  rintro _ w8 ⟨hu9, ⟨rfl, hv10⟩ | ⟨rfl, hv10⟩⟩
  have := hu9.size
  · refine RX.q 1 [] [(1, (.pointer (some ⟨bx, ox, none⟩))), (2, (.pointer (some ⟨bd, od, none⟩))), (3, (.pointer (some ⟨b1, 0, none⟩))), (17, (.bool false))] [] (by kernel_rfl) trivial ?_
    refine RX.done [(1, (.pointer (some ⟨bx, ox, none⟩))), (2, (.pointer (some ⟨bd, od, none⟩))), (3, (.pointer (some ⟨b1, 0, none⟩))), (17, (.bool false))] (by kernel_rfl) (by kernel_rfl) ?_
    refine St.cond (k1 := K122_3) (k2 := K122_4) false (by kernel_rfl) (fun hc => ?_) (fun hc => ?_)
    · cases hc
    · clear hc
      refine St.weak (L' := [(1, (.pointer (some ⟨bx, ox, none⟩))), (2, (.pointer (some ⟨bd, od, none⟩))), (3, (.pointer (some ⟨b1, 0, none⟩)))]) (by kernel_rfl) ?_
      refine St.drw K122_5 [] [(0, true), (1, true), (2, true), (3, true), (4, true), (5, true), (6, true), (7, true), (8, true), (9, true), (10, true), (11, true), (12, true), (13, true), (14, true), (15, false)] mixed (by kernel_rfl) (by kernel_rfl) ?_
      intro w11 hd12 hds13
      have hE14 : Upd (l :: S) w w11 := (Upd.ext (Upd.trans hE5 hu9) hd12)
      have hb15 : Cl w11 bd od [(.pointer (some ⟨d, oo, none⟩))] := hbd w11 hE14
      have hb16 : Cl w11 d oo [vt, (.slice aH H.length cH), (.int .i64 f), (.slice aA A.length cA), (.slice aB B.length cB)] := hd w11 hE14
      have hb17 : Cl w11 bx ox [(.int .i64 (↑xh : Int)), (.int .i64 (↑xi : Int)), (.int .i64 (↑xk : Int))] := hbx w11 hE14
      have hD18 : Ints .i64 0 w11 (.slice aH H.length cH) H := hCH w11 hE14
      obtain ⟨b19, o20, hl21, hl22, hi23, hc24⟩ := Ints.at (P := Try.prog) (t := 23) (e := 3) hD18 (by kernel_rfl) (by kernel_rfl) xh (by omega)
      refine RX.qd 15 [(0, true, (.pointer (some ⟨d, oo, none⟩))), (3, true, (.slice aA A.length cA)), (5, true, (.int .i64 (↑xi : Int))), (6, true, (.pointer (some ⟨d, oo, none⟩))), (10, true, (.slice aH H.length cH)), (12, true, (.int .i64 (↑xh : Int))), (13, true, (.pointer (some ⟨b19, o20, none⟩))), (14, true, (.int .i64 (H.getD xh 0)))] [(1, (.pointer (some ⟨bx, ox, none⟩))), (2, (.pointer (some ⟨bd, od, none⟩))), (3, (.pointer (some ⟨b1, 0, none⟩))), (21, (.slice aA A.length cA)), (23, (.int .i64 (↑xi : Int))), (32, (.int .i64 (H.getD xh 0)))] [.cell ⟨bd, od + 0, none⟩ (.pointer (some ⟨d, oo, none⟩)), .cell ⟨d, oo + 3, none⟩ (.slice aA A.length cA), .cell ⟨bx, ox + 1, none⟩ (.int .i64 (↑xi : Int)), .cell ⟨bd, od + 0, none⟩ (.pointer (some ⟨d, oo, none⟩)), .cell ⟨d, oo + 1, none⟩ (.slice aH H.length cH), .cell ⟨bx, ox + 0, none⟩ (.int .i64 (↑xh : Int)), .raw (Instr.indexAt 23 (.slice aH H.length cH) (.int .i64 (↑xh : Int))) (.pointer (some ⟨b19, o20, none⟩)), .cell ⟨b19, o20, none⟩ (.int .i64 (H.getD xh 0))] (by kernel_rfl) ⟨Cl.cell hb15 rfl, Cl.cell hb16 rfl, Cl.cell hb17 rfl, Cl.cell hb15 rfl, Cl.cell hb16 rfl, Cl.cell hb17 rfl, hi23 _, hc24⟩ ⟨List.not_mem_nil, List.not_mem_nil, List.not_mem_nil, List.not_mem_nil, List.not_mem_nil, List.not_mem_nil, fun w' _ => hi23 w', List.not_mem_nil⟩ ?_
      refine RX.callD 33 140 #[(.slice aA A.length cA), (.int .i64 (↑xi : Int)), (.int .i64 (H.getD xh 0))] [(1, (.pointer (some ⟨bx, ox, none⟩))), (2, (.pointer (some ⟨bd, od, none⟩))), (3, (.pointer (some ⟨b1, 0, none⟩))), (21, (.slice aA A.length cA)), (23, (.int .i64 (↑xi : Int))), (32, (.int .i64 (H.getD xh 0)))] (fun _ => by kernel_rfl) (by kernel_rfl) ?_
      refine Fn.mono (stands_fn aA A.length cA (↑xi : Int) (H.getD xh 0) w11) ?_
      rintro _ w25 ⟨b27, b28, b29, rfl, hb30, hb31, hb32, hz33, hx26⟩
      refine ⟨hx26.up, ?_⟩
      have := hx26.size
      have := lt_of_blk hb30; have := lt_of_blk hb31; have := lt_of_blk hb32
      refine RX.done [(33, (.func (.func 154) #[] #[(.pointer (some ⟨b27, 0, none⟩)), (.pointer (some ⟨b28, 0, none⟩)), (.pointer (some ⟨b29, 0, none⟩))])), (1, (.pointer (some ⟨bx, ox, none⟩))), (2, (.pointer (some ⟨bd, od, none⟩))), (3, (.pointer (some ⟨b1, 0, none⟩)))] (by kernel_rfl) (by kernel_rfl) ?_
      refine St.rangeFunc (g := .tmp 33) (ps := #[34]) (assign := (sub c122 [1, 1, 0, 1, 0, 0])) (body := (sub c122 [1, 1, 0, 1, 0, 1])) (k := K122_5.tail) 154 #[] #[(.pointer (some ⟨b27, 0, none⟩)), (.pointer (some ⟨b28, 0, none⟩)), (.pointer (some ⟨b29, 0, none⟩))] rfl (by kernel_rfl) (by kernel_rfl) (fun _ => by kernel_rfl) ?_
      intro tm34 w35 htm36 hx37 hsz38 hD39 hL40
      obtain ⟨D41, hDe42⟩ : ∃ D, D = w25.heap.size := ⟨_, rfl⟩
      rw [← hDe42] at hsz38 hD39 hL40 ⊢
      have hl43 : w35.heap[D41 + 1]? = some (.loop (lrec 139 tm34 #[34] (sub c122 [1, 1, 0, 1, 0, 0]) (sub c122 [1, 1, 0, 1, 0, 1]) D41 .ready none)) := hL40
      clear hL40
      have := hx37.size
      have hD44 : J ((standsL A (H.getD xh 0) xi).map (fun (j : Nat) => (((1 : Int), (j : Int)), ((xh + 1, j + 1, xk) : At3))) ++ (standsL B (H.getD xh 0) xk).map (fun (j : Nat) => (((2 : Int), (j : Int)), ((xh + 1, xi, j + 1) : At3)))) w35 := (Stays.ext (hxJ _) (Stays.ext (hxJ _) (Stays.ext (hxJ _) hv10 hd12) hx26) hx37)
      have hb45 : Blk w35 b1 [(.func (.yield l) #[] #[])] 210 := (Ext.blk hx37 (Ext.blk hx26 (Ext.blk hd12 (Upd.blk hu9 hb4 (fun hk => by have := hS _ hk; omega)))))
      have hE46 : Upd (l :: S) w w35 := (Upd.ext (Upd.ext hE14 hx26) hx37)
      have hb47 : Blk w35 b27 [(.int .i64 (↑xi : Int))] 3 := (Ext.blk hx37 hb30)
      have hb48 : Blk w35 b28 [(.slice aA A.length cA)] 23 := (Ext.blk hx37 hb31)
      have hb49 : Blk w35 b29 [(.int .i64 (H.getD xh 0))] 3 := (Ext.blk hx37 hb32)
      refine Fn.mono (stands1_blk (D41 + 1) b27 b28 b29 cA aA A xi (H.getD xh 0) (l :: S) (fun r wv => wv.heap[D41 + 1]? = some (.loop (lrec 139 tm34 #[34] (sub c122 [1, 1, 0, 1, 0, 0]) (sub c122 [1, 1, 0, 1, 0, 1]) D41 .ready none)) ∧ J (r.map (fun (j : Nat) => (((1 : Int), (j : Int)), ((xh + 1, j + 1, xk) : At3))) ++ (standsL B (H.getD xh 0) xk).map (fun (j : Nat) => (((2 : Int), (j : Int)), ((xh + 1, xi, j + 1) : At3)))) wv) (fun wv => wv.heap[D41 + 1]? = some (.loop (lrec 139 tm34 #[34] (sub c122 [1, 1, 0, 1, 0, 0]) (sub c122 [1, 1, 0, 1, 0, 1]) D41 .done (some .ret))) ∧ Q wv) w35 hb47 hb48 hb49 (by refine ⟨by omega, ?_⟩; refine ⟨fun hk => ?_, fun hk => ?_, fun hk => ?_⟩ <;> (have := hS _ hk; omega)) (fun w' hu => hCA w' (Upd.upd hE46 hu (by intro k hk; rcases List.mem_cons.1 hk with rfl | hk; exact .inl (by omega); exact .inr hk))) (by omega) ⟨hl43, hD44⟩ ?_ ?_) ?_
      · intro r wa wb hj he
        exact ⟨he.blk hj.1, Stays.ext (hxJ _) hj.2 he⟩
      · rintro k50 r51 wa52 hk53 ⟨hl54, hj55⟩ hU56
        have hE57 : Upd (l :: S) w wa52 := Upd.upd hE46 hU56 (by intro k hk; rcases List.mem_cons.1 hk with rfl | hk; exact .inl (by omega); first | exact .inr hk | (simp only [List.mem_cons, List.not_mem_nil, or_false] at hk ⊢; omega))
        have := hU56.size
        refine Yield.one K122_7 [(34, (.int .i64 (↑k50 : Int))), (33, (.func (.func 154) #[] #[(.pointer (some ⟨b27, 0, none⟩)), (.pointer (some ⟨b28, 0, none⟩)), (.pointer (some ⟨b29, 0, none⟩))])), (1, (.pointer (some ⟨bx, ox, none⟩))), (2, (.pointer (some ⟨bd, od, none⟩))), (3, (.pointer (some ⟨b1, 0, none⟩)))] hl54 htm36 (by kernel_rfl) (by kernel_rfl) (fun c cs => ?_)
        have hb58 : Blk wa52 b1 [(.func (.yield l) #[] #[])] 210 := hU56.blk hb45 (fun hk => by rcases List.mem_cons.1 hk with hk | hk; omega; have := hS _ hk; omega)
        have hkk := mem_standsL.1 hk53
        refine St.weak (L' := [(34, (.int .i64 (↑k50 : Int))), (1, (.pointer (some ⟨bx, ox, none⟩))), (3, (.pointer (some ⟨b1, 0, none⟩)))]) (by kernel_rfl) ?_
        refine St.reg K122_8 [(0, true)] (by kernel_rfl) (by kernel_rfl) ?_
        refine RX.q 1 [] [(1, (.pointer (some ⟨bx, ox, none⟩))), (3, (.pointer (some ⟨b1, 0, none⟩))), (4, (.int .i64 (↑k50 : Int)))] [] (by kernel_rfl) trivial ?_
        refine RX.done [(1, (.pointer (some ⟨bx, ox, none⟩))), (3, (.pointer (some ⟨b1, 0, none⟩))), (4, (.int .i64 (↑k50 : Int)))] (by kernel_rfl) (by kernel_rfl) ?_
        refine St.beginRound (k' := K122_9) hl54 rfl (by kernel_rfl) ?_
        intro w59 hp60
        have hl61 : w59.heap[D41 + 1]? = some (.loop (lrec 139 tm34 #[34] (sub c122 [1, 1, 0, 1, 0, 0]) (sub c122 [1, 1, 0, 1, 0, 1]) D41 .busy none)) := hp60.blk
        have := hp60.size
        have hJ62 := Stays.put (hxJ _) hj55 hp60 (by omega) hl54
        refine St.reg K122_10 [(0, true), (1, true), (2, true), (3, true), (4, true), (5, true), (6, true), (7, true), (8, true), (9, true), (10, true), (11, false), (12, true)] (by kernel_rfl) (by kernel_rfl) ?_
        have hb63 : Blk w59 b1 [(.func (.yield l) #[] #[])] 210 := (Upd.blk hp60.upd hb58 (by simp <;> omega))
        have hE64 : Upd (l :: S) w w59 := (Upd.upd hE57 hp60.upd (by intro k hk; simp at hk; first | (left; omega) | (right; simp <;> omega)))
        have hb65 : Cl w59 bx ox [(.int .i64 (↑xh : Int)), (.int .i64 (↑xi : Int)), (.int .i64 (↑xk : Int))] := hbx w59 hE64
        refine RX.q 11 [(0, true, (.func (.yield l) #[] #[])), (4, true, (.int .i64 (↑xh : Int))), (5, false, (.int .i64 ((↑xh : Int) + 1))), (7, false, (.int .i64 ((↑k50 : Int) + 1))), (9, true, (.int .i64 (↑xk : Int)))] [(35, (.func (.yield l) #[] #[])), (37, (.agg #[(.int .i64 1), (.int .i64 (↑k50 : Int))])), (45, (.agg #[(.int .i64 ((↑xh : Int) + 1)), (.int .i64 ((↑k50 : Int) + 1)), (.int .i64 (↑xk : Int))]))] [.cell ⟨b1, 0, none⟩ (.func (.yield l) #[] #[]), .cell ⟨bx, ox + 0, none⟩ (.int .i64 (↑xh : Int)), .eq (.int .i64 (IntKind.i64.wrap ((↑xh : Int) + 1))) (.int .i64 ((↑xh : Int) + 1)), .eq (.int .i64 (IntKind.i64.wrap ((↑k50 : Int) + 1))) (.int .i64 ((↑k50 : Int) + 1)), .cell ⟨bx, ox + 2, none⟩ (.int .i64 (↑xk : Int))] (by kernel_rfl) ⟨Blk.cell hb63 rfl, Cl.cell hb65 rfl, int64 (by omega), int64 (by omega), Cl.cell hb65 rfl⟩ ?_
        refine RX.yield 46 l #[mvP ((fun (j : Nat) => (((1 : Int), (j : Int)), ((xh + 1, j + 1, xk) : At3))) k50), key3 ((fun (j : Nat) => (((1 : Int), (j : Int)), ((xh + 1, j + 1, xk) : At3))) k50).2] [(35, (.func (.yield l) #[] #[])), (37, (.agg #[(.int .i64 1), (.int .i64 (↑k50 : Int))])), (45, (.agg #[(.int .i64 ((↑xh : Int) + 1)), (.int .i64 ((↑k50 : Int) + 1)), (.int .i64 (↑xk : Int))]))] (by kernel_rfl) ?_
        refine Yield.mono (hy ((fun (j : Nat) => (((1 : Int), (j : Int)), ((xh + 1, j + 1, xk) : At3))) k50) (r51.map (fun (j : Nat) => (((1 : Int), (j : Int)), ((xh + 1, j + 1, xk) : At3))) ++ (standsL B (H.getD xh 0) xk).map (fun (j : Nat) => (((2 : Int), (j : Int)), ((xh + 1, xi, j + 1) : At3)))) w59 (List.mem_cons_of_mem _ (List.mem_append_left _ (List.mem_map_of_mem hk53))) hJ62 hE64) ?_
        rintro _ w66 ⟨hu67, ⟨rfl, hv68⟩ | ⟨rfl, hv68⟩⟩
        have := hu67.size
        · refine RX.q 1 [] [(47, (.bool false))] [] (by kernel_rfl) trivial ?_
          refine RX.done [(47, (.bool false))] (by kernel_rfl) (by kernel_rfl) ?_
          refine St.cond (k1 := K122_11) (k2 := K122_12) false (by kernel_rfl) (fun hc => ?_) (fun hc => ?_)
          · cases hc
          · clear hc
            refine St.weak (L' := []) (by kernel_rfl) ?_
            have hb69 : w66.heap[D41 + 1]? = some (.loop (lrec 139 tm34 #[34] (sub c122 [1, 1, 0, 1, 0, 0]) (sub c122 [1, 1, 0, 1, 0, 1]) D41 .busy none)) := (Upd.blk hu67 hl61 (fun hk => by have := hS _ hk; omega))
            refine St.roundEnd hb69 ?_
            intro w70 hp71
            have := hp71.size
            exact ⟨(Upd.upd (Upd.upd (Upd.upd (Upd.refl ((D41 + 1) :: (l :: S)) wa52) hp60.upd (by intro k hk; simp at hk; first | (left; omega) | (right; simp <;> omega))) hu67 (by intro k hk; right; simp at hk ⊢; first | exact .inr hk | (rcases hk with hk | hk <;> simp [hk]))) hp71.upd (by intro k hk; simp at hk; first | (left; omega) | (right; simp <;> omega))), .inl ⟨rfl, hp71.blk, (Stays.put (hxJ _) hv68 hp71 (by omega) hb69)⟩⟩
        · refine RX.q 1 [] [(47, (.bool true))] [] (by kernel_rfl) trivial ?_
          refine RX.done [(47, (.bool true))] (by kernel_rfl) (by kernel_rfl) ?_
          refine St.cond (k1 := K122_11) (k2 := K122_12) true (by kernel_rfl) (fun hc => ?_) (fun hc => ?_)
          · clear hc
            refine St.weak (L' := []) (by kernel_rfl) ?_
            have hb72 : w66.heap[D41 + 1]? = some (.loop (lrec 139 tm34 #[34] (sub c122 [1, 1, 0, 1, 0, 0]) (sub c122 [1, 1, 0, 1, 0, 1]) D41 .busy none)) := (Upd.blk hu67 hl61 (fun hk => by have := hS _ hk; omega))
            refine St.roundRet hb72 ?_
            intro w73 hp74
            have := hp74.size
            exact ⟨(Upd.upd (Upd.upd (Upd.upd (Upd.refl ((D41 + 1) :: (l :: S)) wa52) hp60.upd (by intro k hk; simp at hk; first | (left; omega) | (right; simp <;> omega))) hu67 (by intro k hk; right; simp at hk ⊢; first | exact .inr hk | (rcases hk with hk | hk <;> simp [hk]))) hp74.upd (by intro k hk; simp at hk; first | (left; omega) | (right; simp <;> omega))), .inr ⟨rfl, hp74.blk, (Stays.put hxQ hv68 hp74 (by omega) hb72)⟩⟩
          · cases hc
      · rintro _ w75 ⟨hU76, ⟨hl77, hJ78⟩ | ⟨hl79, hQ80⟩⟩
        · refine ⟨_, hl77, by simp [lrec], fun w81 hp82 => ?_⟩
          have := hU76.size; have := hp82.size
          have hE83 : Upd (l :: S) w w81 := Upd.upd (Upd.upd hE46 hU76 (by intro k hk; rcases List.mem_cons.1 hk with rfl | hk; exact .inl (by omega); first | exact .inr hk | (simp only [List.mem_cons, List.not_mem_nil, or_false] at hk ⊢; omega))) hp82.upd (by intro k hk; simp at hk; left; omega)
          have hD84 : w81.heap[D41]? = some (.deferred (some [])) := hp82.upd.blk (hU76.blk hD39 (fun hk => by rcases List.mem_cons.1 hk with hk | hk; omega; have := hS _ hk; omega)) (by simp)
          have hJ85 : J ([].map (fun (j : Nat) => (((1 : Int), (j : Int)), ((xh + 1, j + 1, xk) : At3))) ++ (standsL B (H.getD xh 0) xk).map (fun (j : Nat) => (((2 : Int), (j : Int)), ((xh + 1, xi, j + 1) : At3)))) w81 := Stays.put (hxJ _) hJ78 hp82 (by omega) hl77
          have hb86 : Blk w81 b1 [(.func (.yield l) #[] #[])] 210 := hp82.upd.blk (hU76.blk hb45 (fun hk => by rcases List.mem_cons.1 hk with hk | hk; omega; have := hS _ hk; omega)) (by simp; omega)
          refine At.norm 99 (k' := K122_6) (by kernel_rfl) ?_
          refine St.toAt (n := 78) (L := [(33, (.func (.func 154) #[] #[(.pointer (some ⟨b27, 0, none⟩)), (.pointer (some ⟨b28, 0, none⟩)), (.pointer (some ⟨b29, 0, none⟩))])), (1, (.pointer (some ⟨bx, ox, none⟩))), (2, (.pointer (some ⟨bd, od, none⟩))), (3, (.pointer (some ⟨b1, 0, none⟩)))]) ?_ htm36
          refine St.weak (L' := [(1, (.pointer (some ⟨bx, ox, none⟩))), (2, (.pointer (some ⟨bd, od, none⟩))), (3, (.pointer (some ⟨b1, 0, none⟩)))]) (by kernel_rfl) ?_
          refine St.drw K122_13 [] [(0, true), (1, true), (2, true), (3, true), (4, true), (5, true), (6, true), (7, true), (8, true), (9, true), (10, true), (11, true), (12, true), (13, true), (14, true), (15, false)] mixed (by kernel_rfl) (by kernel_rfl) ?_
          intro w87 hd88 hds89
          have hE90 : Upd (l :: S) w w87 := (Upd.ext hE83 hd88)
          have hb91 : Cl w87 bd od [(.pointer (some ⟨d, oo, none⟩))] := hbd w87 hE90
          have hb92 : Cl w87 d oo [vt, (.slice aH H.length cH), (.int .i64 f), (.slice aA A.length cA), (.slice aB B.length cB)] := hd w87 hE90
          have hb93 : Cl w87 bx ox [(.int .i64 (↑xh : Int)), (.int .i64 (↑xi : Int)), (.int .i64 (↑xk : Int))] := hbx w87 hE90
          have hD94 : Ints .i64 0 w87 (.slice aH H.length cH) H := hCH w87 hE90
          obtain ⟨b95, o96, hl97, hl98, hi99, hc100⟩ := Ints.at (P := Try.prog) (t := 23) (e := 3) hD94 (by kernel_rfl) (by kernel_rfl) xh (by omega)
          refine RX.qd 15 [(0, true, (.pointer (some ⟨d, oo, none⟩))), (3, true, (.slice aB B.length cB)), (5, true, (.int .i64 (↑xk : Int))), (6, true, (.pointer (some ⟨d, oo, none⟩))), (10, true, (.slice aH H.length cH)), (12, true, (.int .i64 (↑xh : Int))), (13, true, (.pointer (some ⟨b95, o96, none⟩))), (14, true, (.int .i64 (H.getD xh 0)))] [(1, (.pointer (some ⟨bx, ox, none⟩))), (3, (.pointer (some ⟨b1, 0, none⟩))), (51, (.slice aB B.length cB)), (53, (.int .i64 (↑xk : Int))), (62, (.int .i64 (H.getD xh 0)))] [.cell ⟨bd, od + 0, none⟩ (.pointer (some ⟨d, oo, none⟩)), .cell ⟨d, oo + 4, none⟩ (.slice aB B.length cB), .cell ⟨bx, ox + 2, none⟩ (.int .i64 (↑xk : Int)), .cell ⟨bd, od + 0, none⟩ (.pointer (some ⟨d, oo, none⟩)), .cell ⟨d, oo + 1, none⟩ (.slice aH H.length cH), .cell ⟨bx, ox + 0, none⟩ (.int .i64 (↑xh : Int)), .raw (Instr.indexAt 23 (.slice aH H.length cH) (.int .i64 (↑xh : Int))) (.pointer (some ⟨b95, o96, none⟩)), .cell ⟨b95, o96, none⟩ (.int .i64 (H.getD xh 0))] (by kernel_rfl) ⟨Cl.cell hb91 rfl, Cl.cell hb92 rfl, Cl.cell hb93 rfl, Cl.cell hb91 rfl, Cl.cell hb92 rfl, Cl.cell hb93 rfl, hi99 _, hc100⟩ ⟨List.not_mem_nil, List.not_mem_nil, List.not_mem_nil, List.not_mem_nil, List.not_mem_nil, List.not_mem_nil, fun w' _ => hi99 w', List.not_mem_nil⟩ ?_
          refine RX.callD 63 140 #[(.slice aB B.length cB), (.int .i64 (↑xk : Int)), (.int .i64 (H.getD xh 0))] [(1, (.pointer (some ⟨bx, ox, none⟩))), (3, (.pointer (some ⟨b1, 0, none⟩))), (51, (.slice aB B.length cB)), (53, (.int .i64 (↑xk : Int))), (62, (.int .i64 (H.getD xh 0)))] (fun _ => by kernel_rfl) (by kernel_rfl) ?_
          refine Fn.mono (stands_fn aB B.length cB (↑xk : Int) (H.getD xh 0) w87) ?_
          rintro _ w101 ⟨b103, b104, b105, rfl, hb106, hb107, hb108, hz109, hx102⟩
          refine ⟨hx102.up, ?_⟩
          have := hx102.size
          have := lt_of_blk hb106; have := lt_of_blk hb107; have := lt_of_blk hb108
          refine RX.done [(63, (.func (.func 154) #[] #[(.pointer (some ⟨b103, 0, none⟩)), (.pointer (some ⟨b104, 0, none⟩)), (.pointer (some ⟨b105, 0, none⟩))])), (1, (.pointer (some ⟨bx, ox, none⟩))), (3, (.pointer (some ⟨b1, 0, none⟩)))] (by kernel_rfl) (by kernel_rfl) ?_
          refine St.rangeFunc (g := .tmp 63) (ps := #[64]) (assign := (sub c122 [1, 1, 1, 1, 0, 0])) (body := (sub c122 [1, 1, 1, 1, 0, 1])) (k := K122_13.tail) 154 #[] #[(.pointer (some ⟨b103, 0, none⟩)), (.pointer (some ⟨b104, 0, none⟩)), (.pointer (some ⟨b105, 0, none⟩))] rfl (by kernel_rfl) (by kernel_rfl) (fun _ => by kernel_rfl) ?_
          intro tm110 w111 htm112 hx113 hsz114 hD115 hL116
          obtain ⟨D117, hDe118⟩ : ∃ D, D = w101.heap.size := ⟨_, rfl⟩
          rw [← hDe118] at hsz114 hD115 hL116 ⊢
          have hl119 : w111.heap[D117 + 1]? = some (.loop (lrec 139 tm110 #[64] (sub c122 [1, 1, 1, 1, 0, 0]) (sub c122 [1, 1, 1, 1, 0, 1]) D117 .ready none)) := hL116
          clear hL116
          have := hx113.size
          have hD120 : J ((standsL B (H.getD xh 0) xk).map (fun (j : Nat) => (((2 : Int), (j : Int)), ((xh + 1, xi, j + 1) : At3)))) w111 := (Stays.ext (hxJ _) (Stays.ext (hxJ _) (Stays.ext (hxJ _) hJ85 hd88) hx102) hx113)
          have hb121 : Blk w111 b1 [(.func (.yield l) #[] #[])] 210 := (Ext.blk hx113 (Ext.blk hx102 (Ext.blk hd88 hb86)))
          have hb122 : w111.heap[D41]? = some (.deferred (some [])) := (Ext.blk hx113 (Ext.blk hx102 (Ext.blk hd88 hD84)))
          have hE123 : Upd (l :: S) w w111 := (Upd.ext (Upd.ext hE90 hx102) hx113)
          have hb124 : Blk w111 b103 [(.int .i64 (↑xk : Int))] 3 := (Ext.blk hx113 hb106)
          have hb125 : Blk w111 b104 [(.slice aB B.length cB)] 23 := (Ext.blk hx113 hb107)
          have hb126 : Blk w111 b105 [(.int .i64 (H.getD xh 0))] 3 := (Ext.blk hx113 hb108)
          refine Fn.mono (stands1_blk (D117 + 1) b103 b104 b105 cB aB B xk (H.getD xh 0) (l :: S) (fun r wv => wv.heap[D117 + 1]? = some (.loop (lrec 139 tm110 #[64] (sub c122 [1, 1, 1, 1, 0, 0]) (sub c122 [1, 1, 1, 1, 0, 1]) D117 .ready none)) ∧ J (r.map (fun (j : Nat) => (((2 : Int), (j : Int)), ((xh + 1, xi, j + 1) : At3)))) wv) (fun wv => wv.heap[D117 + 1]? = some (.loop (lrec 139 tm110 #[64] (sub c122 [1, 1, 1, 1, 0, 0]) (sub c122 [1, 1, 1, 1, 0, 1]) D117 .done (some .ret))) ∧ Q wv) w111 hb124 hb125 hb126 (by refine ⟨by omega, ?_⟩; refine ⟨fun hk => ?_, fun hk => ?_, fun hk => ?_⟩ <;> (have := hS _ hk; omega)) (fun w' hu => hCB w' (Upd.upd hE123 hu (by intro k hk; rcases List.mem_cons.1 hk with rfl | hk; exact .inl (by omega); exact .inr hk))) (by omega) ⟨hl119, hD120⟩ ?_ ?_) ?_
          · intro r wa wb hj he
            exact ⟨he.blk hj.1, Stays.ext (hxJ _) hj.2 he⟩
          · rintro k127 r128 wa129 hk130 ⟨hl131, hj132⟩ hU133
            have hE134 : Upd (l :: S) w wa129 := Upd.upd hE123 hU133 (by intro k hk; rcases List.mem_cons.1 hk with rfl | hk; exact .inl (by omega); first | exact .inr hk | (simp only [List.mem_cons, List.not_mem_nil, or_false] at hk ⊢; omega))
            have := hU133.size
            refine Yield.one K122_14 [(64, (.int .i64 (↑k127 : Int))), (63, (.func (.func 154) #[] #[(.pointer (some ⟨b103, 0, none⟩)), (.pointer (some ⟨b104, 0, none⟩)), (.pointer (some ⟨b105, 0, none⟩))])), (1, (.pointer (some ⟨bx, ox, none⟩))), (3, (.pointer (some ⟨b1, 0, none⟩)))] hl131 htm112 (by kernel_rfl) (by kernel_rfl) (fun c cs => ?_)
            have hb135 : Blk wa129 b1 [(.func (.yield l) #[] #[])] 210 := hU133.blk hb121 (fun hk => by rcases List.mem_cons.1 hk with hk | hk; omega; have := hS _ hk; omega)
            have hb136 : wa129.heap[D41]? = some (.deferred (some [])) := hU133.blk hb122 (fun hk => by rcases List.mem_cons.1 hk with hk | hk; omega; have := hS _ hk; omega)
            have hkk := mem_standsL.1 hk130
            refine St.weak (L' := [(64, (.int .i64 (↑k127 : Int))), (1, (.pointer (some ⟨bx, ox, none⟩))), (3, (.pointer (some ⟨b1, 0, none⟩)))]) (by kernel_rfl) ?_
            refine St.reg K122_15 [(0, true)] (by kernel_rfl) (by kernel_rfl) ?_
            refine RX.q 1 [] [(1, (.pointer (some ⟨bx, ox, none⟩))), (3, (.pointer (some ⟨b1, 0, none⟩))), (5, (.int .i64 (↑k127 : Int)))] [] (by kernel_rfl) trivial ?_
            refine RX.done [(1, (.pointer (some ⟨bx, ox, none⟩))), (3, (.pointer (some ⟨b1, 0, none⟩))), (5, (.int .i64 (↑k127 : Int)))] (by kernel_rfl) (by kernel_rfl) ?_
            refine St.beginRound (k' := K122_16) hl131 rfl (by kernel_rfl) ?_
            intro w137 hp138
            have hl139 : w137.heap[D117 + 1]? = some (.loop (lrec 139 tm110 #[64] (sub c122 [1, 1, 1, 1, 0, 0]) (sub c122 [1, 1, 1, 1, 0, 1]) D117 .busy none)) := hp138.blk
            have := hp138.size
            have hJ140 := Stays.put (hxJ _) hj132 hp138 (by omega) hl131
            refine St.reg K122_17 [(0, true), (1, true), (2, true), (3, true), (4, true), (5, true), (6, true), (7, true), (8, true), (9, true), (10, true), (11, false), (12, true)] (by kernel_rfl) (by kernel_rfl) ?_
            have hb141 : Blk w137 b1 [(.func (.yield l) #[] #[])] 210 := (Upd.blk hp138.upd hb135 (by simp <;> omega))
            have hE142 : Upd (l :: S) w w137 := (Upd.upd hE134 hp138.upd (by intro k hk; simp at hk; first | (left; omega) | (right; simp <;> omega)))
            have hb143 : Cl w137 bx ox [(.int .i64 (↑xh : Int)), (.int .i64 (↑xi : Int)), (.int .i64 (↑xk : Int))] := hbx w137 hE142
            refine RX.q 11 [(0, true, (.func (.yield l) #[] #[])), (4, true, (.int .i64 (↑xh : Int))), (5, false, (.int .i64 ((↑xh : Int) + 1))), (7, true, (.int .i64 (↑xi : Int))), (9, false, (.int .i64 ((↑k127 : Int) + 1)))] [(65, (.func (.yield l) #[] #[])), (67, (.agg #[(.int .i64 2), (.int .i64 (↑k127 : Int))])), (75, (.agg #[(.int .i64 ((↑xh : Int) + 1)), (.int .i64 (↑xi : Int)), (.int .i64 ((↑k127 : Int) + 1))]))] [.cell ⟨b1, 0, none⟩ (.func (.yield l) #[] #[]), .cell ⟨bx, ox + 0, none⟩ (.int .i64 (↑xh : Int)), .eq (.int .i64 (IntKind.i64.wrap ((↑xh : Int) + 1))) (.int .i64 ((↑xh : Int) + 1)), .cell ⟨bx, ox + 1, none⟩ (.int .i64 (↑xi : Int)), .eq (.int .i64 (IntKind.i64.wrap ((↑k127 : Int) + 1))) (.int .i64 ((↑k127 : Int) + 1))] (by kernel_rfl) ⟨Blk.cell hb141 rfl, Cl.cell hb143 rfl, int64 (by omega), Cl.cell hb143 rfl, int64 (by omega)⟩ ?_
            refine RX.yield 76 l #[mvP ((fun (j : Nat) => (((2 : Int), (j : Int)), ((xh + 1, xi, j + 1) : At3))) k127), key3 ((fun (j : Nat) => (((2 : Int), (j : Int)), ((xh + 1, xi, j + 1) : At3))) k127).2] [(65, (.func (.yield l) #[] #[])), (67, (.agg #[(.int .i64 2), (.int .i64 (↑k127 : Int))])), (75, (.agg #[(.int .i64 ((↑xh : Int) + 1)), (.int .i64 (↑xi : Int)), (.int .i64 ((↑k127 : Int) + 1))]))] (by kernel_rfl) ?_
            refine Yield.mono (hy ((fun (j : Nat) => (((2 : Int), (j : Int)), ((xh + 1, xi, j + 1) : At3))) k127) (r128.map (fun (j : Nat) => (((2 : Int), (j : Int)), ((xh + 1, xi, j + 1) : At3)))) w137 (List.mem_cons_of_mem _ (List.mem_append_right _ (List.mem_map_of_mem hk130))) hJ140 hE142) ?_
            rintro _ w144 ⟨hu145, ⟨rfl, hv146⟩ | ⟨rfl, hv146⟩⟩
            have := hu145.size
            · refine RX.q 1 [] [(77, (.bool false))] [] (by kernel_rfl) trivial ?_
              refine RX.done [(77, (.bool false))] (by kernel_rfl) (by kernel_rfl) ?_
              refine St.cond (k1 := K122_18) (k2 := K122_12) false (by kernel_rfl) (fun hc => ?_) (fun hc => ?_)
              · cases hc
              · clear hc
                refine St.weak (L' := []) (by kernel_rfl) ?_
                have hb147 : w144.heap[D117 + 1]? = some (.loop (lrec 139 tm110 #[64] (sub c122 [1, 1, 1, 1, 0, 0]) (sub c122 [1, 1, 1, 1, 0, 1]) D117 .busy none)) := (Upd.blk hu145 hl139 (fun hk => by have := hS _ hk; omega))
                refine St.roundEnd hb147 ?_
                intro w148 hp149
                have := hp149.size
                exact ⟨(Upd.upd (Upd.upd (Upd.upd (Upd.refl ((D117 + 1) :: (l :: S)) wa129) hp138.upd (by intro k hk; simp at hk; first | (left; omega) | (right; simp <;> omega))) hu145 (by intro k hk; right; simp at hk ⊢; first | exact .inr hk | (rcases hk with hk | hk <;> simp [hk]))) hp149.upd (by intro k hk; simp at hk; first | (left; omega) | (right; simp <;> omega))), .inl ⟨rfl, hp149.blk, (Stays.put (hxJ _) hv146 hp149 (by omega) hb147)⟩⟩
            · refine RX.q 1 [] [(77, (.bool true))] [] (by kernel_rfl) trivial ?_
              refine RX.done [(77, (.bool true))] (by kernel_rfl) (by kernel_rfl) ?_
              refine St.cond (k1 := K122_18) (k2 := K122_12) true (by kernel_rfl) (fun hc => ?_) (fun hc => ?_)
              · clear hc
                refine St.weak (L' := []) (by kernel_rfl) ?_
                have hb150 : w144.heap[D117 + 1]? = some (.loop (lrec 139 tm110 #[64] (sub c122 [1, 1, 1, 1, 0, 0]) (sub c122 [1, 1, 1, 1, 0, 1]) D117 .busy none)) := (Upd.blk hu145 hl139 (fun hk => by have := hS _ hk; omega))
                refine St.roundRet hb150 ?_
                intro w151 hp152
                have := hp152.size
                exact ⟨(Upd.upd (Upd.upd (Upd.upd (Upd.refl ((D117 + 1) :: (l :: S)) wa129) hp138.upd (by intro k hk; simp at hk; first | (left; omega) | (right; simp <;> omega))) hu145 (by intro k hk; right; simp at hk ⊢; first | exact .inr hk | (rcases hk with hk | hk <;> simp [hk]))) hp152.upd (by intro k hk; simp at hk; first | (left; omega) | (right; simp <;> omega))), .inr ⟨rfl, hp152.blk, (Stays.put hxQ hv146 hp152 (by omega) hb150)⟩⟩
              · cases hc
          · rintro _ w153 ⟨hU154, ⟨hl155, hJ156⟩ | ⟨hl157, hQ158⟩⟩
            · refine ⟨_, hl155, by simp [lrec], fun w159 hp160 => ?_⟩
              have := hU154.size; have := hp160.size
              have hE161 : Upd (l :: S) w w159 := Upd.upd (Upd.upd hE123 hU154 (by intro k hk; rcases List.mem_cons.1 hk with rfl | hk; exact .inl (by omega); first | exact .inr hk | (simp only [List.mem_cons, List.not_mem_nil, or_false] at hk ⊢; omega))) hp160.upd (by intro k hk; simp at hk; left; omega)
              have hD162 : w159.heap[D117]? = some (.deferred (some [])) := hp160.upd.blk (hU154.blk hD115 (fun hk => by rcases List.mem_cons.1 hk with hk | hk; omega; have := hS _ hk; omega)) (by simp)
              have hJ163 : J ([].map (fun (j : Nat) => (((2 : Int), (j : Int)), ((xh + 1, xi, j + 1) : At3)))) w159 := Stays.put (hxJ _) hJ156 hp160 (by omega) hl155
              have hb164 : Blk w159 b1 [(.func (.yield l) #[] #[])] 210 := hp160.upd.blk (hU154.blk hb121 (fun hk => by rcases List.mem_cons.1 hk with hk | hk; omega; have := hS _ hk; omega)) (by simp; omega)
              have hb165 : w159.heap[D41]? = some (.deferred (some [])) := hp160.upd.blk (hU154.blk hb122 (fun hk => by rcases List.mem_cons.1 hk with hk | hk; omega; have := hS _ hk; omega)) (by simp; omega)
              refine At.norm 99 (k' := K122_12) (by kernel_rfl) ?_
              refine St.toAt (n := 78) (L := [(63, (.func (.func 154) #[] #[(.pointer (some ⟨b103, 0, none⟩)), (.pointer (some ⟨b104, 0, none⟩)), (.pointer (some ⟨b105, 0, none⟩))])), (1, (.pointer (some ⟨bx, ox, none⟩))), (3, (.pointer (some ⟨b1, 0, none⟩)))]) ?_ htm112
              refine St.weak (L' := []) (by kernel_rfl) ?_
              refine St.retMarks [D117, D41] [] [] (by kernel_rfl) Try.func139 (by kernel_rfl) (by simp <;> omega) (by simp [hD162, hb165]) ?_
              intro w166 hu167 hs168
              refine ⟨.nil, ?_⟩
              exact ⟨Upd.upd hE161 hu167 (by intro k hk; simp at hk; left; omega), .inl (hxJ _ _ _ _ hJ163 hu167 (Apart.cons (Apart.cons (Apart.nil _ _) (by omega) (fun _ _ _ e => by rw [hb165] at e; cases e)) (by omega) (fun _ _ _ e => by rw [hD162] at e; cases e)))⟩
            · refine ⟨_, hl157, by simp [lrec], fun w169 hp170 => ?_⟩
              have := hU154.size; have := hp170.size
              have hE171 : Upd (l :: S) w w169 := Upd.upd (Upd.upd hE123 hU154 (by intro k hk; rcases List.mem_cons.1 hk with rfl | hk; exact .inl (by omega); first | exact .inr hk | (simp only [List.mem_cons, List.not_mem_nil, or_false] at hk ⊢; omega))) hp170.upd (by intro k hk; simp at hk; left; omega)
              have hD172 : w169.heap[D117]? = some (.deferred (some [])) := hp170.upd.blk (hU154.blk hD115 (fun hk => by rcases List.mem_cons.1 hk with hk | hk; omega; have := hS _ hk; omega)) (by simp)
              have hJ173 : Q w169 := Stays.put hxQ hQ158 hp170 (by omega) hl157
              have hb174 : Blk w169 b1 [(.func (.yield l) #[] #[])] 210 := hp170.upd.blk (hU154.blk hb121 (fun hk => by rcases List.mem_cons.1 hk with hk | hk; omega; have := hS _ hk; omega)) (by simp; omega)
              have hb175 : w169.heap[D41]? = some (.deferred (some [])) := hp170.upd.blk (hU154.blk hb122 (fun hk => by rcases List.mem_cons.1 hk with hk | hk; omega; have := hS _ hk; omega)) (by simp; omega)
              refine St.toAt (k := .code .ret :: K122_13.tail) (n := 78) (L := [(63, (.func (.func 154) #[] #[(.pointer (some ⟨b103, 0, none⟩)), (.pointer (some ⟨b104, 0, none⟩)), (.pointer (some ⟨b105, 0, none⟩))])), (1, (.pointer (some ⟨bx, ox, none⟩))), (3, (.pointer (some ⟨b1, 0, none⟩)))]) ?_ htm112
              refine St.retMarks [D117, D41] [] [] (by kernel_rfl) Try.func139 (by kernel_rfl) (by simp <;> omega) (by simp [hD172, hb175]) ?_
              intro w176 hu177 hs178
              refine ⟨.nil, ?_⟩
              exact ⟨Upd.upd hE171 hu177 (by intro k hk; simp at hk; left; omega), .inr (hxQ _ _ _ hJ173 hu177 (Apart.cons (Apart.cons (Apart.nil _ _) (by omega) (fun _ _ _ e => by rw [hb175] at e; cases e)) (by omega) (fun _ _ _ e => by rw [hD172] at e; cases e)))⟩
        · refine ⟨_, hl79, by simp [lrec], fun w179 hp180 => ?_⟩
          have := hU76.size; have := hp180.size
          have hE181 : Upd (l :: S) w w179 := Upd.upd (Upd.upd hE46 hU76 (by intro k hk; rcases List.mem_cons.1 hk with rfl | hk; exact .inl (by omega); first | exact .inr hk | (simp only [List.mem_cons, List.not_mem_nil, or_false] at hk ⊢; omega))) hp180.upd (by intro k hk; simp at hk; left; omega)
          have hD182 : w179.heap[D41]? = some (.deferred (some [])) := hp180.upd.blk (hU76.blk hD39 (fun hk => by rcases List.mem_cons.1 hk with hk | hk; omega; have := hS _ hk; omega)) (by simp)
          have hJ183 : Q w179 := Stays.put hxQ hQ80 hp180 (by omega) hl79
          have hb184 : Blk w179 b1 [(.func (.yield l) #[] #[])] 210 := hp180.upd.blk (hU76.blk hb45 (fun hk => by rcases List.mem_cons.1 hk with hk | hk; omega; have := hS _ hk; omega)) (by simp; omega)
          refine St.toAt (k := .code .ret :: K122_5.tail) (n := 78) (L := [(33, (.func (.func 154) #[] #[(.pointer (some ⟨b27, 0, none⟩)), (.pointer (some ⟨b28, 0, none⟩)), (.pointer (some ⟨b29, 0, none⟩))])), (1, (.pointer (some ⟨bx, ox, none⟩))), (2, (.pointer (some ⟨bd, od, none⟩))), (3, (.pointer (some ⟨b1, 0, none⟩)))]) ?_ htm36
          refine St.retMarks [D41] [] [] (by kernel_rfl) Try.func139 (by kernel_rfl) (by simp <;> omega) (by simp [hD182]) ?_
          intro w185 hu186 hs187
          refine ⟨.nil, ?_⟩
          exact ⟨Upd.upd hE181 hu186 (by intro k hk; simp at hk; left; omega), .inr (hxQ _ _ _ hJ183 hu186 (Apart.cons (Apart.nil _ _) (by omega) (fun _ _ _ e => by rw [hD182] at e; cases e)))⟩
  · refine RX.q 1 [] [(1, (.pointer (some ⟨bx, ox, none⟩))), (2, (.pointer (some ⟨bd, od, none⟩))), (3, (.pointer (some ⟨b1, 0, none⟩))), (17, (.bool true))] [] (by kernel_rfl) trivial ?_
    refine RX.done [(1, (.pointer (some ⟨bx, ox, none⟩))), (2, (.pointer (some ⟨bd, od, none⟩))), (3, (.pointer (some ⟨b1, 0, none⟩))), (17, (.bool true))] (by kernel_rfl) (by kernel_rfl) ?_
    refine St.cond (k1 := K122_3) (k2 := K122_4) true (by kernel_rfl) (fun hc => ?_) (fun hc => ?_)
    · clear hc
      refine St.weak (L' := []) (by kernel_rfl) ?_
      refine St.ret [] [] (by kernel_rfl) Try.func139 (by kernel_rfl) .nil ?_
      have hE188 : Upd (l :: S) w w8 := (Upd.trans hE5 hu9)
      exact ⟨hE188, .inr hv10⟩
    · cases hc

end Go.Proofs.Ytgeijboidfadaaa

namespace Go.Proofs.Ytgeijboidfadaaa
set_option linter.all false
open Go

theorem Cl.of_seg {w : World} {b o : Nat} {ws us : List Value} {ty : TypeId} {z : Nat × Nat} (hb : w.heap[b]? = some (.cells ws.toArray ty z)) (h : Seg ws o us) : Cl w b o us := fun i v hi => by
  have := Seg.row hb h i v hi
  rwa [addr_add] at this
theorem ints_of {M : Nat → Option Obj} {l : List Int} {v : Value} {w : World} (h : RepS M 1 (RepC M (.int .i64)) l v) (hM : ∀ b o, M b = some o → w.heap[b]? = some o) : Ints .i64 0 w v l := by
  obtain ⟨hl, a, cap, rfl, hc, h⟩ := h
  refine ⟨a, cap, rfl, hc, by simp, ?_⟩
  rcases h with rfl | ⟨b, o, vs, ty, rfl, hm, hx⟩
  · exact .inl rfl
  · have hb := hM _ _ hm
    refine .inr ⟨b, o, rfl, Nat.zero_le _, lt_of_blk hb, fun i x hi => ?_⟩
    rw [List.getElem?_map] at hi
    obtain ⟨y, hy, rfl⟩ := Option.map_eq_some_iff.1 hi
    obtain ⟨us, hs, rfl, _⟩ := hx i y hy
    rw [Nat.mul_one] at hs
    have := Cl.of_seg hb hs 0 (.int .i64 y) rfl
    rw [addr_add]
    simpa using this
abbrev AtT : Ty := .pair (.int .i64) (.pair (.int .i64) (.int .i64))
abbrev DeskT : Ty := .pair (.sl (.sl (.int .i64))) (.pair (.sl (.int .i64)) (.pair (.int .i64) (.pair (.sl (.int .i64)) (.sl (.int .i64)))))
abbrev Move := (Int × Int × Unit) × (Int × Int × Int × Unit) × Unit
def movP (m : Mv) : Move := ((m.1.1, m.1.2, ()), ((m.2.1 : Int), (m.2.2.1 : Int), (m.2.2.2 : Int), ()), ())
def nextR (x : Int × Int × Int) (d : List (List Int) × List Int × Int × List Int × List Int) : Option (List Move) :=
  if (0 ≤ x.1 ∧ x.1 < d.2.1.length) ∧ (0 ≤ x.2.1 ∧ x.2.1 ≤ d.2.2.2.1.length) ∧ (0 ≤ x.2.2 ∧ x.2.2 ≤ d.2.2.2.2.length) ∧ d.2.1.length ≤ 1000 ∧ d.2.2.2.1.length ≤ 1000 ∧ d.2.2.2.2.length ≤ 1000 then
    some ((movesL d.2.2.2.1 d.2.2.2.2 (d.2.1.getD x.1.toNat 0) (x.1.toNat, x.2.1.toNat, x.2.2.toNat)).map movP) else none
abbrev is_next : ISpec := { f := 139, cap := [.fe AtT, .fe (.ptr DeskT)], elem := [.agg [.i .i64, .i .i64], .agg [.i .i64, .i .i64, .i .i64]], run := fun p => nextR p.1 p.2.1 }
theorem inR_small {n : Int} (h : -1000000 ≤ n ∧ n ≤ 1000000) : inR .i64 n := inR_i64.2 (by omega)
theorem is_next_ok : ISpecOK Try.prog is_next := by
  refine ⟨by rfl, fun _ => by kernel_rfl, fun p es hes g vs hvs l S J Q w hM hS hJ hxJ hxQ hy => ?_⟩
  obtain ⟨x, d, u⟩ := p
  simp only [nextR] at hes
  split at hes
  rotate_left
  · cases hes
  rename_i hc
  simp only [Option.some.injEq] at hes
  subst hes
  obtain ⟨⟨hh0, hh1⟩, ⟨ha0, ha1⟩, ⟨hb0, hb1⟩, hH, hA, hB⟩ := hc
  obtain ⟨h, a, b⟩ := x
  obtain ⟨T, H, f, A, B⟩ := d
  dsimp only at *
  obtain ⟨xh, rfl⟩ : ∃ n : Nat, h = n := ⟨h.toNat, (Int.toNat_of_nonneg hh0).symm⟩
  obtain ⟨xi, rfl⟩ : ∃ n : Nat, a = n := ⟨a.toNat, (Int.toNat_of_nonneg ha0).symm⟩
  obtain ⟨xk, rfl⟩ : ∃ n : Nat, b = n := ⟨b.toNat, (Int.toNat_of_nonneg hb0).symm⟩
  simp only [Int.toNat_natCast] at hJ ⊢
  simp only [encs, enc, RepVs, RepV] at hvs
  obtain ⟨v1, r1, rfl, ⟨bx, ox, wx, tx, ux, rfl, hbx, hsx, hcx⟩, v2, r2, rfl, ⟨bd, od, wd, td, ud, rfl, hbd, hsd, hcd⟩, rfl⟩ := hvs
  obtain ⟨u1, u2, rfl, ⟨rfl, _⟩, u3, u4, rfl, ⟨rfl, _⟩, ⟨rfl, _⟩⟩ := hcx
  obtain ⟨bo, oo, wo, to, uo, rfl, hbo, hso, hco⟩ := hcd
  obtain ⟨t1, t2, rfl, ⟨vt, rfl, hT⟩, t3, t4, rfl, ⟨vH, rfl, hrH⟩, t5, t6, rfl, ⟨rfl, _⟩, t7, t8, rfl, ⟨vA, rfl, hrA⟩, ⟨vB, rfl, hrB⟩⟩ := hco
  obtain ⟨_, aH, cH, rfl, _⟩ := id hrH
  obtain ⟨_, aA, cA, rfl, _⟩ := id hrA
  obtain ⟨_, aB, cB, rfl, _⟩ := id hrB
  have hmem : ∀ w', Upd (l :: S) w w' → ∀ b o, g.M b = some o → w'.heap[b]? = some o := fun w' hu b o hb => hu.blk (hM b o hb).2 (hM b o hb).1
  have hfn := next1_fn l bx bd bo ox od oo xh xi xk aH aA aB cH cA cB vt f H A B S (fun r => J (r.map movP)) Q w (fun w' hu => Cl.of_seg (hmem w' hu _ _ hbx) hsx) (fun w' hu => Cl.of_seg (hmem w' hu _ _ hbd) hsd) (fun w' hu => Cl.of_seg (hmem w' hu _ _ hbo) hso) hS
    (fun w' hu => ints_of hrH (hmem w' hu)) (fun w' hu => ints_of hrA (hmem w' hu)) (fun w' hu => ints_of hrB (hmem w' hu)) (by omega) hJ (fun r => hxJ _) hxQ (fun m r w1 hm hj hu => hy (movP m) (r.map movP) w1 [mvP m, key3 m.2] hj hu ?_)
  · exact hfn
  · have hb : (m.1.1 = 3 ∨ m.1.1 = 1 ∨ m.1.1 = 2) ∧ (0 ≤ m.1.2 ∧ m.1.2 ≤ 1000) ∧ m.2.1 ≤ 1001 ∧ m.2.2.1 ≤ 1001 ∧ m.2.2.2 ≤ 1001 := by
      simp only [movesL, List.mem_cons, List.mem_append, List.mem_map] at hm
      rcases hm with rfl | ⟨j, hj', rfl⟩ | ⟨j, hj', rfl⟩
      · refine ⟨.inl rfl, ?_, ?_⟩ <;> dsimp only <;> omega
      · have := mem_standsL.1 hj'
        refine ⟨.inr (.inl rfl), ?_, ?_⟩ <;> dsimp only <;> omega
      · have := mem_standsL.1 hj'
        refine ⟨.inr (.inr rfl), ?_, ?_⟩ <;> dsimp only <;> omega
    obtain ⟨⟨s, k⟩, h', a', b'⟩ := m
    dsimp only at hb
    refine ⟨_, _, rfl, ⟨_, rfl, [_], [_], rfl, ⟨_, rfl, rfl, inR_small (by dsimp only [movP]; omega)⟩, [_], [], rfl, ⟨_, rfl, rfl, inR_small (by dsimp only [movP]; omega)⟩, rfl⟩, _, _, rfl, ⟨_, rfl, [_], [_, _], rfl, ⟨_, rfl, rfl, inR_small (by dsimp only [movP]; omega)⟩, [_], [_], rfl, ⟨_, rfl, rfl, inR_small (by dsimp only [movP]; omega)⟩, [_], [], rfl, ⟨_, rfl, rfl, inR_small (by dsimp only [movP]; omega)⟩, rfl⟩, rfl⟩
end Go.Proofs.Ytgeijboidfadaaa

namespace Go.Proofs.Ytgeijboidfadaaa
set_option linter.all false
open Go
abbrev Qa : Type := Int × (Int × (Int × (Int × ((List (Int × (Int × (List Int)))) × (List Int)))))
abbrev Qb : Type := (List (List Int)) × ((List Int) × (Int × ((List Int) × (List Int))))
abbrev Qc : Ty := .pair (.int .i64) (.pair (.int .i64) (.pair (.int .i64) (.pair (.int .i64) (.pair (.sl (.pair (.int .i64) (.pair (.int .i64) (.sl (.int .i64))))) (.sl (.int .i64))))))
abbrev Qd : Ty := .sl (.int .i64)
abbrev Qe : Type := List Int
abbrev Qf : Type := List ((Int × (Int × Int)) × (Int × Int))
abbrev Qg : Type := (Int × (Int × (Int × (Int × Int)))) × Int
abbrev Qh : Ty := .pair (.int .i64) (.pair (.int .i64) (.int .i64))
abbrev Qi : Ty := .pair (.sl Qd) (.pair Qd (.pair (.int .i64) (.pair Qd Qd)))
abbrev Qj : Type := List (Int × (Int × Qe))
abbrev Qk : Ty := .pair (.int .i64) (.pair (.int .i64) Qd)
abbrev Ql : Type := Int × List Int × List Qe × Int × Int × List Qe × Int × Int × List Int × Int × List Qe × List Qe × List Int × List Int × Int × List Qe × List Qe × List Int × List Int × List Int
abbrev Qm : Type := Qe × (Int × ((List Qe) × ((List Qe) × Qe)))
abbrev Qn : Ty := .pair Qd (.pair (.int .i64) (.pair (.sl Qd) (.pair (.sl Qd) Qd)))
abbrev Qo : Type := Int × Int × List Int × Int × Int × Int × Int × Int × Int × Int × Int × Int × Int × Int × Int × Qj × List Int
abbrev Qp : Ty := .pair (.int .i64) (.pair (.int .i64) Qh)
abbrev Qq : Ty := .pair (.int .i64) (.int .i64)
abbrev Qr : Type := List Int × Int × List Int × List Int × List Int × List Int
abbrev Qs : Type := Int × Qe
abbrev Qt : Ty := .pair (.int .i64) Qd
abbrev Qu : Type := Int × (Int × Int)
abbrev Qv : Type := Int × Int × Qb × Int × Int × Qf
abbrev Qw : Type := List Qe
abbrev Qx : Type := List Qg
abbrev Qy : Type := List Qe × Int × Int × List Int × Int × List Qe × List Qe × List Int × List Int × Int × List Qe × List Qe × List Int × List Int × List Int
abbrev Qz : Type := Qb × Int × Int × Int × Int × List Int
abbrev QA : Type := Int × Qa × Qa × Qx × Int × List Int × Int
abbrev QB : Type := Int × Qa × Qa × Qx × Int × List Int
abbrev QC : Type := Int × Int × Int × List Int × Int × Int × Int × Int × List Int × List Int × List Qe × List Qe × List Int
abbrev QD : Type := Int × Int × Int × Int × List Int × Int × Int × Int × Int × List Int × List Int × List Qe × List Int
abbrev QE : Type := Int × Qa × Qa × Qx
abbrev QF : Type := Int × Int × Qb × Qf
abbrev QG : Type := Int × Int
abbrev QH : Type := Qj × Int × Int × Int × Int × Int × Int × Qj
abbrev QI : Type := Int × Int × Int × Int × Int × Qj
abbrev QJ : Type := Qb × Int × Int × Qf × Int × Int × Int × Int × Int × Int × Int
abbrev QK : Type := Int × Qs


def ring_j1 (N : Nat) (b : List Int) (b2 : Int) (b3 : Int) : Option (Int × List Int × Int × Int) :=
  br (decide (0 < (b.length : Int)))
    (idx b b2 fun x_1 =>
    chk (b2 + 1) <|
    grd (decide (0 ≤ (IntKind.u32.wrap ((IntKind.u32.wrap (30011 * b3)) + (IntKind.u32.wrap (263 * (IntKind.u32.wrap x_1))))) ∧ 0 ≤ (Int.fdiv (IntKind.u32.wrap ((IntKind.u32.wrap (30011 * b3)) + (IntKind.u32.wrap (263 * (IntKind.u32.wrap x_1))))) (2 ^ 7)))) <|
    grd (decide (0 ≤ (((IntKind.u32.wrap ((IntKind.u32.wrap (30011 * b3)) + (IntKind.u32.wrap (263 * (IntKind.u32.wrap x_1))))).toNat ^^^ (Int.fdiv (IntKind.u32.wrap ((IntKind.u32.wrap (30011 * b3)) + (IntKind.u32.wrap (263 * (IntKind.u32.wrap x_1))))) (2 ^ 7)).toNat : Nat) : Int) ∧ (0 : Int) ≤ 65535)) <|
    some ((IntKind.i64.wrap (((((IntKind.u32.wrap ((IntKind.u32.wrap (30011 * b3)) + (IntKind.u32.wrap (263 * (IntKind.u32.wrap x_1))))).toNat ^^^ (Int.fdiv (IntKind.u32.wrap ((IntKind.u32.wrap (30011 * b3)) + (IntKind.u32.wrap (263 * (IntKind.u32.wrap x_1))))) (2 ^ 7)).toNat : Nat) : Int).toNat &&& 65535 : Nat) : Int)), b, (b2 + 1), b3))
    (grd (decide (0 ≤ (IntKind.u32.wrap (30011 * b3)) ∧ 0 ≤ (Int.fdiv (IntKind.u32.wrap (30011 * b3)) (2 ^ 7)))) <|
    grd (decide (0 ≤ (((IntKind.u32.wrap (30011 * b3)).toNat ^^^ (Int.fdiv (IntKind.u32.wrap (30011 * b3)) (2 ^ 7)).toNat : Nat) : Int) ∧ (0 : Int) ≤ 65535)) <|
    some ((IntKind.i64.wrap (((((IntKind.u32.wrap (30011 * b3)).toNat ^^^ (Int.fdiv (IntKind.u32.wrap (30011 * b3)) (2 ^ 7)).toNat : Nat) : Int).toNat &&& 65535 : Nat) : Int)), b, b2, b3))
def ring_S (N : Nat) (b : List Int) (b2 : Int) (b3 : Int) : Option (Int × List Int × Int × Int) :=
  br (decide (b2 = (b.length : Int)))
    (ring_j1 N b 0 (IntKind.u32.wrap (b3 + 1)))
    (ring_j1 N b b2 b3)
noncomputable def ring_sp (N : Nat) : List Spec := []
theorem ring_all (N : Nat) : AllP (SpecOK Try.prog) (ring_sp N) := trivial
noncomputable def ring_c : Code := (Try.f67.body).getD .skip
noncomputable abbrev ring_B : Body := { c := ring_c, n := 63, res := [.tmp 2], outs := [⟨[.i .i64], [.segs [.sl (.int .u8), .i .i64, .i .u32]]⟩], m0 := 1 }
abbrev ring_rt : altD ring_B.outs → Option (Int × List Int × Int × Int) := fun r => some (r.1.1, r.2.1.1, r.2.1.2.1, r.2.1.2.2.1)
abbrev ring_j1_at : List PI := [.c [1, 1, 0], .c [1, 1, 1]]
abbrev ring_j1_st : Sta := ⟨[0], ⟨[.own 0 0], [.segs [.sl (.int .u8), .i .i64, .i .u32]]⟩⟩
abbrev ring_j1_k (N : Nat) : Leaf (Int × List Int × Int × Int) := ⟨ring_j1_at, ring_j1_st, fun p => ring_j1 N p.2.1.1 p.2.1.2.1 p.2.1.2.2.1⟩
theorem ring_j1_eq (N : Nat) (b : List Int) (b2 : Int) (b3 : Int) : ev (Z := Int × List Int × Int × Int) Try.prog (ring_sp N) ring_B [] [] (some ring_rt) 400 true ring_j1_at (stL ring_j1_st (((), ()), ((b, b2, b3, ()), ()))) (stH ring_j1_st (((), ()), ((b, b2, b3, ()), ()))) = ring_j1 N b b2 b3 := by kernel_rfl
theorem ring_j1_lf (N : Nat) {z : Int × List Int × Int × Int} {E : EE} {Xc : Ctx} (hE : EOK ring_B.m0 E) (hX : CxOK true Xc) (hret : RetOK Try.prog ring_B E Xc z (some ring_rt)) : LeafOK Try.prog ring_B.c ring_B.n ring_B.m0 E Xc z (ring_j1_k N) := leaf_of_ev (B := ring_B) (loops := []) (leaves := []) (ring_all N) mixed trivial hE hX trivial hret (fun p => ring_j1_eq N p.2.1.1 p.2.1.2.1 p.2.1.2.2.1)
abbrev ring_st : Sta := ⟨[0], ⟨[.own 0 0], [.segs [.sl (.int .u8), .i .i64, .i .u32]]⟩⟩
theorem ring_eq (N : Nat) (b : List Int) (b2 : Int) (b3 : Int) : ev (Z := Int × List Int × Int × Int) Try.prog (ring_sp N) ring_B [] [ring_j1_k N] (some ring_rt) 400 false [.c [0], .c [1]] (stL ring_st (((), ()), ((b, b2, b3, ()), ()))) (stH ring_st (((), ()), ((b, b2, b3, ()), ()))) = ring_S N b b2 b3 := by kernel_rfl
noncomputable def sp_ring (N : Nat) : Spec := { f := 67, ins := ⟨[.own 0 0], [.segs [.sl (.int .u8), .i .i64, .i .u32]]⟩, outs := [⟨[.i .i64], [.segs [.sl (.int .u8), .i .i64, .i .u32]]⟩], run := fun p k => (ring_S N p.2.1.1 p.2.1.2.1 p.2.1.2.2.1).bind fun r => k ((r.1, ()), ((r.2.1, r.2.2.1, r.2.2.2, ()), ())) }
theorem sp_ring_ok (N : Nat) : SpecOK Try.prog (sp_ring N) := fn_sound (B := ring_B) (loops := []) (leaves := [ring_j1_k N]) (fun p => ring_S N p.2.1.1 p.2.1.2.1 p.2.1.2.2.1) (fun r => ((r.1, ()), ((r.2.1, r.2.2.1, r.2.2.2, ()), ()))) ring_rt (fun _ _ _ => rfl) (fun r z h => by cases h; rfl) Try.func67 (by kernel_rfl) (by kernel_rfl) (by kernel_rfl) rfl rfl (by kernel_rfl) (fun args w => Sem.pv_run _ _ _ (by kernel_rfl) w) (ring_all N) mixed trivial (fun z E Xc hE hX hret => ⟨ring_j1_lf N hE hX hret, trivial⟩) (fun p => ring_eq N p.2.1.1 p.2.1.2.1 p.2.1.2.2.1)

def stroke_S (N : Nat) (n : Int) (b : List Int) (b2 : Int) (b3 : Int) : Option (Int × List Int × Int × Int) :=
  (ring_S N b b2 b3).bind fun (x_1, y_2, y_3, y_4) =>
  chk (n + 1) <|
  grd (!decide ((max 1 (n + 1)) = 0)) <|
  some ((Int.tmod x_1 (max 1 (n + 1))), y_2, y_3, y_4)
noncomputable def stroke_sp (N : Nat) : List Spec := [sp_ring N]
theorem stroke_all (N : Nat) : AllP (SpecOK Try.prog) (stroke_sp N) := ⟨sp_ring_ok N, trivial⟩
noncomputable def stroke_c : Code := (Try.f30.body).getD .skip
noncomputable abbrev stroke_B : Body := { c := stroke_c, n := 11, res := [.tmp 4], outs := [⟨[.i .i64], [.segs [.sl (.int .u8), .i .i64, .i .u32]]⟩], m0 := 1 }
abbrev stroke_rt : altD stroke_B.outs → Option (Int × List Int × Int × Int) := fun r => some (r.1.1, r.2.1.1, r.2.1.2.1, r.2.1.2.2.1)
abbrev stroke_st : Sta := ⟨[0, 1], ⟨[.own 0 0, .i .i64], [.segs [.sl (.int .u8), .i .i64, .i .u32]]⟩⟩
theorem stroke_eq (N : Nat) (n : Int) (b : List Int) (b2 : Int) (b3 : Int) : ev (Z := Int × List Int × Int × Int) Try.prog (stroke_sp N) stroke_B [] [] (some stroke_rt) 400 false [.c [0], .c [1]] (stL stroke_st (((), n, ()), ((b, b2, b3, ()), ()))) (stH stroke_st (((), n, ()), ((b, b2, b3, ()), ()))) = stroke_S N n b b2 b3 := by kernel_rfl
noncomputable def sp_stroke (N : Nat) : Spec := { f := 30, ins := ⟨[.own 0 0, .i .i64], [.segs [.sl (.int .u8), .i .i64, .i .u32]]⟩, outs := [⟨[.i .i64], [.segs [.sl (.int .u8), .i .i64, .i .u32]]⟩], run := fun p k => (stroke_S N p.1.2.1 p.2.1.1 p.2.1.2.1 p.2.1.2.2.1).bind fun r => k ((r.1, ()), ((r.2.1, r.2.2.1, r.2.2.2, ()), ())) }
theorem sp_stroke_ok (N : Nat) : SpecOK Try.prog (sp_stroke N) := fn_sound (B := stroke_B) (loops := []) (leaves := []) (fun p => stroke_S N p.1.2.1 p.2.1.1 p.2.1.2.1 p.2.1.2.2.1) (fun r => ((r.1, ()), ((r.2.1, r.2.2.1, r.2.2.2, ()), ()))) stroke_rt (fun _ _ _ => rfl) (fun r z h => by cases h; rfl) Try.func30 (by kernel_rfl) (by kernel_rfl) (by kernel_rfl) rfl rfl (by kernel_rfl) (fun args w => Sem.pv_run _ _ _ (by kernel_rfl) w) (stroke_all N) mixed trivial (fun z E Xc hE hX hret => trivial) (fun p => stroke_eq N p.1.2.1 p.2.1.1 p.2.1.2.1 p.2.1.2.2.1)

def strike_S (N : Nat) (lo : Int) (hi : Int) (b : List Int) (b2 : Int) (b3 : Int) : Option (Int × List Int × Int × Int) :=
  chk (hi - lo) <|
  (stroke_S N (hi - lo) b b2 b3).bind fun (x_1, y_2, y_3, y_4) =>
  chk (lo + x_1) <|
  some ((lo + x_1), y_2, y_3, y_4)
noncomputable def strike_sp (N : Nat) : List Spec := [sp_stroke N]
theorem strike_all (N : Nat) : AllP (SpecOK Try.prog) (strike_sp N) := ⟨sp_stroke_ok N, trivial⟩
noncomputable def strike_c : Code := (Try.f31.body).getD .skip
noncomputable abbrev strike_B : Body := { c := strike_c, n := 14, res := [.tmp 6], outs := [⟨[.i .i64], [.segs [.sl (.int .u8), .i .i64, .i .u32]]⟩], m0 := 1 }
abbrev strike_rt : altD strike_B.outs → Option (Int × List Int × Int × Int) := fun r => some (r.1.1, r.2.1.1, r.2.1.2.1, r.2.1.2.2.1)
abbrev strike_st : Sta := ⟨[0, 1, 2], ⟨[.own 0 0, .i .i64, .i .i64], [.segs [.sl (.int .u8), .i .i64, .i .u32]]⟩⟩
theorem strike_eq (N : Nat) (lo : Int) (hi : Int) (b : List Int) (b2 : Int) (b3 : Int) : ev (Z := Int × List Int × Int × Int) Try.prog (strike_sp N) strike_B [] [] (some strike_rt) 400 false [.c [0], .c [1]] (stL strike_st (((), lo, hi, ()), ((b, b2, b3, ()), ()))) (stH strike_st (((), lo, hi, ()), ((b, b2, b3, ()), ()))) = strike_S N lo hi b b2 b3 := by kernel_rfl
noncomputable def sp_strike (N : Nat) : Spec := { f := 31, ins := ⟨[.own 0 0, .i .i64, .i .i64], [.segs [.sl (.int .u8), .i .i64, .i .u32]]⟩, outs := [⟨[.i .i64], [.segs [.sl (.int .u8), .i .i64, .i .u32]]⟩], run := fun p k => (strike_S N p.1.2.1 p.1.2.2.1 p.2.1.1 p.2.1.2.1 p.2.1.2.2.1).bind fun r => k ((r.1, ()), ((r.2.1, r.2.2.1, r.2.2.2, ()), ())) }
theorem sp_strike_ok (N : Nat) : SpecOK Try.prog (sp_strike N) := fn_sound (B := strike_B) (loops := []) (leaves := []) (fun p => strike_S N p.1.2.1 p.1.2.2.1 p.2.1.1 p.2.1.2.1 p.2.1.2.2.1) (fun r => ((r.1, ()), ((r.2.1, r.2.2.1, r.2.2.2, ()), ()))) strike_rt (fun _ _ _ => rfl) (fun r z h => by cases h; rfl) Try.func31 (by kernel_rfl) (by kernel_rfl) (by kernel_rfl) rfl rfl (by kernel_rfl) (fun args w => Sem.pv_run _ _ _ (by kernel_rfl) w) (strike_all N) mixed trivial (fun z E Xc hE hX hret => trivial) (fun p => strike_eq N p.1.2.1 p.1.2.2.1 p.2.1.1 p.2.1.2.1 p.2.1.2.2.1)

def seldom_S (N : Nat) (n : Int) (b : List Int) (b2 : Int) (b3 : Int) : Option (Bool × List Int × Int × Int) :=
  chk (n - 1) <|
  (stroke_S N (n - 1) b b2 b3).bind fun (x_1, y_2, y_3, y_4) =>
  some ((decide (x_1 = 0)), y_2, y_3, y_4)
noncomputable def seldom_sp (N : Nat) : List Spec := [sp_stroke N]
theorem seldom_all (N : Nat) : AllP (SpecOK Try.prog) (seldom_sp N) := ⟨sp_stroke_ok N, trivial⟩
noncomputable def seldom_c : Code := (Try.f18.body).getD .skip
noncomputable abbrev seldom_B : Body := { c := seldom_c, n := 10, res := [.tmp 4], outs := [⟨[.b], [.segs [.sl (.int .u8), .i .i64, .i .u32]]⟩], m0 := 1 }
abbrev seldom_rt : altD seldom_B.outs → Option (Bool × List Int × Int × Int) := fun r => some (r.1.1, r.2.1.1, r.2.1.2.1, r.2.1.2.2.1)
abbrev seldom_st : Sta := ⟨[0, 1], ⟨[.own 0 0, .i .i64], [.segs [.sl (.int .u8), .i .i64, .i .u32]]⟩⟩
theorem seldom_eq (N : Nat) (n : Int) (b : List Int) (b2 : Int) (b3 : Int) : ev (Z := Bool × List Int × Int × Int) Try.prog (seldom_sp N) seldom_B [] [] (some seldom_rt) 400 false [.c [0], .c [1]] (stL seldom_st (((), n, ()), ((b, b2, b3, ()), ()))) (stH seldom_st (((), n, ()), ((b, b2, b3, ()), ()))) = seldom_S N n b b2 b3 := by kernel_rfl
noncomputable def sp_seldom (N : Nat) : Spec := { f := 18, ins := ⟨[.own 0 0, .i .i64], [.segs [.sl (.int .u8), .i .i64, .i .u32]]⟩, outs := [⟨[.b], [.segs [.sl (.int .u8), .i .i64, .i .u32]]⟩], run := fun p k => (seldom_S N p.1.2.1 p.2.1.1 p.2.1.2.1 p.2.1.2.2.1).bind fun r => k ((r.1, ()), ((r.2.1, r.2.2.1, r.2.2.2, ()), ())) }
theorem sp_seldom_ok (N : Nat) : SpecOK Try.prog (sp_seldom N) := fn_sound (B := seldom_B) (loops := []) (leaves := []) (fun p => seldom_S N p.1.2.1 p.2.1.1 p.2.1.2.1 p.2.1.2.2.1) (fun r => ((r.1, ()), ((r.2.1, r.2.2.1, r.2.2.2, ()), ()))) seldom_rt (fun _ _ _ => rfl) (fun r z h => by cases h; rfl) Try.func18 (by kernel_rfl) (by kernel_rfl) (by kernel_rfl) rfl rfl (by kernel_rfl) (fun args w => Sem.pv_run _ _ _ (by kernel_rfl) w) (seldom_all N) mixed trivial (fun z E Xc hE hX hret => trivial) (fun p => seldom_eq N p.1.2.1 p.2.1.1 p.2.1.2.1 p.2.1.2.2.1)

def hang_S (N : Nat) (metal : List Int) : Option (List Int × Int × Int) :=
  some (metal, 0, 0)
noncomputable def hang_sp (N : Nat) : List Spec := []
theorem hang_all (N : Nat) : AllP (SpecOK Try.prog) (hang_sp N) := trivial
noncomputable def hang_c : Code := (Try.f8.body).getD .skip
noncomputable abbrev hang_B : Body := { c := hang_c, n := 6, res := [.tmp 2], outs := [⟨[.own 0 0], [.segs [.sl (.int .u8), .i .i64, .i .u32]]⟩], m0 := 0 }
abbrev hang_rt : altD hang_B.outs → Option (List Int × Int × Int) := fun r => some (r.2.1.1, r.2.1.2.1, r.2.1.2.2.1)
abbrev hang_st : Sta := ⟨[0], ⟨[.sl (.int .u8)], []⟩⟩
theorem hang_eq (N : Nat) (metal : List Int) : ev (Z := List Int × Int × Int) Try.prog (hang_sp N) hang_B [] [] (some hang_rt) 400 false [.c [0], .c [1]] (stL hang_st ((metal, ()), ())) (stH hang_st ((metal, ()), ())) = hang_S N metal := by kernel_rfl
noncomputable def sp_hang (N : Nat) : Spec := { f := 8, ins := ⟨[.sl (.int .u8)], []⟩, outs := [⟨[.own 0 0], [.segs [.sl (.int .u8), .i .i64, .i .u32]]⟩], run := fun p k => (hang_S N p.1.1).bind fun r => k (((), ()), ((r.1, r.2.1, r.2.2, ()), ())) }
theorem sp_hang_ok (N : Nat) : SpecOK Try.prog (sp_hang N) := fn_sound (B := hang_B) (loops := []) (leaves := []) (fun p => hang_S N p.1.1) (fun r => (((), ()), ((r.1, r.2.1, r.2.2, ()), ()))) hang_rt (fun _ _ _ => rfl) (fun r z h => by cases h; rfl) Try.func8 (by kernel_rfl) (by kernel_rfl) (by kernel_rfl) rfl rfl (by kernel_rfl) (fun args w => Sem.pv_run _ _ _ (by kernel_rfl) w) (hang_all N) mixed trivial (fun z E Xc hE hX hret => trivial) (fun p => hang_eq N p.1.1)

def indexi_l1 (N : Nat) : Nat → Qe → Int → Int → Int → Option ((Int) ⊕ (Unit))
  | 0, _, _, _, _ => none
  | n_ + 1, s, v, u, u2 =>
    br (decide (u2 < u))
      (idx s u2 fun x_1 =>
      br (decide (v = x_1))
        (some (.inl u2))
        (chk (u2 + 1) <|
        indexi_l1 N n_ s v u (u2 + 1)))
      (some (.inr ()))
def indexi_S (N : Nat) (s : List Int) (v : Int) : Option Int :=
  (indexi_l1 N N s v (s.length : Int) 0).bind fun e => match e with
  | .inl i_2 =>
    some i_2
  | .inr _ =>
    some (-1)
noncomputable def indexi_sp (N : Nat) : List Spec := []
theorem indexi_all (N : Nat) : AllP (SpecOK Try.prog) (indexi_sp N) := trivial
noncomputable def indexi_c : Code := (Try.f41.body).getD .skip
noncomputable abbrev indexi_B : Body := { c := indexi_c, n := 19, res := [.tmp 4], outs := [⟨[.i .i64], []⟩], m0 := 0 }
abbrev indexi_rt : altD indexi_B.outs → Option Int := fun r => some r.1.1
abbrev indexi_l1_at : List PI := [.c [1, 0, 1, 0, 0, 0], .c [1, 0, 1, 0, 0, 1], .l [1, 0, 1, 0, 0], .b 0, .c [1, 1]]
abbrev indexi_l1_st : Sta := ⟨[0, 1, 7, 8], ⟨[.sl (.int .i64), .i .i64, .i .i64, .i .i64], []⟩⟩
abbrev indexi_l1_h (rec : Qe → Int → Int → Int → Option ((Int) ⊕ (Unit))) : Leaf ((Int) ⊕ (Unit)) := ⟨indexi_l1_at, indexi_l1_st, fun p => rec p.1.1 p.1.2.1 p.1.2.2.1 p.1.2.2.2.1⟩
abbrev indexi_l1_e0 : Leaf ((Int) ⊕ (Unit)) := ⟨[.c [1, 0, 1, 0, 0, 1, 1, 0, 0, 1, 1, 0, 0], .c [1, 0, 1, 0, 0, 1, 1, 0, 0, 1, 1, 0, 1], .b 1, .c [1, 0, 1, 0, 0, 1, 1, 1], .l [1, 0, 1, 0, 0], .b 0, .c [1, 1]], ⟨[5], ⟨[.i .i64], []⟩⟩, fun p => some (.inl p.1.1)⟩
abbrev indexi_l1_e1 : Leaf ((Int) ⊕ (Unit)) := ⟨[.c [1, 1, 0], .c [1, 1, 1]], ⟨[], ⟨[], []⟩⟩, fun p => some (.inr ())⟩
noncomputable def indexi_l1_L (N : Nat) : LoopS := { at_ := indexi_l1_at, sta := indexi_l1_st, exits := [([.c [1, 0, 1, 0, 0, 1, 1, 0, 0, 1, 1, 0, 0], .c [1, 0, 1, 0, 0, 1, 1, 0, 0, 1, 1, 0, 1], .b 1, .c [1, 0, 1, 0, 0, 1, 1, 1], .l [1, 0, 1, 0, 0], .b 0, .c [1, 1]], ⟨[5], ⟨[.i .i64], []⟩⟩), ([.c [1, 1, 0], .c [1, 1, 1]], ⟨[], ⟨[], []⟩⟩)], run := fun p k => (indexi_l1 N N p.1.1 p.1.2.1 p.1.2.2.1 p.1.2.2.2.1).bind fun e => match e with | .inl x => k (.inl ((x, ()), ())) | .inr x => k (.inr (.inl ((), ()))) }
theorem indexi_l1_eq (N n_ : Nat) (s : List Int) (v : Int) (u : Int) (u2 : Int) : ev (Z := (Int) ⊕ (Unit)) Try.prog (indexi_sp N) indexi_B [] [indexi_l1_h (indexi_l1 N n_), indexi_l1_e0, indexi_l1_e1] none 400 true indexi_l1_at (stL indexi_l1_st ((s, v, u, u2, ()), ())) (stH indexi_l1_st ((s, v, u, u2, ()), ())) = indexi_l1 N (n_ + 1) s v u u2 := by kernel_rfl
theorem indexi_l1_ok (N : Nat) {top : Bool} : LoopOK Try.prog indexi_B.c indexi_B.n indexi_B.m0 top (indexi_l1_L N) := loop_of_ev (Z := (Int) ⊕ (Unit)) (N := N) (fun m p => indexi_l1 N m p.1.1 p.1.2.1 p.1.2.2.1 p.1.2.2.2.1) (fun e => match e with | .inl x => .inl ((x, ()), ()) | .inr x => .inr (.inl ((), ()))) (fun _ p k => bind_congr_ (indexi_l1 N N p.1.1 p.1.2.1 p.1.2.2.1 p.1.2.2.2.1) _ _ (fun e => by rcases e with x | x <;> rfl)) (fun _ => rfl) (fun m z E Xc hE hX hrec hx => leaf_of_ev (B := indexi_B) (loops := []) (leaves := [indexi_l1_h (indexi_l1 N m), indexi_l1_e0, indexi_l1_e1]) (indexi_all N) mixed trivial hE hX ⟨hrec, (fun p hp => by obtain rfl := Option.some.inj hp; exact hx), (fun p hp => by obtain rfl := Option.some.inj hp; exact hx), trivial⟩ RetOK.no (fun p => indexi_l1_eq N m p.1.1 p.1.2.1 p.1.2.2.1 p.1.2.2.2.1))
abbrev indexi_st : Sta := ⟨[0, 1], ⟨[.sl (.int .i64), .i .i64], []⟩⟩
theorem indexi_eq (N : Nat) (s : List Int) (v : Int) : ev (Z := Int) Try.prog (indexi_sp N) indexi_B [indexi_l1_L N] [] (some indexi_rt) 400 false [.c [0], .c [1]] (stL indexi_st ((s, v, ()), ())) (stH indexi_st ((s, v, ()), ())) = indexi_S N s v := by kernel_rfl
noncomputable def sp_indexi (N : Nat) : Spec := { f := 41, ins := ⟨[.sl (.int .i64), .i .i64], []⟩, outs := [⟨[.i .i64], []⟩], run := fun p k => (indexi_S N p.1.1 p.1.2.1).bind fun r => k ((r, ()), ()) }
theorem sp_indexi_ok (N : Nat) : SpecOK Try.prog (sp_indexi N) := fn_sound (B := indexi_B) (loops := [indexi_l1_L N]) (leaves := []) (fun p => indexi_S N p.1.1 p.1.2.1) (fun r => ((r, ()), ())) indexi_rt (fun _ _ _ => rfl) (fun r z h => by cases h; rfl) Try.func41 (by kernel_rfl) (by kernel_rfl) (by kernel_rfl) rfl rfl (by kernel_rfl) (fun args w => Sem.pv_run _ _ _ (by kernel_rfl) w) (indexi_all N) mixed ⟨indexi_l1_ok N, trivial⟩ (fun z E Xc hE hX hret => trivial) (fun p => indexi_eq N p.1.1 p.1.2.1)

def containsi_S (N : Nat) (s : List Int) (v : Int) : Option Bool :=
  (indexi_S N s v).bind fun x_1 =>
  some (decide (0 ≤ x_1))
noncomputable def containsi_sp (N : Nat) : List Spec := [sp_indexi N]
theorem containsi_all (N : Nat) : AllP (SpecOK Try.prog) (containsi_sp N) := ⟨sp_indexi_ok N, trivial⟩
noncomputable def containsi_c : Code := (Try.f14.body).getD .skip
noncomputable abbrev containsi_B : Body := { c := containsi_c, n := 9, res := [.tmp 4], outs := [⟨[.b], []⟩], m0 := 0 }
abbrev containsi_rt : altD containsi_B.outs → Option Bool := fun r => some r.1.1
abbrev containsi_st : Sta := ⟨[0, 1], ⟨[.sl (.int .i64), .i .i64], []⟩⟩
theorem containsi_eq (N : Nat) (s : List Int) (v : Int) : ev (Z := Bool) Try.prog (containsi_sp N) containsi_B [] [] (some containsi_rt) 400 false [.c [0], .c [1]] (stL containsi_st ((s, v, ()), ())) (stH containsi_st ((s, v, ()), ())) = containsi_S N s v := by kernel_rfl
noncomputable def sp_containsi (N : Nat) : Spec := { f := 14, ins := ⟨[.sl (.int .i64), .i .i64], []⟩, outs := [⟨[.b], []⟩], run := fun p k => (containsi_S N p.1.1 p.1.2.1).bind fun r => k ((r, ()), ()) }
theorem sp_containsi_ok (N : Nat) : SpecOK Try.prog (sp_containsi N) := fn_sound (B := containsi_B) (loops := []) (leaves := []) (fun p => containsi_S N p.1.1 p.1.2.1) (fun r => ((r, ()), ())) containsi_rt (fun _ _ _ => rfl) (fun r z h => by cases h; rfl) Try.func14 (by kernel_rfl) (by kernel_rfl) (by kernel_rfl) rfl rfl (by kernel_rfl) (fun args w => Sem.pv_run _ _ _ (by kernel_rfl) w) (containsi_all N) mixed trivial (fun z E Xc hE hX hret => trivial) (fun p => containsi_eq N p.1.1 p.1.2.1)

def equals_l1 (N : Nat) : Nat → Qe → Qe → Int → Int → Option ((Unit) ⊕ (Unit))
  | 0, _, _, _, _ => none
  | n_ + 1, s1, s2, u, u2 =>
    br (decide (u2 < u))
      (idx s1 u2 fun x_1 =>
      idx s2 u2 fun x_2 =>
      br (!decide (x_1 = x_2))
        (some (.inl ()))
        (chk (u2 + 1) <|
        equals_l1 N n_ s1 s2 u (u2 + 1)))
      (some (.inr ()))
def equals_S (N : Nat) (s1 : List Int) (s2 : List Int) : Option Bool :=
  br (!decide ((s1.length : Int) = (s2.length : Int)))
    (some false)
    ((equals_l1 N N s1 s2 (s1.length : Int) 0).bind fun e => match e with
    | .inl _ =>
      some false
    | .inr _ =>
      some true)
noncomputable def equals_sp (N : Nat) : List Spec := []
theorem equals_all (N : Nat) : AllP (SpecOK Try.prog) (equals_sp N) := trivial
noncomputable def equals_c : Code := (Try.f53.body).getD .skip
noncomputable abbrev equals_B : Body := { c := equals_c, n := 26, res := [.tmp 4], outs := [⟨[.b], []⟩], m0 := 0 }
abbrev equals_rt : altD equals_B.outs → Option Bool := fun r => some r.1.1
abbrev equals_l1_at : List PI := [.c [1, 1, 0, 1, 0, 0, 0], .c [1, 1, 0, 1, 0, 0, 1], .l [1, 1, 0, 1, 0, 0], .b 0, .c [1, 1, 1]]
abbrev equals_l1_st : Sta := ⟨[0, 1, 12, 13], ⟨[.sl (.int .i64), .sl (.int .i64), .i .i64, .i .i64], []⟩⟩
abbrev equals_l1_h (rec : Qe → Qe → Int → Int → Option ((Unit) ⊕ (Unit))) : Leaf ((Unit) ⊕ (Unit)) := ⟨equals_l1_at, equals_l1_st, fun p => rec p.1.1 p.1.2.1 p.1.2.2.1 p.1.2.2.2.1⟩
abbrev equals_l1_e0 : Leaf ((Unit) ⊕ (Unit)) := ⟨[.c [1, 1, 0, 1, 0, 0, 1, 1, 0, 0, 1, 1, 0, 0], .c [1, 1, 0, 1, 0, 0, 1, 1, 0, 0, 1, 1, 0, 1], .b 1, .c [1, 1, 0, 1, 0, 0, 1, 1, 1], .l [1, 1, 0, 1, 0, 0], .b 0, .c [1, 1, 1]], ⟨[], ⟨[], []⟩⟩, fun p => some (.inl ())⟩
abbrev equals_l1_e1 : Leaf ((Unit) ⊕ (Unit)) := ⟨[.c [1, 1, 1, 0], .c [1, 1, 1, 1]], ⟨[], ⟨[], []⟩⟩, fun p => some (.inr ())⟩
noncomputable def equals_l1_L (N : Nat) : LoopS := { at_ := equals_l1_at, sta := equals_l1_st, exits := [([.c [1, 1, 0, 1, 0, 0, 1, 1, 0, 0, 1, 1, 0, 0], .c [1, 1, 0, 1, 0, 0, 1, 1, 0, 0, 1, 1, 0, 1], .b 1, .c [1, 1, 0, 1, 0, 0, 1, 1, 1], .l [1, 1, 0, 1, 0, 0], .b 0, .c [1, 1, 1]], ⟨[], ⟨[], []⟩⟩), ([.c [1, 1, 1, 0], .c [1, 1, 1, 1]], ⟨[], ⟨[], []⟩⟩)], run := fun p k => (equals_l1 N N p.1.1 p.1.2.1 p.1.2.2.1 p.1.2.2.2.1).bind fun e => match e with | .inl x => k (.inl ((), ())) | .inr x => k (.inr (.inl ((), ()))) }
theorem equals_l1_eq (N n_ : Nat) (s1 : List Int) (s2 : List Int) (u : Int) (u2 : Int) : ev (Z := (Unit) ⊕ (Unit)) Try.prog (equals_sp N) equals_B [] [equals_l1_h (equals_l1 N n_), equals_l1_e0, equals_l1_e1] none 400 true equals_l1_at (stL equals_l1_st ((s1, s2, u, u2, ()), ())) (stH equals_l1_st ((s1, s2, u, u2, ()), ())) = equals_l1 N (n_ + 1) s1 s2 u u2 := by kernel_rfl
theorem equals_l1_ok (N : Nat) {top : Bool} : LoopOK Try.prog equals_B.c equals_B.n equals_B.m0 top (equals_l1_L N) := loop_of_ev (Z := (Unit) ⊕ (Unit)) (N := N) (fun m p => equals_l1 N m p.1.1 p.1.2.1 p.1.2.2.1 p.1.2.2.2.1) (fun e => match e with | .inl x => .inl ((), ()) | .inr x => .inr (.inl ((), ()))) (fun _ p k => bind_congr_ (equals_l1 N N p.1.1 p.1.2.1 p.1.2.2.1 p.1.2.2.2.1) _ _ (fun e => by rcases e with x | x <;> rfl)) (fun _ => rfl) (fun m z E Xc hE hX hrec hx => leaf_of_ev (B := equals_B) (loops := []) (leaves := [equals_l1_h (equals_l1 N m), equals_l1_e0, equals_l1_e1]) (equals_all N) mixed trivial hE hX ⟨hrec, (fun p hp => by obtain rfl := Option.some.inj hp; exact hx), (fun p hp => by obtain rfl := Option.some.inj hp; exact hx), trivial⟩ RetOK.no (fun p => equals_l1_eq N m p.1.1 p.1.2.1 p.1.2.2.1 p.1.2.2.2.1))
abbrev equals_st : Sta := ⟨[0, 1], ⟨[.sl (.int .i64), .sl (.int .i64)], []⟩⟩
theorem equals_eq (N : Nat) (s1 : List Int) (s2 : List Int) : ev (Z := Bool) Try.prog (equals_sp N) equals_B [equals_l1_L N] [] (some equals_rt) 400 false [.c [0], .c [1]] (stL equals_st ((s1, s2, ()), ())) (stH equals_st ((s1, s2, ()), ())) = equals_S N s1 s2 := by kernel_rfl
noncomputable def sp_equals (N : Nat) : Spec := { f := 53, ins := ⟨[.sl (.int .i64), .sl (.int .i64)], []⟩, outs := [⟨[.b], []⟩], run := fun p k => (equals_S N p.1.1 p.1.2.1).bind fun r => k ((r, ()), ()) }
theorem sp_equals_ok (N : Nat) : SpecOK Try.prog (sp_equals N) := fn_sound (B := equals_B) (loops := [equals_l1_L N]) (leaves := []) (fun p => equals_S N p.1.1 p.1.2.1) (fun r => ((r, ()), ())) equals_rt (fun _ _ _ => rfl) (fun r z h => by cases h; rfl) Try.func53 (by kernel_rfl) (by kernel_rfl) (by kernel_rfl) rfl rfl (by kernel_rfl) (fun args w => Sem.pv_run _ _ _ (by kernel_rfl) w) (equals_all N) mixed ⟨equals_l1_ok N, trivial⟩ (fun z E Xc hE hX hret => trivial) (fun p => equals_eq N p.1.1 p.1.2.1)

def likes_S (N : Nat) (a : List Int) (b : List Int) : Option Bool :=
  (equals_S N a b).bind fun x_1 =>
  some x_1
noncomputable def likes_sp (N : Nat) : List Spec := [sp_equals N]
theorem likes_all (N : Nat) : AllP (SpecOK Try.prog) (likes_sp N) := ⟨sp_equals_ok N, trivial⟩
noncomputable def likes_c : Code := (Try.f22.body).getD .skip
noncomputable abbrev likes_B : Body := { c := likes_c, n := 8, res := [.tmp 4], outs := [⟨[.b], []⟩], m0 := 0 }
abbrev likes_rt : altD likes_B.outs → Option Bool := fun r => some r.1.1
abbrev likes_st : Sta := ⟨[0, 1], ⟨[.sl (.int .i64), .sl (.int .i64)], []⟩⟩
theorem likes_eq (N : Nat) (a : List Int) (b : List Int) : ev (Z := Bool) Try.prog (likes_sp N) likes_B [] [] (some likes_rt) 400 false [.c [0], .c [1]] (stL likes_st ((a, b, ()), ())) (stH likes_st ((a, b, ()), ())) = likes_S N a b := by kernel_rfl
noncomputable def sp_likes (N : Nat) : Spec := { f := 22, ins := ⟨[.sl (.int .i64), .sl (.int .i64)], []⟩, outs := [⟨[.b], []⟩], run := fun p k => (likes_S N p.1.1 p.1.2.1).bind fun r => k ((r, ()), ()) }
theorem sp_likes_ok (N : Nat) : SpecOK Try.prog (sp_likes N) := fn_sound (B := likes_B) (loops := []) (leaves := []) (fun p => likes_S N p.1.1 p.1.2.1) (fun r => ((r, ()), ())) likes_rt (fun _ _ _ => rfl) (fun r z h => by cases h; rfl) Try.func22 (by kernel_rfl) (by kernel_rfl) (by kernel_rfl) rfl rfl (by kernel_rfl) (fun args w => Sem.pv_run _ _ _ (by kernel_rfl) w) (likes_all N) mixed trivial (fun z E Xc hE hX hret => trivial) (fun p => likes_eq N p.1.1 p.1.2.1)

/-- A sign: slices that are made hold parts of one's own. -/
noncomputable def sp_rowon1 (_ : Nat) : Spec := { f := 14, ins := ⟨[.undef], []⟩, outs := [], run := fun _ _ => none }
theorem sp_rowon1_ok (N : Nat) : SpecOK Try.prog (sp_rowon1 N) := ⟨fun _ _ _ => rfl, (sp_containsi_ok N).call, fun _ _ h => by cases h⟩
end Go.Proofs.Ytgeijboidfadaaa

namespace Go.Proofs.Ytgeijboidfadaaa
set_option linter.all false
open Go

def in__S (N : Nat) (n : Int) (lo : Int) (hi : Int) : Option Bool :=
  br (decide (lo ≤ n))
    (some (decide (n ≤ hi)))
    (some false)
noncomputable def in__sp (N : Nat) : List Spec := []
theorem in__all (N : Nat) : AllP (SpecOK Try.prog) (in__sp N) := trivial
noncomputable def in__c : Code := (Try.f109.body).getD .skip
noncomputable abbrev in__B : Body := { c := in__c, n := 15, res := [.tmp 6], outs := [⟨[.b], []⟩], m0 := 0 }
abbrev in__rt : altD in__B.outs → Option Bool := fun r => some r.1.1
abbrev in__st : Sta := ⟨[0, 1, 2], ⟨[.i .i64, .i .i64, .i .i64], []⟩⟩
theorem in__eq (N : Nat) (n : Int) (lo : Int) (hi : Int) : ev (Z := Bool) Try.prog (in__sp N) in__B [] [] (some in__rt) 400 false [.c [0], .c [1]] (stL in__st ((n, lo, hi, ()), ())) (stH in__st ((n, lo, hi, ()), ())) = in__S N n lo hi := by kernel_rfl
noncomputable def sp_in_ (N : Nat) : Spec := { f := 109, ins := ⟨[.i .i64, .i .i64, .i .i64], []⟩, outs := [⟨[.b], []⟩], run := fun p k => (in__S N p.1.1 p.1.2.1 p.1.2.2.1).bind fun r => k ((r, ()), ()) }
theorem sp_in__ok (N : Nat) : SpecOK Try.prog (sp_in_ N) := fn_sound (B := in__B) (loops := []) (leaves := []) (fun p => in__S N p.1.1 p.1.2.1 p.1.2.2.1) (fun r => ((r, ()), ())) in__rt (fun _ _ _ => rfl) (fun r z h => by cases h; rfl) Try.func109 (by kernel_rfl) (by kernel_rfl) (by kernel_rfl) rfl rfl (by kernel_rfl) (fun args w => Sem.pv_run _ _ _ (by kernel_rfl) w) (in__all N) mixed trivial (fun z E Xc hE hX hret => trivial) (fun p => in__eq N p.1.1 p.1.2.1 p.1.2.2.1)

def most_l1 (N : Nat) : Nat → Int → Qe → Int → Int → Option Int
  | 0, _, _, _, _ => none
  | n_ + 1, n, u, u2, u3 =>
    br (decide (u3 < u2))
      (idx u u3 fun x_1 =>
      chk (u3 + 1) <|
      most_l1 N n_ (max n x_1) u u2 (u3 + 1))
      (some (n))
def most_S (N : Nat) (n : Int) (l : List Int) : Option Int :=
  (most_l1 N N n l (l.length : Int) 0).bind fun n_2 =>
  some n_2
noncomputable def most_sp (N : Nat) : List Spec := []
theorem most_all (N : Nat) : AllP (SpecOK Try.prog) (most_sp N) := trivial
noncomputable def most_c : Code := (Try.f74.body).getD .skip
noncomputable abbrev most_B : Body := { c := most_c, n := 18, res := [.tmp 4], outs := [⟨[.i .i64], []⟩], m0 := 0 }
abbrev most_rt : altD most_B.outs → Option Int := fun r => some r.1.1
abbrev most_l1_at : List PI := [.c [1, 0, 1, 0, 0, 0], .c [1, 0, 1, 0, 0, 1], .l [1, 0, 1, 0, 0], .b 0, .c [1, 1]]
abbrev most_l1_st : Sta := ⟨[0, 7, 8, 9], ⟨[.i .i64, .sl (.int .i64), .i .i64, .i .i64], []⟩⟩
abbrev most_l1_h (rec : Int → Qe → Int → Int → Option Int) : Leaf Int := ⟨most_l1_at, most_l1_st, fun p => rec p.1.1 p.1.2.1 p.1.2.2.1 p.1.2.2.2.1⟩
abbrev most_l1_e0 : Leaf Int := ⟨[.c [1, 1, 0], .c [1, 1, 1]], ⟨[0], ⟨[.i .i64], []⟩⟩, fun p => some (p.1.1)⟩
noncomputable def most_l1_L (N : Nat) : LoopS := { at_ := most_l1_at, sta := most_l1_st, exits := [([.c [1, 1, 0], .c [1, 1, 1]], ⟨[0], ⟨[.i .i64], []⟩⟩)], run := fun p k => (most_l1 N N p.1.1 p.1.2.1 p.1.2.2.1 p.1.2.2.2.1).bind fun e => k (.inl ((e, ()), ())) }
theorem most_l1_eq (N n_ : Nat) (n : Int) (u : List Int) (u2 : Int) (u3 : Int) : ev (Z := Int) Try.prog (most_sp N) most_B [] [most_l1_h (most_l1 N n_), most_l1_e0] none 400 true most_l1_at (stL most_l1_st ((n, u, u2, u3, ()), ())) (stH most_l1_st ((n, u, u2, u3, ()), ())) = most_l1 N (n_ + 1) n u u2 u3 := by kernel_rfl
theorem most_l1_ok (N : Nat) {top : Bool} : LoopOK Try.prog most_B.c most_B.n most_B.m0 top (most_l1_L N) := loop_of_ev (Z := Int) (N := N) (fun m p => most_l1 N m p.1.1 p.1.2.1 p.1.2.2.1 p.1.2.2.2.1) (fun e => .inl ((e, ()), ())) (fun _ _ _ => rfl) (fun _ => rfl) (fun m z E Xc hE hX hrec hx => leaf_of_ev (B := most_B) (loops := []) (leaves := [most_l1_h (most_l1 N m), most_l1_e0]) (most_all N) mixed trivial hE hX ⟨hrec, (fun p hp => by obtain rfl := Option.some.inj hp; exact hx), trivial⟩ RetOK.no (fun p => most_l1_eq N m p.1.1 p.1.2.1 p.1.2.2.1 p.1.2.2.2.1))
abbrev most_st : Sta := ⟨[0, 1], ⟨[.i .i64, .sl (.int .i64)], []⟩⟩
theorem most_eq (N : Nat) (n : Int) (l : List Int) : ev (Z := Int) Try.prog (most_sp N) most_B [most_l1_L N] [] (some most_rt) 400 false [.c [0], .c [1]] (stL most_st ((n, l, ()), ())) (stH most_st ((n, l, ()), ())) = most_S N n l := by kernel_rfl
noncomputable def sp_most (N : Nat) : Spec := { f := 74, ins := ⟨[.i .i64, .sl (.int .i64)], []⟩, outs := [⟨[.i .i64], []⟩], run := fun p k => (most_S N p.1.1 p.1.2.1).bind fun r => k ((r, ()), ()) }
theorem sp_most_ok (N : Nat) : SpecOK Try.prog (sp_most N) := fn_sound (B := most_B) (loops := [most_l1_L N]) (leaves := []) (fun p => most_S N p.1.1 p.1.2.1) (fun r => ((r, ()), ())) most_rt (fun _ _ _ => rfl) (fun r z h => by cases h; rfl) Try.func74 (by kernel_rfl) (by kernel_rfl) (by kernel_rfl) rfl rfl (by kernel_rfl) (fun args w => Sem.pv_run _ _ _ (by kernel_rfl) w) (most_all N) mixed ⟨most_l1_ok N, trivial⟩ (fun z E Xc hE hX hret => trivial) (fun p => most_eq N p.1.1 p.1.2.1)

def text_S (N : Nat) (e_ : List Qe) (e_2 : List Int) (e_3 : Int) (n : Int) : Option Bool :=
  chk ((e_.length : Int) - 1) <|
  (in__S N n 0 ((e_.length : Int) - 1)).bind fun x_1 =>
  some x_1
noncomputable def text_sp (N : Nat) : List Spec := [sp_in_ N]
theorem text_all (N : Nat) : AllP (SpecOK Try.prog) (text_sp N) := ⟨sp_in__ok N, trivial⟩
noncomputable def text_c : Code := (Try.f73.body).getD .skip
noncomputable abbrev text_B : Body := { c := text_c, n := 11, res := [.tmp 4], outs := [⟨[.b], []⟩], m0 := 0 }
abbrev text_rt : altD text_B.outs → Option Bool := fun r => some r.1.1
abbrev text_st : Sta := ⟨[0, 1], ⟨[.agg [.sl Qd, .sl (.int .i64), .i .i64], .i .i64], []⟩⟩
theorem text_eq (N : Nat) (e_ : List Qe) (e_2 : List Int) (e_3 : Int) (n : Int) : ev (Z := Bool) Try.prog (text_sp N) text_B [] [] (some text_rt) 400 false [.c [0], .c [1]] (stL text_st (((e_, e_2, e_3, ()), n, ()), ())) (stH text_st (((e_, e_2, e_3, ()), n, ()), ())) = text_S N e_ e_2 e_3 n := by kernel_rfl
noncomputable def sp_text (N : Nat) : Spec := { f := 73, ins := ⟨[.agg [.sl Qd, .sl (.int .i64), .i .i64], .i .i64], []⟩, outs := [⟨[.b], []⟩], run := fun p k => (text_S N p.1.1.1 p.1.1.2.1 p.1.1.2.2.1 p.1.2.1).bind fun r => k ((r, ()), ()) }
theorem sp_text_ok (N : Nat) : SpecOK Try.prog (sp_text N) := fn_sound (B := text_B) (loops := []) (leaves := []) (fun p => text_S N p.1.1.1 p.1.1.2.1 p.1.1.2.2.1 p.1.2.1) (fun r => ((r, ()), ())) text_rt (fun _ _ _ => rfl) (fun r z h => by cases h; rfl) Try.func73 (by kernel_rfl) (by kernel_rfl) (by kernel_rfl) rfl rfl (by kernel_rfl) (fun args w => Sem.pv_run _ _ _ (by kernel_rfl) w) (text_all N) mixed trivial (fun z E Xc hE hX hret => trivial) (fun p => text_eq N p.1.1.1 p.1.1.2.1 p.1.1.2.2.1 p.1.2.1)

def check11_S (N : Nat) (w : Int) : Option Bool :=
  (in__S N w 0 9).bind fun x_1 =>
  some x_1
noncomputable def check11_sp (N : Nat) : List Spec := [sp_in_ N]
theorem check11_all (N : Nat) : AllP (SpecOK Try.prog) (check11_sp N) := ⟨sp_in__ok N, trivial⟩
noncomputable def check11_c : Code := (Try.f108.body).getD .skip
noncomputable abbrev check11_B : Body := { c := check11_c, n := 5, res := [.tmp 2], outs := [⟨[.b], []⟩], m0 := 0 }
abbrev check11_rt : altD check11_B.outs → Option Bool := fun r => some r.1.1
abbrev check11_st : Sta := ⟨[0], ⟨[.i .i64], []⟩⟩
theorem check11_eq (N : Nat) (w : Int) : ev (Z := Bool) Try.prog (check11_sp N) check11_B [] [] (some check11_rt) 400 false [.c [0], .c [1]] (stL check11_st ((w, ()), ())) (stH check11_st ((w, ()), ())) = check11_S N w := by kernel_rfl
noncomputable def sp_check11 (N : Nat) : Spec := { f := 108, ins := ⟨[.i .i64], []⟩, outs := [⟨[.b], []⟩], run := fun p k => (check11_S N p.1.1).bind fun r => k ((r, ()), ()) }
theorem sp_check11_ok (N : Nat) : SpecOK Try.prog (sp_check11 N) := fn_sound (B := check11_B) (loops := []) (leaves := []) (fun p => check11_S N p.1.1) (fun r => ((r, ()), ())) check11_rt (fun _ _ _ => rfl) (fun r z h => by cases h; rfl) Try.func108 (by kernel_rfl) (by kernel_rfl) (by kernel_rfl) rfl rfl (by kernel_rfl) (fun args w => Sem.pv_run _ _ _ (by kernel_rfl) w) (check11_all N) mixed trivial (fun z E Xc hE hX hret => trivial) (fun p => check11_eq N p.1.1)

def check2_S (N : Nat) (l : List Int) : Option Bool :=
  (in__S N (l.length : Int) 1 6).bind fun x_1 =>
  some x_1
noncomputable def check2_sp (N : Nat) : List Spec := [sp_in_ N]
theorem check2_all (N : Nat) : AllP (SpecOK Try.prog) (check2_sp N) := ⟨sp_in__ok N, trivial⟩
noncomputable def check2_c : Code := (Try.f111.body).getD .skip
noncomputable abbrev check2_B : Body := { c := check2_c, n := 6, res := [.tmp 2], outs := [⟨[.b], []⟩], m0 := 0 }
abbrev check2_rt : altD check2_B.outs → Option Bool := fun r => some r.1.1
abbrev check2_st : Sta := ⟨[0], ⟨[.sl (.int .i64)], []⟩⟩
theorem check2_eq (N : Nat) (l : List Int) : ev (Z := Bool) Try.prog (check2_sp N) check2_B [] [] (some check2_rt) 400 false [.c [0], .c [1]] (stL check2_st ((l, ()), ())) (stH check2_st ((l, ()), ())) = check2_S N l := by kernel_rfl
noncomputable def sp_check2 (N : Nat) : Spec := { f := 111, ins := ⟨[.sl (.int .i64)], []⟩, outs := [⟨[.b], []⟩], run := fun p k => (check2_S N p.1.1).bind fun r => k ((r, ()), ()) }
theorem sp_check2_ok (N : Nat) : SpecOK Try.prog (sp_check2 N) := fn_sound (B := check2_B) (loops := []) (leaves := []) (fun p => check2_S N p.1.1) (fun r => ((r, ()), ())) check2_rt (fun _ _ _ => rfl) (fun r z h => by cases h; rfl) Try.func111 (by kernel_rfl) (by kernel_rfl) (by kernel_rfl) rfl rfl (by kernel_rfl) (fun args w => Sem.pv_run _ _ _ (by kernel_rfl) w) (check2_all N) mixed trivial (fun z E Xc hE hX hret => trivial) (fun p => check2_eq N p.1.1)

def every1i_S (N : Nat) (x : Int) : Option Bool :=
  (check11_S N x).bind fun x_1 =>
  some (!x_1)
noncomputable def every1i_sp (N : Nat) : List Spec := [sp_check11 N]
theorem every1i_all (N : Nat) : AllP (SpecOK Try.prog) (every1i_sp N) := ⟨sp_check11_ok N, trivial⟩
noncomputable def every1i_c : Code := (Try.f132.body).getD .skip
noncomputable abbrev every1i_B : Body := { c := every1i_c, n := 8, res := [.tmp 3], outs := [⟨[.b], [.segs [.fn 108 [] []]]⟩], m0 := 1 }
abbrev every1i_rt : altD every1i_B.outs → Option Bool := fun r => some r.1.1
abbrev every1i_st : Sta := ⟨[0, 1], ⟨[.i .i64, .own 0 0], [.segs [.fn 108 [] []]]⟩⟩
theorem every1i_eq (N : Nat) (x : Int) : ev (Z := Bool) Try.prog (every1i_sp N) every1i_B [] [] (some every1i_rt) 400 false [.c [0], .c [1]] (stL every1i_st ((x, (), ()), ((((), ()), ()), ()))) (stH every1i_st ((x, (), ()), ((((), ()), ()), ()))) = every1i_S N x := by kernel_rfl
noncomputable def sp_every1i (N : Nat) : Spec := { f := 132, ins := ⟨[.i .i64, .own 0 0], [.segs [.fn 108 [] []]]⟩, outs := [⟨[.b], [.segs [.fn 108 [] []]]⟩], run := fun p k => (every1i_S N p.1.1).bind fun r => k ((r, ()), ((((), ()), ()), ())) }
theorem sp_every1i_ok (N : Nat) : SpecOK Try.prog (sp_every1i N) := fn_sound (B := every1i_B) (loops := []) (leaves := []) (fun p => every1i_S N p.1.1) (fun r => ((r, ()), ((((), ()), ()), ()))) every1i_rt (fun _ _ _ => rfl) (fun r z h => by cases h; rfl) Try.func132 (by kernel_rfl) (by kernel_rfl) (by kernel_rfl) rfl rfl (by kernel_rfl) (fun args w => Sem.pv_run _ _ _ (by kernel_rfl) w) (every1i_all N) mixed trivial (fun z E Xc hE hX hret => trivial) (fun p => every1i_eq N p.1.1)

def ixfi_l1 (N : Nat) : Nat → Qe → Int → Int → Option ((Int) ⊕ (Unit))
  | 0, _, _, _ => none
  | n_ + 1, s, u, u2 =>
    br (decide (u2 < u))
      (idx s u2 fun x_1 =>
      (every1i_S N x_1).bind fun x_2 =>
      br x_2
        (some (.inl u2))
        (chk (u2 + 1) <|
        ixfi_l1 N n_ s u (u2 + 1)))
      (some (.inr ()))
def ixfi_S (N : Nat) (s : List Int) : Option Int :=
  (ixfi_l1 N N s (s.length : Int) 0).bind fun e => match e with
  | .inl i_3 =>
    some i_3
  | .inr _ =>
    some (-1)
noncomputable def ixfi_sp (N : Nat) : List Spec := [sp_every1i N]
theorem ixfi_all (N : Nat) : AllP (SpecOK Try.prog) (ixfi_sp N) := ⟨sp_every1i_ok N, trivial⟩
noncomputable def ixfi_c : Code := (Try.f80.body).getD .skip
noncomputable abbrev ixfi_B : Body := { c := ixfi_c, n := 19, res := [.tmp 4], outs := [⟨[.i .i64], [.segs [.fn 108 [] []]]⟩], m0 := 1 }
abbrev ixfi_rt : altD ixfi_B.outs → Option Int := fun r => some r.1.1
abbrev ixfi_l1_at : List PI := [.c [1, 0, 1, 0, 0, 0], .c [1, 0, 1, 0, 0, 1], .l [1, 0, 1, 0, 0], .b 0, .c [1, 1]]
abbrev ixfi_l1_st : Sta := ⟨[0, 1, 7, 8], ⟨[.sl (.int .i64), .fn 132 [] [.own 0 0], .i .i64, .i .i64], [.segs [.fn 108 [] []]]⟩⟩
abbrev ixfi_l1_h (rec : Qe → Int → Int → Option ((Int) ⊕ (Unit))) : Leaf ((Int) ⊕ (Unit)) := ⟨ixfi_l1_at, ixfi_l1_st, fun p => rec p.1.1 p.1.2.2.1 p.1.2.2.2.1⟩
abbrev ixfi_l1_e0 : Leaf ((Int) ⊕ (Unit)) := ⟨[.c [1, 0, 1, 0, 0, 1, 1, 0, 0, 1, 1, 0, 0], .c [1, 0, 1, 0, 0, 1, 1, 0, 0, 1, 1, 0, 1], .b 1, .c [1, 0, 1, 0, 0, 1, 1, 1], .l [1, 0, 1, 0, 0], .b 0, .c [1, 1]], ⟨[5], ⟨[.i .i64], [.segs [.fn 108 [] []]]⟩⟩, fun p => some (.inl p.1.1)⟩
abbrev ixfi_l1_e1 : Leaf ((Int) ⊕ (Unit)) := ⟨[.c [1, 1, 0], .c [1, 1, 1]], ⟨[], ⟨[], [.segs [.fn 108 [] []]]⟩⟩, fun p => some (.inr ())⟩
noncomputable def ixfi_l1_L (N : Nat) : LoopS := { at_ := ixfi_l1_at, sta := ixfi_l1_st, exits := [([.c [1, 0, 1, 0, 0, 1, 1, 0, 0, 1, 1, 0, 0], .c [1, 0, 1, 0, 0, 1, 1, 0, 0, 1, 1, 0, 1], .b 1, .c [1, 0, 1, 0, 0, 1, 1, 1], .l [1, 0, 1, 0, 0], .b 0, .c [1, 1]], ⟨[5], ⟨[.i .i64], [.segs [.fn 108 [] []]]⟩⟩), ([.c [1, 1, 0], .c [1, 1, 1]], ⟨[], ⟨[], [.segs [.fn 108 [] []]]⟩⟩)], run := fun p k => (ixfi_l1 N N p.1.1 p.1.2.2.1 p.1.2.2.2.1).bind fun e => match e with | .inl x => k (.inl ((x, ()), ((((), ()), ()), ()))) | .inr x => k (.inr (.inl ((), ((((), ()), ()), ())))) }
theorem ixfi_l1_eq (N n_ : Nat) (s : List Int) (u : Int) (u2 : Int) : ev (Z := (Int) ⊕ (Unit)) Try.prog (ixfi_sp N) ixfi_B [] [ixfi_l1_h (ixfi_l1 N n_), ixfi_l1_e0, ixfi_l1_e1] none 400 true ixfi_l1_at (stL ixfi_l1_st ((s, ((), ((), ())), u, u2, ()), ((((), ()), ()), ()))) (stH ixfi_l1_st ((s, ((), ((), ())), u, u2, ()), ((((), ()), ()), ()))) = ixfi_l1 N (n_ + 1) s u u2 := by kernel_rfl
theorem ixfi_l1_ok (N : Nat) {top : Bool} : LoopOK Try.prog ixfi_B.c ixfi_B.n ixfi_B.m0 top (ixfi_l1_L N) := loop_of_ev (Z := (Int) ⊕ (Unit)) (N := N) (fun m p => ixfi_l1 N m p.1.1 p.1.2.2.1 p.1.2.2.2.1) (fun e => match e with | .inl x => .inl ((x, ()), ((((), ()), ()), ())) | .inr x => .inr (.inl ((), ((((), ()), ()), ())))) (fun _ p k => bind_congr_ (ixfi_l1 N N p.1.1 p.1.2.2.1 p.1.2.2.2.1) _ _ (fun e => by rcases e with x | x <;> rfl)) (fun _ => rfl) (fun m z E Xc hE hX hrec hx => leaf_of_ev (B := ixfi_B) (loops := []) (leaves := [ixfi_l1_h (ixfi_l1 N m), ixfi_l1_e0, ixfi_l1_e1]) (ixfi_all N) mixed trivial hE hX ⟨hrec, (fun p hp => by obtain rfl := Option.some.inj hp; exact hx), (fun p hp => by obtain rfl := Option.some.inj hp; exact hx), trivial⟩ RetOK.no (fun p => ixfi_l1_eq N m p.1.1 p.1.2.2.1 p.1.2.2.2.1))
abbrev ixfi_st : Sta := ⟨[0, 1], ⟨[.sl (.int .i64), .fn 132 [] [.own 0 0]], [.segs [.fn 108 [] []]]⟩⟩
theorem ixfi_eq (N : Nat) (s : List Int) : ev (Z := Int) Try.prog (ixfi_sp N) ixfi_B [ixfi_l1_L N] [] (some ixfi_rt) 400 false [.c [0], .c [1]] (stL ixfi_st ((s, ((), ((), ())), ()), ((((), ()), ()), ()))) (stH ixfi_st ((s, ((), ((), ())), ()), ((((), ()), ()), ()))) = ixfi_S N s := by kernel_rfl
noncomputable def sp_ixfi (N : Nat) : Spec := { f := 80, ins := ⟨[.sl (.int .i64), .fn 132 [] [.own 0 0]], [.segs [.fn 108 [] []]]⟩, outs := [⟨[.i .i64], [.segs [.fn 108 [] []]]⟩], run := fun p k => (ixfi_S N p.1.1).bind fun r => k ((r, ()), ((((), ()), ()), ())) }
theorem sp_ixfi_ok (N : Nat) : SpecOK Try.prog (sp_ixfi N) := fn_sound (B := ixfi_B) (loops := [ixfi_l1_L N]) (leaves := []) (fun p => ixfi_S N p.1.1) (fun r => ((r, ()), ((((), ()), ()), ()))) ixfi_rt (fun _ _ _ => rfl) (fun r z h => by cases h; rfl) Try.func80 (by kernel_rfl) (by kernel_rfl) (by kernel_rfl) rfl rfl (by kernel_rfl) (fun args w => Sem.pv_run _ _ _ (by kernel_rfl) w) (ixfi_all N) mixed ⟨ixfi_l1_ok N, trivial⟩ (fun z E Xc hE hX hret => trivial) (fun p => ixfi_eq N p.1.1)

def cofi_S (N : Nat) (s : List Int) : Option Bool :=
  (ixfi_S N s).bind fun x_1 =>
  some (decide (0 ≤ x_1))
noncomputable def cofi_sp (N : Nat) : List Spec := [sp_ixfi N]
theorem cofi_all (N : Nat) : AllP (SpecOK Try.prog) (cofi_sp N) := ⟨sp_ixfi_ok N, trivial⟩
noncomputable def cofi_c : Code := (Try.f93.body).getD .skip
noncomputable abbrev cofi_B : Body := { c := cofi_c, n := 9, res := [.tmp 4], outs := [⟨[.b], [.segs [.fn 108 [] []]]⟩], m0 := 1 }
abbrev cofi_rt : altD cofi_B.outs → Option Bool := fun r => some r.1.1
abbrev cofi_st : Sta := ⟨[0, 1], ⟨[.sl (.int .i64), .fn 132 [] [.own 0 0]], [.segs [.fn 108 [] []]]⟩⟩
theorem cofi_eq (N : Nat) (s : List Int) : ev (Z := Bool) Try.prog (cofi_sp N) cofi_B [] [] (some cofi_rt) 400 false [.c [0], .c [1]] (stL cofi_st ((s, ((), ((), ())), ()), ((((), ()), ()), ()))) (stH cofi_st ((s, ((), ((), ())), ()), ((((), ()), ()), ()))) = cofi_S N s := by kernel_rfl
noncomputable def sp_cofi (N : Nat) : Spec := { f := 93, ins := ⟨[.sl (.int .i64), .fn 132 [] [.own 0 0]], [.segs [.fn 108 [] []]]⟩, outs := [⟨[.b], [.segs [.fn 108 [] []]]⟩], run := fun p k => (cofi_S N p.1.1).bind fun r => k ((r, ()), ((((), ()), ()), ())) }
theorem sp_cofi_ok (N : Nat) : SpecOK Try.prog (sp_cofi N) := fn_sound (B := cofi_B) (loops := []) (leaves := []) (fun p => cofi_S N p.1.1) (fun r => ((r, ()), ((((), ()), ()), ()))) cofi_rt (fun _ _ _ => rfl) (fun r z h => by cases h; rfl) Try.func93 (by kernel_rfl) (by kernel_rfl) (by kernel_rfl) rfl rfl (by kernel_rfl) (fun args w => Sem.pv_run _ _ _ (by kernel_rfl) w) (cofi_all N) mixed trivial (fun z E Xc hE hX hret => trivial) (fun p => cofi_eq N p.1.1)

def everyi_S (N : Nat) (l : List Int) : Option Bool :=
  (cofi_S N l).bind fun x_1 =>
  some (!x_1)
noncomputable def everyi_sp (N : Nat) : List Spec := [sp_cofi N]
theorem everyi_all (N : Nat) : AllP (SpecOK Try.prog) (everyi_sp N) := ⟨sp_cofi_ok N, trivial⟩
noncomputable def everyi_c : Code := (Try.f107.body).getD .skip
noncomputable abbrev everyi_B : Body := { c := everyi_c, n := 9, res := [.tmp 4], outs := [⟨[.b], []⟩], m0 := 0 }
abbrev everyi_rt : altD everyi_B.outs → Option Bool := fun r => some r.1.1
abbrev everyi_st : Sta := ⟨[0, 1], ⟨[.sl (.int .i64), .fn 108 [] []], []⟩⟩
theorem everyi_eq (N : Nat) (l : List Int) : ev (Z := Bool) Try.prog (everyi_sp N) everyi_B [] [] (some everyi_rt) 400 false [.c [0], .c [1]] (stL everyi_st ((l, ((), ()), ()), ())) (stH everyi_st ((l, ((), ()), ()), ())) = everyi_S N l := by kernel_rfl
noncomputable def sp_everyi (N : Nat) : Spec := { f := 107, ins := ⟨[.sl (.int .i64), .fn 108 [] []], []⟩, outs := [⟨[.b], []⟩], run := fun p k => (everyi_S N p.1.1).bind fun r => k ((r, ()), ()) }
theorem sp_everyi_ok (N : Nat) : SpecOK Try.prog (sp_everyi N) := fn_sound (B := everyi_B) (loops := []) (leaves := []) (fun p => everyi_S N p.1.1) (fun r => ((r, ()), ())) everyi_rt (fun _ _ _ => rfl) (fun r z h => by cases h; rfl) Try.func107 (by kernel_rfl) (by kernel_rfl) (by kernel_rfl) rfl rfl (by kernel_rfl) (fun args w => Sem.pv_run _ _ _ (by kernel_rfl) w) (everyi_all N) mixed trivial (fun z E Xc hE hX hret => trivial) (fun p => everyi_eq N p.1.1)

def check1_S (N : Nat) (l : List Int) : Option Bool :=
  (everyi_S N l).bind fun x_1 =>
  some x_1
noncomputable def check1_sp (N : Nat) : List Spec := [sp_everyi N]
theorem check1_all (N : Nat) : AllP (SpecOK Try.prog) (check1_sp N) := ⟨sp_everyi_ok N, trivial⟩
noncomputable def check1_c : Code := (Try.f106.body).getD .skip
noncomputable abbrev check1_B : Body := { c := check1_c, n := 5, res := [.tmp 2], outs := [⟨[.b], []⟩], m0 := 0 }
abbrev check1_rt : altD check1_B.outs → Option Bool := fun r => some r.1.1
abbrev check1_st : Sta := ⟨[0], ⟨[.sl (.int .i64)], []⟩⟩
theorem check1_eq (N : Nat) (l : List Int) : ev (Z := Bool) Try.prog (check1_sp N) check1_B [] [] (some check1_rt) 400 false [.c [0], .c [1]] (stL check1_st ((l, ()), ())) (stH check1_st ((l, ()), ())) = check1_S N l := by kernel_rfl
noncomputable def sp_check1 (N : Nat) : Spec := { f := 106, ins := ⟨[.sl (.int .i64)], []⟩, outs := [⟨[.b], []⟩], run := fun p k => (check1_S N p.1.1).bind fun r => k ((r, ()), ()) }
theorem sp_check1_ok (N : Nat) : SpecOK Try.prog (sp_check1 N) := fn_sound (B := check1_B) (loops := []) (leaves := []) (fun p => check1_S N p.1.1) (fun r => ((r, ()), ())) check1_rt (fun _ _ _ => rfl) (fun r z h => by cases h; rfl) Try.func106 (by kernel_rfl) (by kernel_rfl) (by kernel_rfl) rfl rfl (by kernel_rfl) (fun args w => Sem.pv_run _ _ _ (by kernel_rfl) w) (check1_all N) mixed trivial (fun z E Xc hE hX hret => trivial) (fun p => check1_eq N p.1.1)

def every1a_S (N : Nat) (x : List Int) : Option Bool :=
  (check1_S N x).bind fun x_1 =>
  some (!x_1)
noncomputable def every1a_sp (N : Nat) : List Spec := [sp_check1 N]
theorem every1a_all (N : Nat) : AllP (SpecOK Try.prog) (every1a_sp N) := ⟨sp_check1_ok N, trivial⟩
noncomputable def every1a_c : Code := (Try.f133.body).getD .skip
noncomputable abbrev every1a_B : Body := { c := every1a_c, n := 8, res := [.tmp 3], outs := [⟨[.b], [.segs [.fn 106 [] []]]⟩], m0 := 1 }
abbrev every1a_rt : altD every1a_B.outs → Option Bool := fun r => some r.1.1
abbrev every1a_st : Sta := ⟨[0, 1], ⟨[.sl (.int .i64), .own 0 0], [.segs [.fn 106 [] []]]⟩⟩
theorem every1a_eq (N : Nat) (x : List Int) : ev (Z := Bool) Try.prog (every1a_sp N) every1a_B [] [] (some every1a_rt) 400 false [.c [0], .c [1]] (stL every1a_st ((x, (), ()), ((((), ()), ()), ()))) (stH every1a_st ((x, (), ()), ((((), ()), ()), ()))) = every1a_S N x := by kernel_rfl
noncomputable def sp_every1a (N : Nat) : Spec := { f := 133, ins := ⟨[.sl (.int .i64), .own 0 0], [.segs [.fn 106 [] []]]⟩, outs := [⟨[.b], [.segs [.fn 106 [] []]]⟩], run := fun p k => (every1a_S N p.1.1).bind fun r => k ((r, ()), ((((), ()), ()), ())) }
theorem sp_every1a_ok (N : Nat) : SpecOK Try.prog (sp_every1a N) := fn_sound (B := every1a_B) (loops := []) (leaves := []) (fun p => every1a_S N p.1.1) (fun r => ((r, ()), ((((), ()), ()), ()))) every1a_rt (fun _ _ _ => rfl) (fun r z h => by cases h; rfl) Try.func133 (by kernel_rfl) (by kernel_rfl) (by kernel_rfl) rfl rfl (by kernel_rfl) (fun args w => Sem.pv_run _ _ _ (by kernel_rfl) w) (every1a_all N) mixed trivial (fun z E Xc hE hX hret => trivial) (fun p => every1a_eq N p.1.1)

def ixfa_l1 (N : Nat) : Nat → Qw → Int → Int → Option ((Int) ⊕ (Unit))
  | 0, _, _, _ => none
  | n_ + 1, s, u, u2 =>
    br (decide (u2 < u))
      (idx s u2 fun x_1 =>
      (every1a_S N x_1).bind fun x_2 =>
      br x_2
        (some (.inl u2))
        (chk (u2 + 1) <|
        ixfa_l1 N n_ s u (u2 + 1)))
      (some (.inr ()))
def ixfa_S (N : Nat) (s : List Qe) : Option Int :=
  (ixfa_l1 N N s (s.length : Int) 0).bind fun e => match e with
  | .inl i_3 =>
    some i_3
  | .inr _ =>
    some (-1)
noncomputable def ixfa_sp (N : Nat) : List Spec := [sp_every1a N]
theorem ixfa_all (N : Nat) : AllP (SpecOK Try.prog) (ixfa_sp N) := ⟨sp_every1a_ok N, trivial⟩
noncomputable def ixfa_c : Code := (Try.f141.body).getD .skip
noncomputable abbrev ixfa_B : Body := { c := ixfa_c, n := 19, res := [.tmp 4], outs := [⟨[.i .i64], [.segs [.fn 106 [] []]]⟩], m0 := 1 }
abbrev ixfa_rt : altD ixfa_B.outs → Option Int := fun r => some r.1.1
abbrev ixfa_l1_at : List PI := [.c [1, 0, 1, 0, 0, 0], .c [1, 0, 1, 0, 0, 1], .l [1, 0, 1, 0, 0], .b 0, .c [1, 1]]
abbrev ixfa_l1_st : Sta := ⟨[0, 1, 7, 8], ⟨[.sl Qd, .fn 133 [] [.own 0 0], .i .i64, .i .i64], [.segs [.fn 106 [] []]]⟩⟩
abbrev ixfa_l1_h (rec : Qw → Int → Int → Option ((Int) ⊕ (Unit))) : Leaf ((Int) ⊕ (Unit)) := ⟨ixfa_l1_at, ixfa_l1_st, fun p => rec p.1.1 p.1.2.2.1 p.1.2.2.2.1⟩
abbrev ixfa_l1_e0 : Leaf ((Int) ⊕ (Unit)) := ⟨[.c [1, 0, 1, 0, 0, 1, 1, 0, 0, 1, 1, 0, 0], .c [1, 0, 1, 0, 0, 1, 1, 0, 0, 1, 1, 0, 1], .b 1, .c [1, 0, 1, 0, 0, 1, 1, 1], .l [1, 0, 1, 0, 0], .b 0, .c [1, 1]], ⟨[5], ⟨[.i .i64], [.segs [.fn 106 [] []]]⟩⟩, fun p => some (.inl p.1.1)⟩
abbrev ixfa_l1_e1 : Leaf ((Int) ⊕ (Unit)) := ⟨[.c [1, 1, 0], .c [1, 1, 1]], ⟨[], ⟨[], [.segs [.fn 106 [] []]]⟩⟩, fun p => some (.inr ())⟩
noncomputable def ixfa_l1_L (N : Nat) : LoopS := { at_ := ixfa_l1_at, sta := ixfa_l1_st, exits := [([.c [1, 0, 1, 0, 0, 1, 1, 0, 0, 1, 1, 0, 0], .c [1, 0, 1, 0, 0, 1, 1, 0, 0, 1, 1, 0, 1], .b 1, .c [1, 0, 1, 0, 0, 1, 1, 1], .l [1, 0, 1, 0, 0], .b 0, .c [1, 1]], ⟨[5], ⟨[.i .i64], [.segs [.fn 106 [] []]]⟩⟩), ([.c [1, 1, 0], .c [1, 1, 1]], ⟨[], ⟨[], [.segs [.fn 106 [] []]]⟩⟩)], run := fun p k => (ixfa_l1 N N p.1.1 p.1.2.2.1 p.1.2.2.2.1).bind fun e => match e with | .inl x => k (.inl ((x, ()), ((((), ()), ()), ()))) | .inr x => k (.inr (.inl ((), ((((), ()), ()), ())))) }
theorem ixfa_l1_eq (N n_ : Nat) (s : List Qe) (u : Int) (u2 : Int) : ev (Z := (Int) ⊕ (Unit)) Try.prog (ixfa_sp N) ixfa_B [] [ixfa_l1_h (ixfa_l1 N n_), ixfa_l1_e0, ixfa_l1_e1] none 400 true ixfa_l1_at (stL ixfa_l1_st ((s, ((), ((), ())), u, u2, ()), ((((), ()), ()), ()))) (stH ixfa_l1_st ((s, ((), ((), ())), u, u2, ()), ((((), ()), ()), ()))) = ixfa_l1 N (n_ + 1) s u u2 := by kernel_rfl
theorem ixfa_l1_ok (N : Nat) {top : Bool} : LoopOK Try.prog ixfa_B.c ixfa_B.n ixfa_B.m0 top (ixfa_l1_L N) := loop_of_ev (Z := (Int) ⊕ (Unit)) (N := N) (fun m p => ixfa_l1 N m p.1.1 p.1.2.2.1 p.1.2.2.2.1) (fun e => match e with | .inl x => .inl ((x, ()), ((((), ()), ()), ())) | .inr x => .inr (.inl ((), ((((), ()), ()), ())))) (fun _ p k => bind_congr_ (ixfa_l1 N N p.1.1 p.1.2.2.1 p.1.2.2.2.1) _ _ (fun e => by rcases e with x | x <;> rfl)) (fun _ => rfl) (fun m z E Xc hE hX hrec hx => leaf_of_ev (B := ixfa_B) (loops := []) (leaves := [ixfa_l1_h (ixfa_l1 N m), ixfa_l1_e0, ixfa_l1_e1]) (ixfa_all N) mixed trivial hE hX ⟨hrec, (fun p hp => by obtain rfl := Option.some.inj hp; exact hx), (fun p hp => by obtain rfl := Option.some.inj hp; exact hx), trivial⟩ RetOK.no (fun p => ixfa_l1_eq N m p.1.1 p.1.2.2.1 p.1.2.2.2.1))
abbrev ixfa_st : Sta := ⟨[0, 1], ⟨[.sl Qd, .fn 133 [] [.own 0 0]], [.segs [.fn 106 [] []]]⟩⟩
theorem ixfa_eq (N : Nat) (s : List Qe) : ev (Z := Int) Try.prog (ixfa_sp N) ixfa_B [ixfa_l1_L N] [] (some ixfa_rt) 400 false [.c [0], .c [1]] (stL ixfa_st ((s, ((), ((), ())), ()), ((((), ()), ()), ()))) (stH ixfa_st ((s, ((), ((), ())), ()), ((((), ()), ()), ()))) = ixfa_S N s := by kernel_rfl
noncomputable def sp_ixfa (N : Nat) : Spec := { f := 141, ins := ⟨[.sl Qd, .fn 133 [] [.own 0 0]], [.segs [.fn 106 [] []]]⟩, outs := [⟨[.i .i64], [.segs [.fn 106 [] []]]⟩], run := fun p k => (ixfa_S N p.1.1).bind fun r => k ((r, ()), ((((), ()), ()), ())) }
theorem sp_ixfa_ok (N : Nat) : SpecOK Try.prog (sp_ixfa N) := fn_sound (B := ixfa_B) (loops := [ixfa_l1_L N]) (leaves := []) (fun p => ixfa_S N p.1.1) (fun r => ((r, ()), ((((), ()), ()), ()))) ixfa_rt (fun _ _ _ => rfl) (fun r z h => by cases h; rfl) Try.func141 (by kernel_rfl) (by kernel_rfl) (by kernel_rfl) rfl rfl (by kernel_rfl) (fun args w => Sem.pv_run _ _ _ (by kernel_rfl) w) (ixfa_all N) mixed ⟨ixfa_l1_ok N, trivial⟩ (fun z E Xc hE hX hret => trivial) (fun p => ixfa_eq N p.1.1)

def cofa_S (N : Nat) (s : List Qe) : Option Bool :=
  (ixfa_S N s).bind fun x_1 =>
  some (decide (0 ≤ x_1))
noncomputable def cofa_sp (N : Nat) : List Spec := [sp_ixfa N]
theorem cofa_all (N : Nat) : AllP (SpecOK Try.prog) (cofa_sp N) := ⟨sp_ixfa_ok N, trivial⟩
noncomputable def cofa_c : Code := (Try.f125.body).getD .skip
noncomputable abbrev cofa_B : Body := { c := cofa_c, n := 9, res := [.tmp 4], outs := [⟨[.b], [.segs [.fn 106 [] []]]⟩], m0 := 1 }
abbrev cofa_rt : altD cofa_B.outs → Option Bool := fun r => some r.1.1
abbrev cofa_st : Sta := ⟨[0, 1], ⟨[.sl Qd, .fn 133 [] [.own 0 0]], [.segs [.fn 106 [] []]]⟩⟩
theorem cofa_eq (N : Nat) (s : List Qe) : ev (Z := Bool) Try.prog (cofa_sp N) cofa_B [] [] (some cofa_rt) 400 false [.c [0], .c [1]] (stL cofa_st ((s, ((), ((), ())), ()), ((((), ()), ()), ()))) (stH cofa_st ((s, ((), ((), ())), ()), ((((), ()), ()), ()))) = cofa_S N s := by kernel_rfl
noncomputable def sp_cofa (N : Nat) : Spec := { f := 125, ins := ⟨[.sl Qd, .fn 133 [] [.own 0 0]], [.segs [.fn 106 [] []]]⟩, outs := [⟨[.b], [.segs [.fn 106 [] []]]⟩], run := fun p k => (cofa_S N p.1.1).bind fun r => k ((r, ()), ((((), ()), ()), ())) }
theorem sp_cofa_ok (N : Nat) : SpecOK Try.prog (sp_cofa N) := fn_sound (B := cofa_B) (loops := []) (leaves := []) (fun p => cofa_S N p.1.1) (fun r => ((r, ()), ((((), ()), ()), ()))) cofa_rt (fun _ _ _ => rfl) (fun r z h => by cases h; rfl) Try.func125 (by kernel_rfl) (by kernel_rfl) (by kernel_rfl) rfl rfl (by kernel_rfl) (fun args w => Sem.pv_run _ _ _ (by kernel_rfl) w) (cofa_all N) mixed trivial (fun z E Xc hE hX hret => trivial) (fun p => cofa_eq N p.1.1)

def everya_S (N : Nat) (l : List Qe) : Option Bool :=
  (cofa_S N l).bind fun x_1 =>
  some (!x_1)
noncomputable def everya_sp (N : Nat) : List Spec := [sp_cofa N]
theorem everya_all (N : Nat) : AllP (SpecOK Try.prog) (everya_sp N) := ⟨sp_cofa_ok N, trivial⟩
noncomputable def everya_c : Code := (Try.f110.body).getD .skip
noncomputable abbrev everya_B : Body := { c := everya_c, n := 9, res := [.tmp 4], outs := [⟨[.b], []⟩], m0 := 0 }
abbrev everya_rt : altD everya_B.outs → Option Bool := fun r => some r.1.1
abbrev everya_st : Sta := ⟨[0, 1], ⟨[.sl Qd, .fn 106 [] []], []⟩⟩
theorem everya_eq (N : Nat) (l : List Qe) : ev (Z := Bool) Try.prog (everya_sp N) everya_B [] [] (some everya_rt) 400 false [.c [0], .c [1]] (stL everya_st ((l, ((), ()), ()), ())) (stH everya_st ((l, ((), ()), ()), ())) = everya_S N l := by kernel_rfl
noncomputable def sp_everya (N : Nat) : Spec := { f := 110, ins := ⟨[.sl Qd, .fn 106 [] []], []⟩, outs := [⟨[.b], []⟩], run := fun p k => (everya_S N p.1.1).bind fun r => k ((r, ()), ()) }
theorem sp_everya_ok (N : Nat) : SpecOK Try.prog (sp_everya N) := fn_sound (B := everya_B) (loops := []) (leaves := []) (fun p => everya_S N p.1.1) (fun r => ((r, ()), ())) everya_rt (fun _ _ _ => rfl) (fun r z h => by cases h; rfl) Try.func110 (by kernel_rfl) (by kernel_rfl) (by kernel_rfl) rfl rfl (by kernel_rfl) (fun args w => Sem.pv_run _ _ _ (by kernel_rfl) w) (everya_all N) mixed trivial (fun z E Xc hE hX hret => trivial) (fun p => everya_eq N p.1.1)

def every1b_S (N : Nat) (x : List Int) : Option Bool :=
  (check2_S N x).bind fun x_1 =>
  some (!x_1)
noncomputable def every1b_sp (N : Nat) : List Spec := [sp_check2 N]
theorem every1b_all (N : Nat) : AllP (SpecOK Try.prog) (every1b_sp N) := ⟨sp_check2_ok N, trivial⟩
noncomputable def every1b_c : Code := (Try.f133.body).getD .skip
noncomputable abbrev every1b_B : Body := { c := every1b_c, n := 8, res := [.tmp 3], outs := [⟨[.b], [.segs [.fn 111 [] []]]⟩], m0 := 1 }
abbrev every1b_rt : altD every1b_B.outs → Option Bool := fun r => some r.1.1
abbrev every1b_st : Sta := ⟨[0, 1], ⟨[.sl (.int .i64), .own 0 0], [.segs [.fn 111 [] []]]⟩⟩
theorem every1b_eq (N : Nat) (x : List Int) : ev (Z := Bool) Try.prog (every1b_sp N) every1b_B [] [] (some every1b_rt) 400 false [.c [0], .c [1]] (stL every1b_st ((x, (), ()), ((((), ()), ()), ()))) (stH every1b_st ((x, (), ()), ((((), ()), ()), ()))) = every1b_S N x := by kernel_rfl
noncomputable def sp_every1b (N : Nat) : Spec := { f := 133, ins := ⟨[.sl (.int .i64), .own 0 0], [.segs [.fn 111 [] []]]⟩, outs := [⟨[.b], [.segs [.fn 111 [] []]]⟩], run := fun p k => (every1b_S N p.1.1).bind fun r => k ((r, ()), ((((), ()), ()), ())) }
theorem sp_every1b_ok (N : Nat) : SpecOK Try.prog (sp_every1b N) := fn_sound (B := every1b_B) (loops := []) (leaves := []) (fun p => every1b_S N p.1.1) (fun r => ((r, ()), ((((), ()), ()), ()))) every1b_rt (fun _ _ _ => rfl) (fun r z h => by cases h; rfl) Try.func133 (by kernel_rfl) (by kernel_rfl) (by kernel_rfl) rfl rfl (by kernel_rfl) (fun args w => Sem.pv_run _ _ _ (by kernel_rfl) w) (every1b_all N) mixed trivial (fun z E Xc hE hX hret => trivial) (fun p => every1b_eq N p.1.1)

def ixfb_l1 (N : Nat) : Nat → Qw → Int → Int → Option ((Int) ⊕ (Unit))
  | 0, _, _, _ => none
  | n_ + 1, s, u, u2 =>
    br (decide (u2 < u))
      (idx s u2 fun x_1 =>
      (every1b_S N x_1).bind fun x_2 =>
      br x_2
        (some (.inl u2))
        (chk (u2 + 1) <|
        ixfb_l1 N n_ s u (u2 + 1)))
      (some (.inr ()))
def ixfb_S (N : Nat) (s : List Qe) : Option Int :=
  (ixfb_l1 N N s (s.length : Int) 0).bind fun e => match e with
  | .inl i_3 =>
    some i_3
  | .inr _ =>
    some (-1)
noncomputable def ixfb_sp (N : Nat) : List Spec := [sp_every1b N]
theorem ixfb_all (N : Nat) : AllP (SpecOK Try.prog) (ixfb_sp N) := ⟨sp_every1b_ok N, trivial⟩
noncomputable def ixfb_c : Code := (Try.f141.body).getD .skip
noncomputable abbrev ixfb_B : Body := { c := ixfb_c, n := 19, res := [.tmp 4], outs := [⟨[.i .i64], [.segs [.fn 111 [] []]]⟩], m0 := 1 }
abbrev ixfb_rt : altD ixfb_B.outs → Option Int := fun r => some r.1.1
abbrev ixfb_l1_at : List PI := [.c [1, 0, 1, 0, 0, 0], .c [1, 0, 1, 0, 0, 1], .l [1, 0, 1, 0, 0], .b 0, .c [1, 1]]
abbrev ixfb_l1_st : Sta := ⟨[0, 1, 7, 8], ⟨[.sl Qd, .fn 133 [] [.own 0 0], .i .i64, .i .i64], [.segs [.fn 111 [] []]]⟩⟩
abbrev ixfb_l1_h (rec : Qw → Int → Int → Option ((Int) ⊕ (Unit))) : Leaf ((Int) ⊕ (Unit)) := ⟨ixfb_l1_at, ixfb_l1_st, fun p => rec p.1.1 p.1.2.2.1 p.1.2.2.2.1⟩
abbrev ixfb_l1_e0 : Leaf ((Int) ⊕ (Unit)) := ⟨[.c [1, 0, 1, 0, 0, 1, 1, 0, 0, 1, 1, 0, 0], .c [1, 0, 1, 0, 0, 1, 1, 0, 0, 1, 1, 0, 1], .b 1, .c [1, 0, 1, 0, 0, 1, 1, 1], .l [1, 0, 1, 0, 0], .b 0, .c [1, 1]], ⟨[5], ⟨[.i .i64], [.segs [.fn 111 [] []]]⟩⟩, fun p => some (.inl p.1.1)⟩
abbrev ixfb_l1_e1 : Leaf ((Int) ⊕ (Unit)) := ⟨[.c [1, 1, 0], .c [1, 1, 1]], ⟨[], ⟨[], [.segs [.fn 111 [] []]]⟩⟩, fun p => some (.inr ())⟩
noncomputable def ixfb_l1_L (N : Nat) : LoopS := { at_ := ixfb_l1_at, sta := ixfb_l1_st, exits := [([.c [1, 0, 1, 0, 0, 1, 1, 0, 0, 1, 1, 0, 0], .c [1, 0, 1, 0, 0, 1, 1, 0, 0, 1, 1, 0, 1], .b 1, .c [1, 0, 1, 0, 0, 1, 1, 1], .l [1, 0, 1, 0, 0], .b 0, .c [1, 1]], ⟨[5], ⟨[.i .i64], [.segs [.fn 111 [] []]]⟩⟩), ([.c [1, 1, 0], .c [1, 1, 1]], ⟨[], ⟨[], [.segs [.fn 111 [] []]]⟩⟩)], run := fun p k => (ixfb_l1 N N p.1.1 p.1.2.2.1 p.1.2.2.2.1).bind fun e => match e with | .inl x => k (.inl ((x, ()), ((((), ()), ()), ()))) | .inr x => k (.inr (.inl ((), ((((), ()), ()), ())))) }
theorem ixfb_l1_eq (N n_ : Nat) (s : List Qe) (u : Int) (u2 : Int) : ev (Z := (Int) ⊕ (Unit)) Try.prog (ixfb_sp N) ixfb_B [] [ixfb_l1_h (ixfb_l1 N n_), ixfb_l1_e0, ixfb_l1_e1] none 400 true ixfb_l1_at (stL ixfb_l1_st ((s, ((), ((), ())), u, u2, ()), ((((), ()), ()), ()))) (stH ixfb_l1_st ((s, ((), ((), ())), u, u2, ()), ((((), ()), ()), ()))) = ixfb_l1 N (n_ + 1) s u u2 := by kernel_rfl
theorem ixfb_l1_ok (N : Nat) {top : Bool} : LoopOK Try.prog ixfb_B.c ixfb_B.n ixfb_B.m0 top (ixfb_l1_L N) := loop_of_ev (Z := (Int) ⊕ (Unit)) (N := N) (fun m p => ixfb_l1 N m p.1.1 p.1.2.2.1 p.1.2.2.2.1) (fun e => match e with | .inl x => .inl ((x, ()), ((((), ()), ()), ())) | .inr x => .inr (.inl ((), ((((), ()), ()), ())))) (fun _ p k => bind_congr_ (ixfb_l1 N N p.1.1 p.1.2.2.1 p.1.2.2.2.1) _ _ (fun e => by rcases e with x | x <;> rfl)) (fun _ => rfl) (fun m z E Xc hE hX hrec hx => leaf_of_ev (B := ixfb_B) (loops := []) (leaves := [ixfb_l1_h (ixfb_l1 N m), ixfb_l1_e0, ixfb_l1_e1]) (ixfb_all N) mixed trivial hE hX ⟨hrec, (fun p hp => by obtain rfl := Option.some.inj hp; exact hx), (fun p hp => by obtain rfl := Option.some.inj hp; exact hx), trivial⟩ RetOK.no (fun p => ixfb_l1_eq N m p.1.1 p.1.2.2.1 p.1.2.2.2.1))
abbrev ixfb_st : Sta := ⟨[0, 1], ⟨[.sl Qd, .fn 133 [] [.own 0 0]], [.segs [.fn 111 [] []]]⟩⟩
theorem ixfb_eq (N : Nat) (s : List Qe) : ev (Z := Int) Try.prog (ixfb_sp N) ixfb_B [ixfb_l1_L N] [] (some ixfb_rt) 400 false [.c [0], .c [1]] (stL ixfb_st ((s, ((), ((), ())), ()), ((((), ()), ()), ()))) (stH ixfb_st ((s, ((), ((), ())), ()), ((((), ()), ()), ()))) = ixfb_S N s := by kernel_rfl
noncomputable def sp_ixfb (N : Nat) : Spec := { f := 141, ins := ⟨[.sl Qd, .fn 133 [] [.own 0 0]], [.segs [.fn 111 [] []]]⟩, outs := [⟨[.i .i64], [.segs [.fn 111 [] []]]⟩], run := fun p k => (ixfb_S N p.1.1).bind fun r => k ((r, ()), ((((), ()), ()), ())) }
theorem sp_ixfb_ok (N : Nat) : SpecOK Try.prog (sp_ixfb N) := fn_sound (B := ixfb_B) (loops := [ixfb_l1_L N]) (leaves := []) (fun p => ixfb_S N p.1.1) (fun r => ((r, ()), ((((), ()), ()), ()))) ixfb_rt (fun _ _ _ => rfl) (fun r z h => by cases h; rfl) Try.func141 (by kernel_rfl) (by kernel_rfl) (by kernel_rfl) rfl rfl (by kernel_rfl) (fun args w => Sem.pv_run _ _ _ (by kernel_rfl) w) (ixfb_all N) mixed ⟨ixfb_l1_ok N, trivial⟩ (fun z E Xc hE hX hret => trivial) (fun p => ixfb_eq N p.1.1)

def cofb_S (N : Nat) (s : List Qe) : Option Bool :=
  (ixfb_S N s).bind fun x_1 =>
  some (decide (0 ≤ x_1))
noncomputable def cofb_sp (N : Nat) : List Spec := [sp_ixfb N]
theorem cofb_all (N : Nat) : AllP (SpecOK Try.prog) (cofb_sp N) := ⟨sp_ixfb_ok N, trivial⟩
noncomputable def cofb_c : Code := (Try.f125.body).getD .skip
noncomputable abbrev cofb_B : Body := { c := cofb_c, n := 9, res := [.tmp 4], outs := [⟨[.b], [.segs [.fn 111 [] []]]⟩], m0 := 1 }
abbrev cofb_rt : altD cofb_B.outs → Option Bool := fun r => some r.1.1
abbrev cofb_st : Sta := ⟨[0, 1], ⟨[.sl Qd, .fn 133 [] [.own 0 0]], [.segs [.fn 111 [] []]]⟩⟩
theorem cofb_eq (N : Nat) (s : List Qe) : ev (Z := Bool) Try.prog (cofb_sp N) cofb_B [] [] (some cofb_rt) 400 false [.c [0], .c [1]] (stL cofb_st ((s, ((), ((), ())), ()), ((((), ()), ()), ()))) (stH cofb_st ((s, ((), ((), ())), ()), ((((), ()), ()), ()))) = cofb_S N s := by kernel_rfl
noncomputable def sp_cofb (N : Nat) : Spec := { f := 125, ins := ⟨[.sl Qd, .fn 133 [] [.own 0 0]], [.segs [.fn 111 [] []]]⟩, outs := [⟨[.b], [.segs [.fn 111 [] []]]⟩], run := fun p k => (cofb_S N p.1.1).bind fun r => k ((r, ()), ((((), ()), ()), ())) }
theorem sp_cofb_ok (N : Nat) : SpecOK Try.prog (sp_cofb N) := fn_sound (B := cofb_B) (loops := []) (leaves := []) (fun p => cofb_S N p.1.1) (fun r => ((r, ()), ((((), ()), ()), ()))) cofb_rt (fun _ _ _ => rfl) (fun r z h => by cases h; rfl) Try.func125 (by kernel_rfl) (by kernel_rfl) (by kernel_rfl) rfl rfl (by kernel_rfl) (fun args w => Sem.pv_run _ _ _ (by kernel_rfl) w) (cofb_all N) mixed trivial (fun z E Xc hE hX hret => trivial) (fun p => cofb_eq N p.1.1)

def everyb_S (N : Nat) (l : List Qe) : Option Bool :=
  (cofb_S N l).bind fun x_1 =>
  some (!x_1)
noncomputable def everyb_sp (N : Nat) : List Spec := [sp_cofb N]
theorem everyb_all (N : Nat) : AllP (SpecOK Try.prog) (everyb_sp N) := ⟨sp_cofb_ok N, trivial⟩
noncomputable def everyb_c : Code := (Try.f110.body).getD .skip
noncomputable abbrev everyb_B : Body := { c := everyb_c, n := 9, res := [.tmp 4], outs := [⟨[.b], []⟩], m0 := 0 }
abbrev everyb_rt : altD everyb_B.outs → Option Bool := fun r => some r.1.1
abbrev everyb_st : Sta := ⟨[0, 1], ⟨[.sl Qd, .fn 111 [] []], []⟩⟩
theorem everyb_eq (N : Nat) (l : List Qe) : ev (Z := Bool) Try.prog (everyb_sp N) everyb_B [] [] (some everyb_rt) 400 false [.c [0], .c [1]] (stL everyb_st ((l, ((), ()), ()), ())) (stH everyb_st ((l, ((), ()), ()), ())) = everyb_S N l := by kernel_rfl
noncomputable def sp_everyb (N : Nat) : Spec := { f := 110, ins := ⟨[.sl Qd, .fn 111 [] []], []⟩, outs := [⟨[.b], []⟩], run := fun p k => (everyb_S N p.1.1).bind fun r => k ((r, ()), ()) }
theorem sp_everyb_ok (N : Nat) : SpecOK Try.prog (sp_everyb N) := fn_sound (B := everyb_B) (loops := []) (leaves := []) (fun p => everyb_S N p.1.1) (fun r => ((r, ()), ())) everyb_rt (fun _ _ _ => rfl) (fun r z h => by cases h; rfl) Try.func110 (by kernel_rfl) (by kernel_rfl) (by kernel_rfl) rfl rfl (by kernel_rfl) (fun args w => Sem.pv_run _ _ _ (by kernel_rfl) w) (everyb_all N) mixed trivial (fun z E Xc hE hX hret => trivial) (fun p => everyb_eq N p.1.1)

def check_S (N : Nat) (e_ : List Qe) (e_2 : List Int) (e_3 : Int) : Option Int :=
  (in__S N (e_.length : Int) 1 5).bind fun x_1 =>
  br (!x_1)
    (some 2)
    (br (decide (10 < (e_2.length : Int)))
      (some 2)
      ((everyb_S N e_).bind fun x_2 =>
      br (!x_2)
        (some 2)
        ((everya_S N e_).bind fun x_3 =>
        br (!x_3)
          (some 3)
          ((check1_S N e_2).bind fun x_4 =>
          br (!x_4)
            (some 3)
            ((in__S N e_3 0 8).bind fun x_5 =>
            br (!x_5)
              (some 3)
              (some 0))))))
noncomputable def check_sp (N : Nat) : List Spec := [sp_in_ N, sp_check1 N, sp_everya N, sp_everyb N]
theorem check_all (N : Nat) : AllP (SpecOK Try.prog) (check_sp N) := ⟨sp_in__ok N, sp_check1_ok N, sp_everya_ok N, sp_everyb_ok N, trivial⟩
noncomputable def check_c : Code := (Try.f72.body).getD .skip
noncomputable abbrev check_B : Body := { c := check_c, n := 41, res := [.tmp 2], outs := [⟨[.i .i64], []⟩], m0 := 0 }
abbrev check_rt : altD check_B.outs → Option Int := fun r => some r.1.1
abbrev check_st : Sta := ⟨[0], ⟨[.agg [.sl Qd, .sl (.int .i64), .i .i64]], []⟩⟩
theorem check_eq (N : Nat) (e_ : List Qe) (e_2 : List Int) (e_3 : Int) : ev (Z := Int) Try.prog (check_sp N) check_B [] [] (some check_rt) 400 false [.c [0], .c [1]] (stL check_st (((e_, e_2, e_3, ()), ()), ())) (stH check_st (((e_, e_2, e_3, ()), ()), ())) = check_S N e_ e_2 e_3 := by kernel_rfl
noncomputable def sp_check (N : Nat) : Spec := { f := 72, ins := ⟨[.agg [.sl Qd, .sl (.int .i64), .i .i64]], []⟩, outs := [⟨[.i .i64], []⟩], run := fun p k => (check_S N p.1.1.1 p.1.1.2.1 p.1.1.2.2.1).bind fun r => k ((r, ()), ()) }
theorem sp_check_ok (N : Nat) : SpecOK Try.prog (sp_check N) := fn_sound (B := check_B) (loops := []) (leaves := []) (fun p => check_S N p.1.1.1 p.1.1.2.1 p.1.1.2.2.1) (fun r => ((r, ()), ())) check_rt (fun _ _ _ => rfl) (fun r z h => by cases h; rfl) Try.func72 (by kernel_rfl) (by kernel_rfl) (by kernel_rfl) rfl rfl (by kernel_rfl) (fun args w => Sem.pv_run _ _ _ (by kernel_rfl) w) (check_all N) mixed trivial (fun z E Xc hE hX hret => trivial) (fun p => check_eq N p.1.1.1 p.1.1.2.1 p.1.1.2.2.1)

def opened_S (N : Nat) (e_ : List Qe) (e_2 : List Int) (e_3 : Int) (p : Int) (p2 : Int) : Option ((Qb × Int) ⊕ (Int)) :=
  (check_S N e_ e_2 e_3).bind fun x_1 =>
  br (!decide (x_1 = 0))
    (some (.inr x_1))
    ((text_S N e_ e_2 e_3 p).bind fun x_2 =>
    br (!x_2)
      (some (.inr 1))
      ((text_S N e_ e_2 e_3 p2).bind fun x_3 =>
      br (!x_3)
        (some (.inr 1))
        (idx e_ p fun x_4 =>
        idx e_ p2 fun x_5 =>
        some (.inl ((e_, e_2, e_3, x_4, x_5), 0)))))
noncomputable def opened_sp (N : Nat) : List Spec := [sp_text N, sp_check N]
theorem opened_all (N : Nat) : AllP (SpecOK Try.prog) (opened_sp N) := ⟨sp_text_ok N, sp_check_ok N, trivial⟩
noncomputable def opened_c : Code := (Try.f39.body).getD .skip
noncomputable abbrev opened_B : Body := { c := opened_c, n := 42, res := [.tmp 4, .tmp 5], outs := [⟨[.fe Qi, .i .i64], []⟩, ⟨[.nilp, .i .i64], []⟩], m0 := 0 }
abbrev opened_rt : altD opened_B.outs → Option ((Qb × Int) ⊕ (Int)) := fun r => match r with | .inl r => some (.inl (r.1.1, r.1.2.1)) | .inr r => some (.inr r.1.2.1)
abbrev opened_st : Sta := ⟨[0, 1], ⟨[.agg [.sl Qd, .sl (.int .i64), .i .i64], .agg [.i .i64, .i .i64]], []⟩⟩
theorem opened_eq (N : Nat) (e_ : List Qe) (e_2 : List Int) (e_3 : Int) (p : Int) (p2 : Int) : ev (Z := (Qb × Int) ⊕ (Int)) Try.prog (opened_sp N) opened_B [] [] (some opened_rt) 400 false [.c [0], .c [1]] (stL opened_st (((e_, e_2, e_3, ()), (p, p2, ()), ()), ())) (stH opened_st (((e_, e_2, e_3, ()), (p, p2, ()), ()), ())) = opened_S N e_ e_2 e_3 p p2 := by kernel_rfl
noncomputable def sp_opened (N : Nat) : Spec := { f := 39, ins := ⟨[.agg [.sl Qd, .sl (.int .i64), .i .i64], .agg [.i .i64, .i .i64]], []⟩, outs := [⟨[.fe Qi, .i .i64], []⟩, ⟨[.nilp, .i .i64], []⟩], run := fun p k => (opened_S N p.1.1.1 p.1.1.2.1 p.1.1.2.2.1 p.1.2.1.1 p.1.2.1.2.1).bind fun r => match r with | .inl r => k (.inl ((r.1, r.2, ()), ())) | .inr r => k (.inr (((), r, ()), ())) }
theorem sp_opened_ok (N : Nat) : SpecOK Try.prog (sp_opened N) := fn_sound (B := opened_B) (loops := []) (leaves := []) (fun p => opened_S N p.1.1.1 p.1.1.2.1 p.1.1.2.2.1 p.1.2.1.1 p.1.2.1.2.1) (fun r => match r with | .inl r => (.inl ((r.1, r.2, ()), ())) | .inr r => (.inr (((), r, ()), ()))) opened_rt (fun _ p k => bind_congr_ (opened_S N p.1.1.1 p.1.1.2.1 p.1.1.2.2.1 p.1.2.1.1 p.1.2.1.2.1) _ _ (fun e => by rcases e with x | x <;> rfl)) (fun r z h => by rcases r with x | x <;> (cases h; rfl)) Try.func39 (by kernel_rfl) (by kernel_rfl) (by kernel_rfl) rfl rfl (by kernel_rfl) (fun args w => Sem.pv_run _ _ _ (by kernel_rfl) w) (opened_all N) mixed trivial (fun z E Xc hE hX hret => trivial) (fun p => opened_eq N p.1.1.1 p.1.1.2.1 p.1.1.2.2.1 p.1.2.1.1 p.1.2.1.2.1)

end Go.Proofs.Ytgeijboidfadaaa

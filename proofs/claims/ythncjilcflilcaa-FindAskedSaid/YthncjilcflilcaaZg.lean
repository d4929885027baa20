/-
  Parts of a proof, put together: FCo, F6, Fm3, FD1, FD2, FD3, FD4, FD5, FD6, FD7, FD8, FD9, FDa, FDb, FDj, FDe, FAw, FLa.
  Conditions: none.
-/
import Derived.Test.YthncjilcflilcaaZd
import Derived.Test.YthncjilcflilcaaZe
import Derived.Test.YthncjilcflilcaaZf
namespace Go.Proofs.Ythncjilcflilcaa
set_option linter.all false
open Go

set_option maxHeartbeats 400000 in
theorem may1_up (l bd od bc oc bl ol : Nat) (vd vd2 : Addr) (lost : Int) (m : Nat) (fs : Option Addr) (fc : Nat) (R : Nat → Bool) (S : List Nat) (J : List Nat → World → Prop) (Q : World → Prop) (w : World)
    (hbd : ∀ w', Upd (l :: S) w w' → Cl w' bd od [.pointer (some vd)]) (hbc : ∀ w', Upd (l :: S) w w' → Cl w' bc oc [(.func (.func 111) #[.pointer (some vd2)] #[])]) (hbl : ∀ w', Upd (l :: S) w w' → Cl w' bl ol [.int .i64 lost])
    (hfo : ∀ w', Upd (l :: S) w w' → w'.cell? (vd.add 3) = some (.slice fs m fc))
    (hcan : ∀ (k : Nat) w', k < m → Upd (l :: S) w w' → Fn Try.prog 111 #[.pointer (some vd2), .int .i64 lost, .int .i64 (↑k : Int)] w' (fun v w2 => Ext w' w2 ∧ v = .bool (R k)))
    (hm : m ≤ 1000000) (hJ : J (mayF R m 0) w) (hxJ : ∀ r, Stays w.heap.size (J r))
    (hy : ∀ k r w1, k ∈ mayF R m 0 → J (k :: r) w1 → Upd (l :: S) w w1 → Yield Try.prog l #[.int .i64 ↑k] w1 (fun v w2 => Upd (l :: S) w w2 ∧ ((v = .bool true ∧ J r w2) ∨ (v = .bool false ∧ Q w2)))) :
    Fn Try.prog 123 #[(.func (.yield l) #[] #[]), (.pointer (some ⟨bd, od, none⟩)), (.pointer (some ⟨bc, oc, none⟩)), (.pointer (some ⟨bl, ol, none⟩))] w (fun _ w' => Upd (l :: S) w w' ∧ (J [] w' ∨ Q w')) := by
  refine Fn.ofSt (c := c123) 26 K123_0 [(0, (.func (.yield l) #[] #[])), (1, (.pointer (some ⟨bd, od, none⟩))), (2, (.pointer (some ⟨bc, oc, none⟩))), (3, (.pointer (some ⟨bl, ol, none⟩)))] Try.func123 (by kernel_rfl) ⟨⟨rfl, by kernel_rfl⟩, by kernel_rfl⟩ (by kernel_rfl) ?_
  intro cs
  refine St.reg K123_1 [(0, true), (1, true), (2, true), (3, true), (4, true), (5, true), (6, true)] (by kernel_rfl) (by kernel_rfl) ?_
  refine RX.q 7 [(0, true, (.pointer (some vd))), (4, true, (.slice fs m fc))] [(0, (.func (.yield l) #[] #[])), (1, (.pointer (some ⟨bd, od, none⟩))), (2, (.pointer (some ⟨bc, oc, none⟩))), (3, (.pointer (some ⟨bl, ol, none⟩))), (11, (.int .i64 (↑m : Int))), (12, (.int .i64 0))] [.cell ⟨bd, od + 0, none⟩ (.pointer (some vd)), .cell (vd.add 3) (.slice fs m fc)] (by kernel_rfl) ⟨Cl.cell (hbd w (Upd.refl _ w)) rfl, hfo w (Upd.refl _ w)⟩ ?_
  refine RX.done [(0, (.func (.yield l) #[] #[])), (1, (.pointer (some ⟨bd, od, none⟩))), (2, (.pointer (some ⟨bc, oc, none⟩))), (3, (.pointer (some ⟨bl, ol, none⟩))), (11, (.int .i64 (↑m : Int))), (12, (.int .i64 0))] (by kernel_rfl) (by kernel_rfl) ?_
  have loop1 : ∀ (N : Nat) (k : Nat) (w2 : World), k ≤ m → (J (mayF R m k) w2) → (Upd (l :: S) w w2) → N = m - k → St Try.prog (fctx Try.prog 123 (fun _ w' => Upd (l :: S) w w' ∧ (J [] w' ∨ Q w')) cs) 26 K123_1 [(12, (.int .i64 (↑k : Int))), (11, (.int .i64 (↑m : Int))), (0, (.func (.yield l) #[] #[])), (1, (.pointer (some ⟨bd, od, none⟩))), (2, (.pointer (some ⟨bc, oc, none⟩))), (3, (.pointer (some ⟨bl, ol, none⟩)))] [] w2 := by
    intro N3
    induction N3 using Nat.strongRecOn with
    | ind N3 ih4 => ?_
    intro k w2 hk hJk hE hN5
    refine St.reg K123_2 [(0, true)] (by kernel_rfl) (by kernel_rfl) ?_
    refine RX.q 1 [] [(0, (.func (.yield l) #[] #[])), (1, (.pointer (some ⟨bd, od, none⟩))), (2, (.pointer (some ⟨bc, oc, none⟩))), (3, (.pointer (some ⟨bl, ol, none⟩))), (11, (.int .i64 (↑m : Int))), (12, (.int .i64 (↑k : Int))), (13, (.bool (decide ((↑k : Int) < (↑m : Int)))))] [] (by kernel_rfl) trivial ?_
    refine RX.done [(0, (.func (.yield l) #[] #[])), (1, (.pointer (some ⟨bd, od, none⟩))), (2, (.pointer (some ⟨bc, oc, none⟩))), (3, (.pointer (some ⟨bl, ol, none⟩))), (11, (.int .i64 (↑m : Int))), (12, (.int .i64 (↑k : Int))), (13, (.bool (decide ((↑k : Int) < (↑m : Int)))))] (by kernel_rfl) (by kernel_rfl) ?_
    refine St.cond (k1 := K123_3) (k2 := K123_4) (decide ((↑k : Int) < (↑m : Int))) (by kernel_rfl) (fun hc7 => ?_) (fun hc7 => ?_)
    · have hh8 : (↑k : Int) < (↑m : Int) := by simpa using hc7
      clear hc7
      refine St.weak (L' := [(12, (.int .i64 (↑k : Int))), (11, (.int .i64 (↑m : Int))), (0, (.func (.yield l) #[] #[])), (1, (.pointer (some ⟨bd, od, none⟩))), (2, (.pointer (some ⟨bc, oc, none⟩))), (3, (.pointer (some ⟨bl, ol, none⟩)))]) (by kernel_rfl) ?_
      refine St.reg K123_5 [(0, true), (1, true)] (by kernel_rfl) (by kernel_rfl) ?_
      refine RX.q 2 [] [(0, (.func (.yield l) #[] #[])), (1, (.pointer (some ⟨bd, od, none⟩))), (2, (.pointer (some ⟨bc, oc, none⟩))), (3, (.pointer (some ⟨bl, ol, none⟩))), (11, (.int .i64 (↑m : Int))), (12, (.int .i64 (↑k : Int))), (5, (.int .i64 (↑k : Int)))] [] (by kernel_rfl) trivial ?_
      refine RX.done [(0, (.func (.yield l) #[] #[])), (1, (.pointer (some ⟨bd, od, none⟩))), (2, (.pointer (some ⟨bc, oc, none⟩))), (3, (.pointer (some ⟨bl, ol, none⟩))), (11, (.int .i64 (↑m : Int))), (12, (.int .i64 (↑k : Int))), (5, (.int .i64 (↑k : Int)))] (by kernel_rfl) (by kernel_rfl) ?_
      refine St.reg K123_6 [(0, true), (1, true), (2, true), (3, false), (4, true), (5, true), (6, true), (7, false), (8, true), (9, true)] (by kernel_rfl) (by kernel_rfl) ?_
      refine RX.q 3 [(0, true, (.func (.func 111) #[.pointer (some vd2)] #[])), (1, true, (.int .i64 lost))] [(0, (.func (.yield l) #[] #[])), (1, (.pointer (some ⟨bd, od, none⟩))), (2, (.pointer (some ⟨bc, oc, none⟩))), (3, (.pointer (some ⟨bl, ol, none⟩))), (11, (.int .i64 (↑m : Int))), (12, (.int .i64 (↑k : Int))), (5, (.int .i64 (↑k : Int))), (15, (.func (.func 111) #[.pointer (some vd2)] #[])), (16, (.int .i64 lost)), (17, (.int .i64 (↑k : Int)))] [.cell ⟨bc, oc + 0, none⟩ (.func (.func 111) #[.pointer (some vd2)] #[]), .cell ⟨bl, ol + 0, none⟩ (.int .i64 lost)] (by kernel_rfl) ⟨Cl.cell (hbc w2 hE) rfl, Cl.cell (hbl w2 hE) rfl⟩ ?_
      refine RX.call 18 111 #[.pointer (some vd2), (.int .i64 lost), (.int .i64 (↑k : Int))] [(0, (.func (.yield l) #[] #[])), (1, (.pointer (some ⟨bd, od, none⟩))), (2, (.pointer (some ⟨bc, oc, none⟩))), (3, (.pointer (some ⟨bl, ol, none⟩))), (11, (.int .i64 (↑m : Int))), (12, (.int .i64 (↑k : Int))), (5, (.int .i64 (↑k : Int))), (15, (.func (.func 111) #[.pointer (some vd2)] #[])), (16, (.int .i64 lost)), (17, (.int .i64 (↑k : Int)))] (fun _ => by kernel_rfl) (by kernel_rfl) ?_
      refine Fn.mono (hcan k w2 (by omega) hE) ?_
      rintro _ w4 ⟨hx4, rfl⟩
      have hE4 : Upd (l :: S) w w4 := Upd.ext hE hx4
      have hJ4 : J (mayF R m k) w4 := Stays.ext (hxJ _) hJk hx4
      cases hR : R k with
      | true =>
        refine RX.q 3 [] [(0, (.func (.yield l) #[] #[])), (1, (.pointer (some ⟨bd, od, none⟩))), (2, (.pointer (some ⟨bc, oc, none⟩))), (3, (.pointer (some ⟨bl, ol, none⟩))), (11, (.int .i64 (↑m : Int))), (12, (.int .i64 (↑k : Int))), (19, (.bool true)), (20, (.func (.yield l) #[] #[])), (21, (.int .i64 (↑k : Int)))] [] (by kernel_rfl) trivial ?_
        rw [mayF_yes (by omega) hR] at hJ4
        refine RX.yield 22 l #[(.int .i64 (↑k : Int))] [(0, (.func (.yield l) #[] #[])), (1, (.pointer (some ⟨bd, od, none⟩))), (2, (.pointer (some ⟨bc, oc, none⟩))), (3, (.pointer (some ⟨bl, ol, none⟩))), (11, (.int .i64 (↑m : Int))), (12, (.int .i64 (↑k : Int))), (19, (.bool true)), (20, (.func (.yield l) #[] #[])), (21, (.int .i64 (↑k : Int)))] (by kernel_rfl) ?_
        refine Yield.mono (hy k _ w4 (mem_mayF.2 ⟨by omega, by omega, hR⟩) hJ4 hE4) ?_
        rintro _ w5 ⟨hu5, ⟨rfl, hv⟩ | ⟨rfl, hv⟩⟩
        · refine RX.q 2 [] [(0, (.func (.yield l) #[] #[])), (1, (.pointer (some ⟨bd, od, none⟩))), (2, (.pointer (some ⟨bc, oc, none⟩))), (3, (.pointer (some ⟨bl, ol, none⟩))), (11, (.int .i64 (↑m : Int))), (12, (.int .i64 (↑k : Int))), (24, (.bool false))] [] (by kernel_rfl) trivial ?_
          refine RX.done [(0, (.func (.yield l) #[] #[])), (1, (.pointer (some ⟨bd, od, none⟩))), (2, (.pointer (some ⟨bc, oc, none⟩))), (3, (.pointer (some ⟨bl, ol, none⟩))), (11, (.int .i64 (↑m : Int))), (12, (.int .i64 (↑k : Int))), (24, (.bool false))] (by kernel_rfl) (by kernel_rfl) ?_
          refine St.cond (k1 := K123_7) (k2 := K123_8) false (by kernel_rfl) (fun hc => ?_) (fun hc => ?_)
          · cases hc
          · clear hc
            refine St.weak (L' := [(12, (.int .i64 (↑k : Int))), (11, (.int .i64 (↑m : Int))), (0, (.func (.yield l) #[] #[])), (1, (.pointer (some ⟨bd, od, none⟩))), (2, (.pointer (some ⟨bc, oc, none⟩))), (3, (.pointer (some ⟨bl, ol, none⟩)))]) (by kernel_rfl) ?_
            refine St.reg K123_1 [(0, true), (1, true)] (by kernel_rfl) (by kernel_rfl) ?_
            refine RX.q 2 [(0, false, (.int .i64 ((↑k : Int) + 1)))] [(0, (.func (.yield l) #[] #[])), (1, (.pointer (some ⟨bd, od, none⟩))), (2, (.pointer (some ⟨bc, oc, none⟩))), (3, (.pointer (some ⟨bl, ol, none⟩))), (11, (.int .i64 (↑m : Int))), (12, (.int .i64 ((↑k : Int) + 1)))] [.eq (.int .i64 (IntKind.i64.wrap ((↑k : Int) + 1))) (.int .i64 ((↑k : Int) + 1))] (by kernel_rfl) (int64 (by omega)) ?_
            refine RX.done [(0, (.func (.yield l) #[] #[])), (1, (.pointer (some ⟨bd, od, none⟩))), (2, (.pointer (some ⟨bc, oc, none⟩))), (3, (.pointer (some ⟨bl, ol, none⟩))), (11, (.int .i64 (↑m : Int))), (12, (.int .i64 ((↑k : Int) + 1)))] (by kernel_rfl) (by kernel_rfl) ?_
            refine St.weak (by kernel_rfl) (ih4 _ ?_ (k + 1) w5 (by omega) hv hu5 rfl)
            omega
        · refine RX.q 2 [] [(0, (.func (.yield l) #[] #[])), (1, (.pointer (some ⟨bd, od, none⟩))), (2, (.pointer (some ⟨bc, oc, none⟩))), (3, (.pointer (some ⟨bl, ol, none⟩))), (11, (.int .i64 (↑m : Int))), (12, (.int .i64 (↑k : Int))), (24, (.bool true))] [] (by kernel_rfl) trivial ?_
          refine RX.done [(0, (.func (.yield l) #[] #[])), (1, (.pointer (some ⟨bd, od, none⟩))), (2, (.pointer (some ⟨bc, oc, none⟩))), (3, (.pointer (some ⟨bl, ol, none⟩))), (11, (.int .i64 (↑m : Int))), (12, (.int .i64 (↑k : Int))), (24, (.bool true))] (by kernel_rfl) (by kernel_rfl) ?_
          refine St.cond (k1 := K123_7) (k2 := K123_8) true (by kernel_rfl) (fun hc => ?_) (fun hc => ?_)
          · clear hc
            refine St.weak (L' := []) (by kernel_rfl) ?_
            refine St.ret [] [] (by kernel_rfl) Try.func123 (by kernel_rfl) .nil ?_
            exact ⟨hu5, .inr hv⟩
          · cases hc
      | false =>
        refine RX.q 3 [] [(0, (.func (.yield l) #[] #[])), (1, (.pointer (some ⟨bd, od, none⟩))), (2, (.pointer (some ⟨bc, oc, none⟩))), (3, (.pointer (some ⟨bl, ol, none⟩))), (11, (.int .i64 (↑m : Int))), (12, (.int .i64 (↑k : Int))), (19, (.bool false)), (20, undef), (21, undef)] [] (by kernel_rfl) trivial ?_
        refine RX.skip [(0, (.func (.yield l) #[] #[])), (1, (.pointer (some ⟨bd, od, none⟩))), (2, (.pointer (some ⟨bc, oc, none⟩))), (3, (.pointer (some ⟨bl, ol, none⟩))), (11, (.int .i64 (↑m : Int))), (12, (.int .i64 (↑k : Int))), (19, (.bool false)), (20, undef), (21, undef), (22, undef)] (by kernel_rfl) ?_
        refine RX.q 2 [] [(0, (.func (.yield l) #[] #[])), (1, (.pointer (some ⟨bd, od, none⟩))), (2, (.pointer (some ⟨bc, oc, none⟩))), (3, (.pointer (some ⟨bl, ol, none⟩))), (11, (.int .i64 (↑m : Int))), (12, (.int .i64 (↑k : Int))), (24, (.bool false))] [] (by kernel_rfl) trivial ?_
        refine RX.done [(0, (.func (.yield l) #[] #[])), (1, (.pointer (some ⟨bd, od, none⟩))), (2, (.pointer (some ⟨bc, oc, none⟩))), (3, (.pointer (some ⟨bl, ol, none⟩))), (11, (.int .i64 (↑m : Int))), (12, (.int .i64 (↑k : Int))), (24, (.bool false))] (by kernel_rfl) (by kernel_rfl) ?_
        refine St.cond (k1 := K123_7) (k2 := K123_8) false (by kernel_rfl) (fun hc => ?_) (fun hc => ?_)
        · cases hc
        · clear hc
          refine St.weak (L' := [(12, (.int .i64 (↑k : Int))), (11, (.int .i64 (↑m : Int))), (0, (.func (.yield l) #[] #[])), (1, (.pointer (some ⟨bd, od, none⟩))), (2, (.pointer (some ⟨bc, oc, none⟩))), (3, (.pointer (some ⟨bl, ol, none⟩)))]) (by kernel_rfl) ?_
          refine St.reg K123_1 [(0, true), (1, true)] (by kernel_rfl) (by kernel_rfl) ?_
          refine RX.q 2 [(0, false, (.int .i64 ((↑k : Int) + 1)))] [(0, (.func (.yield l) #[] #[])), (1, (.pointer (some ⟨bd, od, none⟩))), (2, (.pointer (some ⟨bc, oc, none⟩))), (3, (.pointer (some ⟨bl, ol, none⟩))), (11, (.int .i64 (↑m : Int))), (12, (.int .i64 ((↑k : Int) + 1)))] [.eq (.int .i64 (IntKind.i64.wrap ((↑k : Int) + 1))) (.int .i64 ((↑k : Int) + 1))] (by kernel_rfl) (int64 (by omega)) ?_
          refine RX.done [(0, (.func (.yield l) #[] #[])), (1, (.pointer (some ⟨bd, od, none⟩))), (2, (.pointer (some ⟨bc, oc, none⟩))), (3, (.pointer (some ⟨bl, ol, none⟩))), (11, (.int .i64 (↑m : Int))), (12, (.int .i64 ((↑k : Int) + 1)))] (by kernel_rfl) (by kernel_rfl) ?_
          refine St.weak (by kernel_rfl) (ih4 _ ?_ (k + 1) w4 (by omega) (by rw [← mayF_no (by omega) hR]; exact hJ4) hE4 rfl)
          omega
    · have hh52 : (↑m : Int) ≤ (↑k : Int) := by simpa using hc7
      clear hc7
      refine St.weak (L' := []) (by kernel_rfl) ?_
      refine St.ret [] [] (by kernel_rfl) Try.func123 (by kernel_rfl) .nil ?_
      refine ⟨hE, .inl ?_⟩
      rw [← mayF_end (R := R) (m := m) (k := k) (by omega)]; exact hJk
  exact St.weak (by kernel_rfl) (loop1 _ 0 w (by omega) hJ (Upd.refl (l :: S) w) rfl)
/-- As the contract of may, but rounds may write what was new when the range began. -/
theorem is_may_up : ∀ (p : Shs.den is_may.cap) (es : List (Shs.den is_may.elem)), is_may.run p = some es → ∀ (g : Gh) (vs : List Value), RepVs g (encs id is_may.cap p) vs →
    ∀ (l : Nat) (S : List Nat) (J : List (Shs.den is_may.elem) → World → Prop) (Q : World → Prop) (w : World), (∀ b o, g.M b = some o → b ∉ l :: S ∧ w.heap[b]? = some o) → (∀ k ∈ l :: S, k < w.heap.size) → J es w → (∀ r, Stays w.heap.size (J r)) → Stays w.heap.size Q →
      (∀ m r w1 us, J (m :: r) w1 → Upd (l :: S) w w1 → RepVs g00 (encs id is_may.elem m) us → Yield Try.prog l us.toArray w1 (fun v w2 => Upd (l :: S) w w2 ∧ ((v = .bool true ∧ J r w2) ∨ (v = .bool false ∧ Q w2)))) →
      Fn Try.prog 123 (#[.func (.yield l) #[] #[]] ++ vs.toArray) w (fun _ w' => Upd (l :: S) w w' ∧ (J [] w' ∨ Q w')) := by
  intro p es hes g vs hvs l S J Q w hM hS hJ hxJ hxQ hy
  obtain ⟨⟨d, ⟨⟩⟩, ⟨⟨⟨d', ⟨⟩⟩, ⟨⟩⟩, ⟨⟩⟩, lost, ⟨⟩⟩ := p
  simp only [mayR] at hes
  split at hes
  rotate_left
  · cases hes
  rename_i hc
  simp only [Option.some.injEq] at hes
  subst hes
  obtain ⟨⟨ha0, ha1⟩, hf, hA, hS'⟩ := hc
  obtain ⟨i, rfl⟩ : ∃ n : Nat, lost = n := ⟨lost.toNat, (Int.toNat_of_nonneg ha0).symm⟩
  simp only [Int.toNat_natCast] at hJ ⊢
  simp only [encs, enc, RepVs, RepV] at hvs
  obtain ⟨v1, r1, rfl, ⟨bd, od, wd, td, ud, rfl, hbd, hsd, hcd⟩, v2, r2, rfl, ⟨bc, oc, wc, tc, uc, rfl, hbc, hsc, hcc⟩, v3, r3, rfl, ⟨bl, ol, wl, tl, ul, rfl, hbl, hsl, hcl⟩, rfl⟩ := hvs
  obtain ⟨rfl, hin⟩ := hcl
  obtain ⟨x1, x2, rfl, ⟨x3, rfl, hx⟩, rfl⟩ := hcd
  simp only [RepV] at hx
  obtain ⟨bo, oo, wo, to, uo, rfl, hbo, hso, hco⟩ := hx
  obtain ⟨y1, y2, rfl, ⟨y3, rfl, hy'⟩, rfl⟩ := hcc
  simp only [RepV, RepVs] at hy'
  obtain ⟨va, vc, rfl, ⟨z1, z2, rfl, ⟨be, oe, we, te, ue, rfl, hbe, hse, hce⟩, rfl⟩, rfl⟩ := hy'
  simp only [RepPs, PartOf, RepV] at hco
  obtain ⟨p1, q1, rfl, ⟨e1, rfl, h1⟩, p2, q2, rfl, ⟨e2, rfl, h2⟩, p3, q3, rfl, ⟨e3, rfl, h3⟩, p4, q4, rfl, ⟨e4, rfl, h4⟩, hrest⟩ := hco
  obtain ⟨hl4, fa, fc, rfl, hfc, hf4⟩ := h4
  have hmem : ∀ w', Upd (l :: S) w w' → ∀ b o, g.M b = some o → w'.heap[b]? = some o := fun w' hu b o hb => hu.blk (hM b o hb).2 (hM b o hb).1
  have hrd : RepV ⟨fun _ => none, g.M⟩ (enc id shD d') (.pointer (some ⟨be, oe, none⟩)) := ⟨be, oe, we, te, ue, rfl, hbe, hse, hce⟩
  have hfn := may1_up l bd od bc oc bl ol ⟨bo, oo, none⟩ ⟨be, oe, none⟩ (i : Int) d.2.2.2.1.length fa fc (canD d' i) S (fun r => J (r.map fun (j : Nat) => ((j : Int), ()))) Q w
    (fun w' hu => Cl.of_seg (hmem w' hu _ _ hbd) hsd) (fun w' hu => Cl.of_seg (hmem w' hu _ _ hbc) hsc) (fun w' hu => Cl.of_seg (hmem w' hu _ _ hbl) hsl)
    (fun w' hu => Cl.cell (Cl.of_seg (hmem w' hu _ _ hbo) hso) (i := 3) rfl)
    (fun k w' h1 hu => Fn.mono (call_pure (sp_can_ok 200) rfl (p := ((d', ((i : Int), ((k : Int), ()))), ())) (r := ((canD d' i k, ()), ())) (by
        show ((can_S 200 d' i k).bind fun r => some ((r, ()), ())) = _
        rw [can_v hA hS' (by omega) (by omega)]; rfl) (hmem w' hu) ⟨_, _, rfl, hrd, _, _, rfl, ⟨rfl, (show inR .i64 (i : Int) from inR_small (by omega))⟩, _, _, rfl, ⟨rfl, (show inR .i64 (k : Int) from inR_small (by omega))⟩, rfl⟩) (fun v w2 ⟨h1, g', h2⟩ => ⟨h1, by
      simp only [altOf, encs, enc, resVal, RepV] at h2
      exact h2⟩))
    (by omega) hJ (fun r => hxJ _) (fun m r w1 hm hj hu => hy ((m : Int), ()) (r.map fun (j : Nat) => ((j : Int), ())) w1 [.int .i64 (m : Int)] hj hu ⟨_, _, rfl, ⟨rfl, inR_small (by have := (mem_mayF.1 hm).2.1; omega)⟩, rfl⟩)
  exact hfn
noncomputable def c128 : Code := (Try.f128.body).getD .skip
noncomputable def K128_0 : List Item := [.code (sub c128 [0]), .code (sub c128 [1])]
noncomputable def K128_1 : List Item := [.code (sub c128 [1, 0, 0]), .code (sub c128 [1, 0, 1]), .code (sub c128 [1, 1])]
noncomputable def K128_2 : List Item := [.code (sub c128 [1, 0, 1, 0]), .inBlock 0, .code (sub c128 [1, 1])]
noncomputable def K128_3 : List Item := [.code (sub c128 [1, 1, 0]), .code (sub c128 [1, 1, 1])]
noncomputable def K128_4 : List Item := [.code (sub c128 [1, 1, 1])]
noncomputable def K128_a : List Item := [.code (sub c128 [1, 0, 1, 0, 0]), .beginRound, .code (sub c128 [1, 0, 1, 0, 1])]
noncomputable def K128_b : List Item := [.beginRound, .code (sub c128 [1, 0, 1, 0, 1])]
noncomputable def K128_c : List Item := [.code (sub c128 [1, 0, 1, 0, 1, 0]), .inBlock 1]
/-- What has been appended, and what is still to come. -/
def AppJ (all : List Int) (bc D lo : Nat) (tm : Array Value) (w0 : World) (es : List Int) (w : World) : Prop :=
  ∃ (l : List Int) (v : Value) (ab : List Nat), all = l ++ es ∧ Blk w bc [v] 23 ∧ Acc 3 1 lo w v l.length (l.map (.int .i64)) ab ∧
    w.heap[D + 1]? = some (.loop (lrec 128 tm #[7] (sub c128 [1, 0, 1, 0, 0]) (sub c128 [1, 0, 1, 0, 1]) D .ready none))
set_option maxHeartbeats 1000000 in
theorem appseq_fn {p : Shs.den is_may.cap} {es : List (Int × Unit)} (hes : is_may.run p = some es) (hlen : es.length ≤ 1000000) (g : Gh) (vc : List Value) (hvc : RepVs g (encs id is_may.cap p) vc) (w : World) (hM : ∀ b o, g.M b = some o → w.heap[b]? = some o) :
    Fn Try.prog 128 #[.slice none 0 0, .func (.func 123) #[] vc.toArray] w (fun v w' => Ext w w' ∧ ∃ ab, Acc 3 1 w.heap.size w' v es.length ((es.map (·.1)).map (.int .i64)) ab) := by
  have hMb : ∀ b o, g.M b = some o → b < w.heap.size := fun b o h => lt_of_blk (hM b o h)
  obtain ⟨hue, hel, by_, zv, hT, hZ⟩ := elemT_of (P := Try.prog) (t := 23) (e := 3) (y := .int .i64) (by kernel_rfl)
  have hT : ElemT Try.prog 23 3 1 by_ zv := hT
  refine Fn.ofSt (c := c128) 13 K128_0 [(0, .slice none 0 0), (1, .func (.func 123) #[] vc.toArray)] Try.func128 (by kernel_rfl) ⟨⟨rfl, by kernel_rfl⟩, by kernel_rfl⟩ (by kernel_rfl) ?_
  intro cs
  refine St.reg K128_1 [(0, false), (1, true)] (by kernel_rfl) (by kernel_rfl) ?_
  refine RX.new 2 (.cells #[.slice none 0 0] 23) .ptr [(0, .slice none 0 0), (1, .func (.func 123) #[] vc.toArray)] (by kernel_rfl) ?_
  intro bc w1 hn1
  have hsz1 := hn1.size; have hat1 := hn1.at_
  have hb1 : Blk w1 bc [.slice none 0 0] 23 := hn1.blk
  refine RX.q 1 [] [(1, .func (.func 123) #[] vc.toArray), (2, .pointer (some ⟨bc, 0, none⟩))] [] (by kernel_rfl) trivial ?_
  refine RX.done [(1, .func (.func 123) #[] vc.toArray), (2, .pointer (some ⟨bc, 0, none⟩))] (by kernel_rfl) (by kernel_rfl) ?_
  refine St.reg K128_2 [(0, true)] (by kernel_rfl) (by kernel_rfl) ?_
  refine RX.q 1 [] [(6, .func (.func 123) #[] vc.toArray), (2, .pointer (some ⟨bc, 0, none⟩))] [] (by kernel_rfl) trivial ?_
  refine RX.done [(6, .func (.func 123) #[] vc.toArray), (2, .pointer (some ⟨bc, 0, none⟩))] (by kernel_rfl) (by kernel_rfl) ?_
  refine St.rangeFunc (g := .tmp 6) (ps := #[7]) (assign := (sub c128 [1, 0, 1, 0, 0])) (body := (sub c128 [1, 0, 1, 0, 1])) (k := K128_2.tail) 123 #[] vc.toArray rfl (by kernel_rfl) (by kernel_rfl) (fun _ => by kernel_rfl) ?_
  intro tm w2 htm hx2 hsz2 hD hL
  obtain ⟨D, hDe⟩ : ∃ D, D = w1.heap.size := ⟨_, rfl⟩
  rw [← hDe] at hsz2 hD hL ⊢
  have hl : w2.heap[D + 1]? = some (.loop (lrec 128 tm #[7] (sub c128 [1, 0, 1, 0, 0]) (sub c128 [1, 0, 1, 0, 1]) D .ready none)) := hL
  have hb2 : Blk w2 bc [.slice none 0 0] 23 := Ext.blk hx2 hb1
  have hE2 : Ext w w2 := hn1.ext.trans hx2
  have hsz := hE2.size
  have hfn := is_may_up p es hes g vc hvc (D + 1) [bc] (fun r wv => AppJ (es.map (·.1)) bc D w2.heap.size tm w2 (r.map (·.1)) wv) (fun _ => False) w2
    (fun b o h => ⟨fun hm => by have := hMb b o h; simp at hm; omega, Ext.blk hE2 (hM b o h)⟩) (fun k hk => by simp at hk; omega)
    ⟨[], .slice none 0 0, [], rfl, hb2, Acc.nil 3 1 _ _, hl⟩ ?_ (fun _ _ _ h _ _ => h) ?_
  rotate_left
  · -- blocks that the function that is ranged over may change
    rintro r wa wb T ⟨l, v, ab, e1, h1, h2, h3⟩ hu hT
    refine ⟨l, v, ab, e1, hu.blk h1 (fun hk => by have := (hT _ hk).1; omega), h2.upd hu (fun k hk hkT => ?_), hu.blk h3 (fun hk => by have := (hT _ hk).1; omega)⟩
    obtain ⟨h4, h5⟩ := h2
    rcases h5 with ⟨_, _, rfl⟩ | ⟨b, cap, rest, _, rfl, _, _, _, ty, hB⟩
    · cases hk
    · simp at hk
      subst hk
      exact (hT _ hkT).2 _ _ _ hB
  · -- a round
    rintro ⟨x, ⟨⟩⟩ r wa us ⟨l, v, ab, e1, h1, h2, h3⟩ hU hus
    simp only [encs, enc, RepVs, RepV] at hus
    obtain ⟨v1, us', rfl, ⟨rfl, hx⟩, rfl⟩ := hus
    have hszU := hU.size
    have habl := h2.lt
    refine Yield.one K128_a [(7, .int .i64 x), (6, .func (.func 123) #[] vc.toArray), (2, .pointer (some ⟨bc, 0, none⟩))] h3 htm (by kernel_rfl) (by kernel_rfl) (fun c cs => ?_)
    refine St.reg K128_b [(0, true)] (by kernel_rfl) (by kernel_rfl) ?_
    refine RX.q 1 [] [(5, .int .i64 x), (2, .pointer (some ⟨bc, 0, none⟩))] [] (by kernel_rfl) trivial ?_
    refine RX.done [(5, .int .i64 x), (2, .pointer (some ⟨bc, 0, none⟩))] (by kernel_rfl) (by kernel_rfl) ?_
    refine St.beginRound (k' := K128_c) h3 rfl (by kernel_rfl) ?_
    intro wb hp
    have hlb : wb.heap[D + 1]? = some (.loop (lrec 128 tm #[7] (sub c128 [1, 0, 1, 0, 0]) (sub c128 [1, 0, 1, 0, 1]) D .busy none)) := hp.blk
    have hszb := hp.size
    have hab : ∀ k ∈ ab, k ∉ [D + 1] := fun k hk hk2 => by
      have h4 := (habl k hk).1
      simp at hk2; omega
    have hB1 : Blk wb bc [v] 23 := hp.upd.blk h1 (by simp; omega)
    have hA1 := h2.upd hp.upd hab
    refine St.reg [] [(0, true), (1, true), (2, false), (3, false), (4, false)] (by kernel_rfl) (by kernel_rfl) ?_
    refine RX.q 2 [(0, true, v)] [(8, v), (9, .int .i64 x), (2, .pointer (some ⟨bc, 0, none⟩))] [.cell ⟨bc, 0, none⟩ v] (by kernel_rfl) (Blk.cell hB1 rfl) ?_
    refine RX.new 10 (.cells #[.int .i64 x] 3) (.sl 1) [(8, v), (9, .int .i64 x), (2, .pointer (some ⟨bc, 0, none⟩))] (by kernel_rfl) ?_
    intro bx wc hnc
    have hszc := hnc.size; have hatc := hnc.at_
    have hBx : Blk wc bx [.int .i64 x] 3 := hnc.blk
    have hA2 := hA1.ext hnc.ext
    have hall : l.length + 1 ≤ 1000000 := by
      have : (es.map (·.1)).length = l.length + (x :: r.map (·.1)).length := by rw [e1]; simp
      simp at this; omega
    obtain ⟨v', wd, ab', hr, hA3, hU3, hab', -⟩ := append_run (P := Try.prog) (u := 23) (ty := 23) (lo2 := 0) (x := .slice (some ⟨bx, 0, none⟩) 1 1) (m := 1) (xs := [.int .i64 x]) hT (by kernel_rfl) hA2
      ⟨_, 1, rfl, Nat.le_refl _, rfl, .inr ⟨bx, 0, rfl, Nat.zero_le _, lt_of_blk hBx, fun i u hi => by rw [addr_add, Nat.zero_add]; exact Blk.cell hBx hi⟩⟩ (fun c hc => by simp at hc; subst hc; rfl) (by omega) (by omega)
    obtain ⟨av, cv, rfl⟩ := hA3.shape
    refine RX.run 11 (Builtin.append_ #[23, 23] 23 #[v, .slice (some ⟨bx, 0, none⟩) 1 1]) [(10, .slice (some ⟨bx, 0, none⟩) 1 1), (8, v), (9, .int .i64 x), (2, .pointer (some ⟨bc, 0, none⟩))] (by kernel_rfl) hr ?_
    have habc : ∀ k ∈ ab, k ∉ [bc] := fun k hk hk2 => by
      have h4 := (habl k hk).1
      simp at hk2; omega
    have hB3 : Blk wd bc [v] 23 := hU3.blk (Ext.blk hnc.ext hB1) (fun hk => habc _ hk (by simp))
    have hlc : wd.heap[D + 1]? = some (.loop (lrec 128 tm #[7] (sub c128 [1, 0, 1, 0, 0]) (sub c128 [1, 0, 1, 0, 1]) D .busy none)) := hU3.blk (Ext.blk hnc.ext hlb) (fun hk => hab _ hk (by simp))
    have hszd := hU3.size
    refine RX.store1 bc 0 (.slice av (l.length + 1) cv) [v] 23 (by kernel_rfl) rfl hB3 (by simp) ?_
    intro we hpe
    have hsze := hpe.size
    refine RX.done [] (by kernel_rfl) (by kernel_rfl) ?_
    have hab3 : ∀ k ∈ ab', w2.heap.size ≤ k := fun k hk => hA3.lt k hk |>.1
    have hBe : Blk we bc [.slice av (l.length + 1) cv] 23 := hpe.blk
    have hAe := hA3.upd hpe.upd (fun k hk hk2 => by have := hab3 k hk; simp at hk2; omega)
    have hle : we.heap[D + 1]? = some (.loop (lrec 128 tm #[7] (sub c128 [1, 0, 1, 0, 0]) (sub c128 [1, 0, 1, 0, 1]) D .busy none)) := hpe.upd.blk hlc (by simp; omega)
    refine St.roundEnd hle ?_
    intro wf hpf
    have hUf : Upd [D + 1, bc] w2 wf := by
      have u1 : Upd [D + 1, bc] w2 wd := ((hU.trans (hp.upd.mono (fun k hk => by simp at hk; simp [hk]))).trans hnc.ext.up).trans_old hU3 (fun k hk => (habl k hk).1)
      exact (u1.trans (hpe.upd.mono (fun k hk => by simp at hk; simp [hk]))).trans (hpf.upd.mono (fun k hk => by simp at hk; simp [hk]))
    refine ⟨hUf, .inl ⟨rfl, l ++ [x], .slice av (l.length + 1) cv, ab', by rw [e1]; simp, hpf.upd.blk hBe (by simp; omega), ?_, hpf.blk⟩⟩
    have := hAe.upd hpf.upd (fun k hk hk2 => by have := hab3 k hk; simp at hk2; omega)
    simpa using this
  refine Fn.mono hfn ?_
  rintro _ w3 ⟨hU3, ⟨l, v, ab, e1, h1, h2, h3⟩ | h⟩
  rotate_left
  · exact h.elim
  simp only [List.map_nil, List.append_nil] at e1
  subst e1
  refine ⟨_, h3, by simp [lrec], fun w4 hp4 => ?_⟩
  have hsz3 := hU3.size; have hsz4 := hp4.size
  have habl := h2.lt
  have hD4 : w4.heap[D]? = some (.deferred (some [])) := hp4.upd.blk (hU3.blk hD (by simp; omega)) (by simp)
  have hb4 : Blk w4 bc [v] 23 := hp4.upd.blk h1 (by simp; omega)
  have hA4 := h2.upd hp4.upd (fun k hk hk2 => by have := (habl k hk).1; simp at hk2; omega)
  refine At.norm 99 (k' := K128_3) (by kernel_rfl) ?_
  refine St.toAt (n := 13) (L := [(6, .func (.func 123) #[] vc.toArray), (2, .pointer (some ⟨bc, 0, none⟩))]) ?_ htm
  refine St.reg K128_4 [(0, true), (1, true)] (by kernel_rfl) (by kernel_rfl) ?_
  refine RX.q 2 [(0, true, v)] [(4, v)] [.cell ⟨bc, 0, none⟩ v] (by kernel_rfl) (Blk.cell hb4 rfl) ?_
  refine RX.done [(4, v)] (by kernel_rfl) (by kernel_rfl) ?_
  refine St.retMarks [D] [.tmp 4] [v] (by kernel_rfl) Try.func128 (by kernel_rfl) (by simp) (by simpa using hD4) (fun w5 hu5 hsz5 => ⟨.cons (.tmp (by kernel_rfl)) .nil, ?_, ab, ?_⟩)
  · exact (((hE2.trans_old hU3 (fun k hk => by simp at hk; omega)).trans_old hp4.upd (fun k hk => by simp at hk; omega))).trans_old hu5 (fun k hk => by simp at hk; omega)
  · have := hA4.upd hu5 (fun k hk hk2 => by have := (habl k hk).1; simp at hk2; omega)
    obtain ⟨q1, q2⟩ := this
    refine ⟨by simpa using q1, ?_⟩
    rcases q2 with ⟨q2, q3, q4⟩ | ⟨b, cap, rest, q2, q3, q4, q5⟩
    · exact .inl ⟨q2, by simpa using q3, q4⟩
    · exact .inr ⟨b, cap, rest, by rw [List.length_map] at q2; exact q2, q3, by omega, by simpa using q5⟩
def appseq_S (_N : Nat) (d d' : Dk) (i : Int) : Option Li := (mayR d d' i).map fun es => es.map (·.1)
noncomputable def sp_appseq (N : Nat) : Spec := { f := 128, ins := ⟨[.nils, .fn 123 [] is_may.cap], []⟩, outs := [⟨[.ols 0], [.lst (.int .i64)]⟩], run := fun p k => (appseq_S N p.1.2.1.2.1.1 p.1.2.1.2.2.1.1.1.1 p.1.2.1.2.2.2.1).bind fun r => k (((), ()), (r, ())) }
theorem mayR_small {d d' : Dk} {i : Int} {es : List (Int × Unit)} (h : mayR d d' i = some es) : es.length ≤ 6 ∧ ∀ x ∈ es.map (·.1), inR .i64 x := by
  unfold mayR at h
  split at h
  rotate_left
  · cases h
  rename_i hc
  simp only [Option.some.injEq] at h
  subst h
  refine ⟨?_, fun x hx => ?_⟩
  · have h1 := List.length_filter_le (canD d' i.toNat) (List.range' 0 (d.2.2.2.1.length - 0))
    rw [List.length_map]
    unfold mayF
    rw [List.length_range'] at h1
    omega
  · rw [List.map_map, List.mem_map] at hx
    obtain ⟨k, hk, rfl⟩ := hx
    have := (mem_mayF.1 hk).2.1
    exact inR_small (by show -1000000 ≤ (k : Int) ∧ (k : Int) ≤ 1000000; omega)
theorem sp_appseq_ok (N : Nat) : SpecOK Try.prog (sp_appseq N) := by
  refine ⟨fun Z p κ => ?_, fun args w => Sem.pv_run _ _ _ (by kernel_rfl) w, fun p r hpr g w vs hv hs hρ => ?_⟩
  · show ((appseq_S N _ _ _).bind _) = ((appseq_S N _ _ _).bind _).bind κ
    cases appseq_S N p.1.2.1.2.1.1 p.1.2.1.2.2.1.1.1.1 p.1.2.1.2.2.2.1 <;> rfl
  · obtain ⟨⟨⟨⟩, ⟨⟨⟩, q⟩, ⟨⟩⟩, ⟨⟩⟩ := p
    have hpr' : ((mayR q.1.1 q.2.1.1.1.1 q.2.2.1).map fun es => es.map (·.1)).bind (fun r : Li => some ((((), ()), (r, ())) : (Unit × Unit) × (Li × Unit))) = some r := hpr
    cases hes : mayR q.1.1 q.2.1.1.1.1 q.2.2.1 with
    | none => rw [hes] at hpr'; cases hpr'
    | some es =>
      rw [hes] at hpr'
      have e : ((((), ()), (es.map (·.1), ())) : (Unit × Unit) × (Li × Unit)) = r := Option.some.inj hpr'
      subst e
      have hv : RepVs g [.nils, .fn 123 [] (encs id is_may.cap q)] vs := hv
      simp only [RepVs] at hv
      obtain ⟨v, us, rfl, hv0, v2, us2, rfl, hv2, rfl⟩ := hv
      simp only [RepV, RepVs] at hv0 hv2
      obtain ⟨va, vc, rfl, rfl, hvc⟩ := hv2
      subst hv0
      obtain ⟨hl, hin⟩ := mayR_small hes
      refine Fn.mono (appseq_fn (p := q) hes (by omega) g vc hvc w hs.mem) ?_
      rintro v w' ⟨hE, ab, h1, h2⟩
      refine own_new (y := .int .i64) (l := es.map (·.1)) hs (fun i => hρ i (Nat.zero_le _)) hE (by show (es.map (·.1)).length ≤ 1000000; rw [List.length_map]; omega) ?_
      rcases h2 with ⟨rfl, h3, _⟩ | ⟨b, cap, rest, rfl, _, h3, h4, h5, ty, h6⟩
      · refine .inl ⟨rfl, ?_⟩
        have : es = [] := List.eq_nil_of_length_eq_zero h3
        rw [this]; rfl
      · refine .inr ⟨b, cap, (es.map (·.1)).map (.int .i64), rest, ty, ?_, h3, h6, (repL_i2 _ _).2 ⟨rfl, hin⟩, ?_, ?_⟩
        · show _ = Value.slice (some ⟨b, 0, none⟩) (es.map (·.1)).length cap
          rw [List.length_map]
        · show (es.map (·.1)).length ≤ cap ∧ _
          rw [List.length_map]; exact h4
        · show rest.length = (cap - (es.map (·.1)).length) * 1
          rw [List.length_map]; exact h5
end Go.Proofs.Ythncjilcflilcaa

namespace Go.Proofs.Ythncjilcflilcaa
set_option linter.all false
open Go

def fasked_j1 (N : Nat) (rec : Int → Int → Int → Int → Bool → Int → Li → Ll → Int → Int → Li → Int → Int → Li → Int → Ll → Ll → Li → Option ((Unit) ⊕ ((Unit) ⊕ ((Unit) ⊕ (Int × Int × Int × Int × Bool × Ll × Int × Int × Li × Int × Ll × Ll × Li))))) (found : Int) (trait : Int) (most : Int) (e_ : Int) (open_ : Bool) (k : Int) (l : Li) (u : Ll) (u2 : Int) (u3 : Int) (u4 : Li) (u5 : Int) (u6 : Int) (d : Li) (d2 : Int) (d3 : Ll) (d4 : Ll) (d5 : Li) : Option ((Unit) ⊕ ((Unit) ⊕ ((Unit) ⊕ (Int × Int × Int × Int × Bool × Ll × Int × Int × Li × Int × Ll × Ll × Li)))) :=
  chk (u6 + 1) <|
  rec found trait most e_ open_ k l u u2 u3 u4 u5 (u6 + 1) d d2 d3 d4 d5
def fasked_l3 (N : Nat) : Nat → Int → Int → Int → Int → Bool → Int → Li → Int → Int → Ll → Int → Int → Li → Int → Int → Int → Li → Int → Ll → Ll → Li → Option ((Unit) ⊕ (Int × Int × Int × Int × Bool × Int × Li × Int × Int × Ll × Int × Int × Li × Int × Int × Li × Int × Ll × Ll × Li))
  | 0, _, _, _, _, _, _, _, _, _, _, _, _, _, _, _, _, _, _, _, _, _ => none
  | n_ + 1, found, trait, most, e_, open_, k, l, t, n, u, u2, u3, u4, u5, u6, u7, d, d2, d3, d4, d5 =>
    br (decide (u7 < 6))
      ((with__S N d d2 d3 d4 d5 k t u7).bind fun (x_24, y_25, y_26, y_27, y_28, y_29) =>
      (count_S N x_24 y_25 y_26 y_27 y_28).bind fun (x_30, y_31) =>
      br (!decide (y_29 = 0))
        (some (.inl ()))
        (br (!decide (y_31 = 0))
          (some (.inl ()))
          (br (!decide ((y_27.length : Int) = (d4.length : Int)))
            (some (.inl ()))
            (idx y_27 k fun x_32 =>
            br (!decide ((x_32.length : Int) = (l.length : Int)))
              (some (.inl ()))
              (idx y_27 k fun x_33 =>
              idx x_33 t fun x_34 =>
              br (!decide (x_34 = u7))
                (some (.inl ()))
                (chk (u7 + 1) <|
                fasked_l3 N n_ found trait most e_ open_ k l t (max n x_30) u u2 u3 u4 u5 u6 (u7 + 1) d d2 d3 d4 d5))))))
      (some (.inr (found, trait, most, e_, open_, k, l, t, n, u, u2, u3, u4, u5, u6, d, d2, d3, d4, d5)))
def fasked_l2 (N : Nat) : Nat → Int → Int → Int → Int → Bool → Int → Li → Ll → Int → Int → Li → Int → Int → Li → Int → Ll → Ll → Li → Option ((Unit) ⊕ ((Unit) ⊕ ((Unit) ⊕ (Int × Int × Int × Int × Bool × Ll × Int × Int × Li × Int × Ll × Ll × Li))))
  | 0, _, _, _, _, _, _, _, _, _, _, _, _, _, _, _, _, _, _ => none
  | n_ + 1, found, trait, most, e_, open_, k, l, u, u2, u3, u4, u5, u6, d, d2, d3, d4, d5 =>
    br (decide (u6 < u5))
      (idx u4 u6 fun x_17 =>
      br (!decide (x_17 = -1))
        ((with__S N d d2 d3 d4 d5 k u6 0).bind fun (x_18, y_19, y_20, y_21, y_22, y_23) =>
        br (!decide (y_23 = 5))
          (some (.inl ()))
          (fasked_j1 N (fasked_l2 N n_) found trait most e_ open_ k l u u2 u3 u4 u5 u6 d d2 d3 d4 d5))
        ((fasked_l3 N N found trait most e_ true k l u6 0 u u2 u3 u4 u5 u6 0 d d2 d3 d4 d5).bind fun e => match e with
        | .inl _ =>
          some (.inr (.inl ()))
        | .inr (found_35, trait_36, most_37, e__38, open__39, k_40, l_41, t_42, n_43, u_44, u2_45, u3_46, u4_47, u5_48, u6_49, d_50, d2_51, d3_52, d4_53, d5_54) =>
          br (!decide (e__38 = 0))
            (some (.inr (.inr (.inl ()))))
            (br (decide (n_43 < most_37))
              (some (.inr (.inr (.inl ()))))
              (br (decide (k_40 = found_35))
                (br (decide (t_42 = trait_36))
                  (br (!decide (n_43 = most_37))
                    (some (.inr (.inr (.inl ()))))
                    (br (decide (n_43 = most_37))
                      (br (decide (k_40 < found_35))
                        (some (.inr (.inr (.inl ()))))
                        (br (decide (k_40 = found_35))
                          (br (decide (t_42 < trait_36))
                            (some (.inr (.inr (.inl ()))))
                            (fasked_j1 N (fasked_l2 N n_) found_35 trait_36 most_37 e__38 open__39 k_40 l_41 u_44 u2_45 u3_46 u4_47 u5_48 u6_49 d_50 d2_51 d3_52 d4_53 d5_54))
                          (fasked_j1 N (fasked_l2 N n_) found_35 trait_36 most_37 e__38 open__39 k_40 l_41 u_44 u2_45 u3_46 u4_47 u5_48 u6_49 d_50 d2_51 d3_52 d4_53 d5_54)))
                      (fasked_j1 N (fasked_l2 N n_) found_35 trait_36 most_37 e__38 open__39 k_40 l_41 u_44 u2_45 u3_46 u4_47 u5_48 u6_49 d_50 d2_51 d3_52 d4_53 d5_54)))
                  (br (decide (n_43 = most_37))
                    (br (decide (k_40 < found_35))
                      (some (.inr (.inr (.inl ()))))
                      (br (decide (k_40 = found_35))
                        (br (decide (t_42 < trait_36))
                          (some (.inr (.inr (.inl ()))))
                          (fasked_j1 N (fasked_l2 N n_) found_35 trait_36 most_37 e__38 open__39 k_40 l_41 u_44 u2_45 u3_46 u4_47 u5_48 u6_49 d_50 d2_51 d3_52 d4_53 d5_54))
                        (fasked_j1 N (fasked_l2 N n_) found_35 trait_36 most_37 e__38 open__39 k_40 l_41 u_44 u2_45 u3_46 u4_47 u5_48 u6_49 d_50 d2_51 d3_52 d4_53 d5_54)))
                    (fasked_j1 N (fasked_l2 N n_) found_35 trait_36 most_37 e__38 open__39 k_40 l_41 u_44 u2_45 u3_46 u4_47 u5_48 u6_49 d_50 d2_51 d3_52 d4_53 d5_54)))
                (br (decide (n_43 = most_37))
                  (br (decide (k_40 < found_35))
                    (some (.inr (.inr (.inl ()))))
                    (br (decide (k_40 = found_35))
                      (br (decide (t_42 < trait_36))
                        (some (.inr (.inr (.inl ()))))
                        (fasked_j1 N (fasked_l2 N n_) found_35 trait_36 most_37 e__38 open__39 k_40 l_41 u_44 u2_45 u3_46 u4_47 u5_48 u6_49 d_50 d2_51 d3_52 d4_53 d5_54))
                      (fasked_j1 N (fasked_l2 N n_) found_35 trait_36 most_37 e__38 open__39 k_40 l_41 u_44 u2_45 u3_46 u4_47 u5_48 u6_49 d_50 d2_51 d3_52 d4_53 d5_54)))
                  (fasked_j1 N (fasked_l2 N n_) found_35 trait_36 most_37 e__38 open__39 k_40 l_41 u_44 u2_45 u3_46 u4_47 u5_48 u6_49 d_50 d2_51 d3_52 d4_53 d5_54))))))
      (some (.inr (.inr (.inr (found, trait, most, e_, open_, u, u2, u3, d, d2, d3, d4, d5)))))
def fasked_l1 (N : Nat) : Nat → Int → Int → Int → Int → Bool → Ll → Int → Int → Li → Int → Ll → Ll → Li → Option ((Unit) ⊕ ((Unit) ⊕ ((Unit) ⊕ (Int × Bool))))
  | 0, _, _, _, _, _, _, _, _, _, _, _, _, _ => none
  | n_ + 1, found, trait, most, e_, open_, u, u2, u3, d, d2, d3, d4, d5 =>
    br (decide (u3 < u2))
      (idx u u3 fun x_16 =>
      (fasked_l2 N N found trait most e_ open_ u3 x_16 u u2 u3 x_16 (x_16.length : Int) 0 d d2 d3 d4 d5).bind fun e => match e with
      | .inl _ =>
        some (.inl ())
      | .inr (.inl _) =>
        some (.inr (.inl ()))
      | .inr (.inr (.inl _)) =>
        some (.inr (.inr (.inl ())))
      | .inr (.inr (.inr (found_55, trait_56, most_57, e__58, open__59, u_60, u2_61, u3_62, d_63, d2_64, d3_65, d4_66, d5_67))) =>
        chk (u3_62 + 1) <|
        fasked_l1 N n_ found_55 trait_56 most_57 e__58 open__59 u_60 u2_61 (u3_62 + 1) d_63 d2_64 d3_65 d4_66 d5_67)
      (some (.inr (.inr (.inr (e_, open_)))))
def fasked_S (N : Nat) (numbers : Li) : Option Bool :=
  (hang_S N numbers).bind fun (x_1, y_2, y_3) =>
  (made_S N 4 x_1 y_2 y_3).bind fun (x_4, y_5, y_6, y_7, y_8, y_9, y_10, y_11) =>
  (ask_S N x_4 y_5 y_6 y_7 y_8).bind fun (x_12, y_13, y_14, y_15) =>
  (fasked_l1 N N x_12 y_13 y_14 y_15 false y_7 (y_7.length : Int) 0 x_4 y_5 y_6 y_7 y_8).bind fun e => match e with
  | .inl _ =>
    some false
  | .inr (.inl _) =>
    some false
  | .inr (.inr (.inl _)) =>
    some false
  | .inr (.inr (.inr (e__68, open__69))) =>
    br (!open__69)
      (br (decide (e__68 = 6))
        ((awake_S N).bind fun x_70 =>
        some x_70)
        (some false))
      (br (decide (e__68 = 0))
        ((awake_S N).bind fun x_71 =>
        some x_71)
        (some false))
noncomputable def fasked_sp (N : Nat) : List Spec := [sp_hang N, sp_count N, sp_with_ N, sp_ask N, sp_awake N, sp_made N]
theorem fasked_all (N : Nat) : AllP (SpecOK Try.prog) (fasked_sp N) := ⟨sp_hang_ok N, sp_count_ok N, sp_with__ok N, sp_ask_ok N, sp_awake_ok N, sp_made_ok N, trivial⟩
noncomputable def fasked_c : Code := (Try.f5.body).getD .skip
noncomputable abbrev fasked_B : Body := { c := fasked_c, n := 171, res := [.tmp 2], outs := [⟨[.b], []⟩], m0 := 0 }
abbrev fasked_rt : altD fasked_B.outs → Option Bool := fun r => some r.1.1
abbrev fasked_l2_at : List PI := [.c [1, 1, 1, 1, 0, 1, 0, 0, 1, 1, 0, 0, 1, 1, 0, 0, 0], .c [1, 1, 1, 1, 0, 1, 0, 0, 1, 1, 0, 0, 1, 1, 0, 0, 1], .l [1, 1, 1, 1, 0, 1, 0, 0, 1, 1, 0, 0, 1, 1, 0, 0], .b 2, .b 1, .c [1, 1, 1, 1, 0, 1, 0, 0, 1, 1, 1], .l [1, 1, 1, 1, 0, 1, 0, 0], .b 0, .c [1, 1, 1, 1, 1]]
abbrev fasked_l2_st : Sta := ⟨[3, 4, 5, 6, 7, 8, 9, 10, 32, 33, 34, 39, 40, 41], ⟨[.own 0 0, shI, shI, shI, shI, .b, shI, shL, shQ, shI, shI, shL, shI, shI], [.segs [shL, shI, shQ, shQ, shL]]⟩⟩
abbrev fasked_l2_h (rec : Int → Int → Int → Int → Bool → Int → Li → Ll → Int → Int → Li → Int → Int → Li → Int → Ll → Ll → Li → Option ((Unit) ⊕ ((Unit) ⊕ ((Unit) ⊕ (Int × Int × Int × Int × Bool × Ll × Int × Int × Li × Int × Ll × Ll × Li))))) : Leaf ((Unit) ⊕ ((Unit) ⊕ ((Unit) ⊕ (Int × Int × Int × Int × Bool × Ll × Int × Int × Li × Int × Ll × Ll × Li)))) := ⟨fasked_l2_at, fasked_l2_st, fun p => rec p.1.2.1 p.1.2.2.1 p.1.2.2.2.1 p.1.2.2.2.2.1 p.1.2.2.2.2.2.1 p.1.2.2.2.2.2.2.1 p.1.2.2.2.2.2.2.2.1 p.1.2.2.2.2.2.2.2.2.1 p.1.2.2.2.2.2.2.2.2.2.1 p.1.2.2.2.2.2.2.2.2.2.2.1 p.1.2.2.2.2.2.2.2.2.2.2.2.1 p.1.2.2.2.2.2.2.2.2.2.2.2.2.1 p.1.2.2.2.2.2.2.2.2.2.2.2.2.2.1 p.2.1.1 p.2.1.2.1 p.2.1.2.2.1 p.2.1.2.2.2.1 p.2.1.2.2.2.2.1⟩
abbrev fasked_l2_e0 : Leaf ((Unit) ⊕ ((Unit) ⊕ ((Unit) ⊕ (Int × Int × Int × Int × Bool × Ll × Int × Int × Li × Int × Ll × Ll × Li)))) := ⟨[.c [1, 1, 1, 1, 0, 1, 0, 0, 1, 1, 0, 0, 1, 1, 0, 0, 1, 1, 0, 0, 1, 0, 1, 0, 0, 1, 1, 0, 0], .c [1, 1, 1, 1, 0, 1, 0, 0, 1, 1, 0, 0, 1, 1, 0, 0, 1, 1, 0, 0, 1, 0, 1, 0, 0, 1, 1, 0, 1], .c [1, 1, 1, 1, 0, 1, 0, 0, 1, 1, 0, 0, 1, 1, 0, 0, 1, 1, 0, 0, 1, 0, 1, 0, 1], .c [1, 1, 1, 1, 0, 1, 0, 0, 1, 1, 0, 0, 1, 1, 0, 0, 1, 1, 0, 0, 1, 1], .b 3, .c [1, 1, 1, 1, 0, 1, 0, 0, 1, 1, 0, 0, 1, 1, 0, 0, 1, 1, 1], .l [1, 1, 1, 1, 0, 1, 0, 0, 1, 1, 0, 0, 1, 1, 0, 0], .b 2, .b 1, .c [1, 1, 1, 1, 0, 1, 0, 0, 1, 1, 1], .l [1, 1, 1, 1, 0, 1, 0, 0], .b 0, .c [1, 1, 1, 1, 1]], ⟨[], ⟨[], []⟩⟩, fun p => some (.inl ())⟩
abbrev fasked_l2_e1 : Leaf ((Unit) ⊕ ((Unit) ⊕ ((Unit) ⊕ (Int × Int × Int × Int × Bool × Ll × Int × Int × Li × Int × Ll × Ll × Li)))) := ⟨[.c [1, 1, 1, 1, 0, 1, 0, 0, 1, 1, 0, 0, 1, 1, 0, 0, 1, 1, 0, 0, 1, 1, 1, 1, 0, 1, 0, 0, 1, 1, 0, 0, 1, 1, 1, 0, 1, 0, 0], .c [1, 1, 1, 1, 0, 1, 0, 0, 1, 1, 0, 0, 1, 1, 0, 0, 1, 1, 0, 0, 1, 1, 1, 1, 0, 1, 0, 0, 1, 1, 0, 0, 1, 1, 1, 0, 1, 0, 1], .c [1, 1, 1, 1, 0, 1, 0, 0, 1, 1, 0, 0, 1, 1, 0, 0, 1, 1, 0, 0, 1, 1, 1, 1, 0, 1, 0, 0, 1, 1, 0, 0, 1, 1, 1, 1], .b 5, .c [1, 1, 1, 1, 0, 1, 0, 0, 1, 1, 0, 0, 1, 1, 0, 0, 1, 1, 0, 0, 1, 1, 1, 1, 0, 1, 0, 0, 1, 1, 1], .l [1, 1, 1, 1, 0, 1, 0, 0, 1, 1, 0, 0, 1, 1, 0, 0, 1, 1, 0, 0, 1, 1, 1, 1, 0, 1, 0, 0], .b 4, .c [1, 1, 1, 1, 0, 1, 0, 0, 1, 1, 0, 0, 1, 1, 0, 0, 1, 1, 0, 0, 1, 1, 1, 1, 1], .b 3, .c [1, 1, 1, 1, 0, 1, 0, 0, 1, 1, 0, 0, 1, 1, 0, 0, 1, 1, 1], .l [1, 1, 1, 1, 0, 1, 0, 0, 1, 1, 0, 0, 1, 1, 0, 0], .b 2, .b 1, .c [1, 1, 1, 1, 0, 1, 0, 0, 1, 1, 1], .l [1, 1, 1, 1, 0, 1, 0, 0], .b 0, .c [1, 1, 1, 1, 1]], ⟨[], ⟨[], []⟩⟩, fun p => some (.inr (.inl ()))⟩
abbrev fasked_l2_e2 : Leaf ((Unit) ⊕ ((Unit) ⊕ ((Unit) ⊕ (Int × Int × Int × Int × Bool × Ll × Int × Int × Li × Int × Ll × Ll × Li)))) := ⟨[.c [1, 1, 1, 1, 0, 1, 0, 0, 1, 1, 0, 0, 1, 1, 0, 0, 1, 1, 0, 0, 1, 1, 1, 1, 1, 1, 0, 0], .c [1, 1, 1, 1, 0, 1, 0, 0, 1, 1, 0, 0, 1, 1, 0, 0, 1, 1, 0, 0, 1, 1, 1, 1, 1, 1, 0, 1], .b 3, .c [1, 1, 1, 1, 0, 1, 0, 0, 1, 1, 0, 0, 1, 1, 0, 0, 1, 1, 1], .l [1, 1, 1, 1, 0, 1, 0, 0, 1, 1, 0, 0, 1, 1, 0, 0], .b 2, .b 1, .c [1, 1, 1, 1, 0, 1, 0, 0, 1, 1, 1], .l [1, 1, 1, 1, 0, 1, 0, 0], .b 0, .c [1, 1, 1, 1, 1]], ⟨[], ⟨[], []⟩⟩, fun p => some (.inr (.inr (.inl ())))⟩
abbrev fasked_l2_e3 : Leaf ((Unit) ⊕ ((Unit) ⊕ ((Unit) ⊕ (Int × Int × Int × Int × Bool × Ll × Int × Int × Li × Int × Ll × Ll × Li)))) := ⟨[.c [1, 1, 1, 1, 0, 1, 0, 0, 1, 1, 1], .l [1, 1, 1, 1, 0, 1, 0, 0], .b 0, .c [1, 1, 1, 1, 1]], ⟨[3, 4, 5, 6, 7, 8, 32, 33, 34], ⟨[.own 0 0, shI, shI, shI, shI, .b, shQ, shI, shI], [.segs [shL, shI, shQ, shQ, shL]]⟩⟩, fun p => some (.inr (.inr (.inr (p.1.2.1, p.1.2.2.1, p.1.2.2.2.1, p.1.2.2.2.2.1, p.1.2.2.2.2.2.1, p.1.2.2.2.2.2.2.1, p.1.2.2.2.2.2.2.2.1, p.1.2.2.2.2.2.2.2.2.1, p.2.1.1, p.2.1.2.1, p.2.1.2.2.1, p.2.1.2.2.2.1, p.2.1.2.2.2.2.1))))⟩
abbrev fasked_j1_at : List PI := [.c [1, 1, 1, 1, 0, 1, 0, 0, 1, 1, 0, 0, 1, 1, 0, 0, 1, 1, 1], .l [1, 1, 1, 1, 0, 1, 0, 0, 1, 1, 0, 0, 1, 1, 0, 0], .b 2, .b 1, .c [1, 1, 1, 1, 0, 1, 0, 0, 1, 1, 1], .l [1, 1, 1, 1, 0, 1, 0, 0], .b 0, .c [1, 1, 1, 1, 1]]
abbrev fasked_j1_st : Sta := ⟨[3, 4, 5, 6, 7, 8, 9, 10, 32, 33, 34, 39, 40, 41], ⟨[.own 0 0, shI, shI, shI, shI, .b, shI, shL, shQ, shI, shI, shL, shI, shI], [.segs [shL, shI, shQ, shQ, shL]]⟩⟩
abbrev fasked_j1_k (N : Nat) (rec : Int → Int → Int → Int → Bool → Int → Li → Ll → Int → Int → Li → Int → Int → Li → Int → Ll → Ll → Li → Option ((Unit) ⊕ ((Unit) ⊕ ((Unit) ⊕ (Int × Int × Int × Int × Bool × Ll × Int × Int × Li × Int × Ll × Ll × Li))))) : Leaf ((Unit) ⊕ ((Unit) ⊕ ((Unit) ⊕ (Int × Int × Int × Int × Bool × Ll × Int × Int × Li × Int × Ll × Ll × Li)))) := ⟨fasked_j1_at, fasked_j1_st, fun p => fasked_j1 N rec p.1.2.1 p.1.2.2.1 p.1.2.2.2.1 p.1.2.2.2.2.1 p.1.2.2.2.2.2.1 p.1.2.2.2.2.2.2.1 p.1.2.2.2.2.2.2.2.1 p.1.2.2.2.2.2.2.2.2.1 p.1.2.2.2.2.2.2.2.2.2.1 p.1.2.2.2.2.2.2.2.2.2.2.1 p.1.2.2.2.2.2.2.2.2.2.2.2.1 p.1.2.2.2.2.2.2.2.2.2.2.2.2.1 p.1.2.2.2.2.2.2.2.2.2.2.2.2.2.1 p.2.1.1 p.2.1.2.1 p.2.1.2.2.1 p.2.1.2.2.2.1 p.2.1.2.2.2.2.1⟩
theorem fasked_j1_eq (N : Nat) (rec : Int → Int → Int → Int → Bool → Int → Li → Ll → Int → Int → Li → Int → Int → Li → Int → Ll → Ll → Li → Option ((Unit) ⊕ ((Unit) ⊕ ((Unit) ⊕ (Int × Int × Int × Int × Bool × Ll × Int × Int × Li × Int × Ll × Ll × Li))))) (found : Int) (trait : Int) (most : Int) (e_ : Int) (open_ : Bool) (k : Int) (l : Li) (u : Ll) (u2 : Int) (u3 : Int) (u4 : Li) (u5 : Int) (u6 : Int) (d : Li) (d2 : Int) (d3 : Ll) (d4 : Ll) (d5 : Li) : ev (Z := (Unit) ⊕ ((Unit) ⊕ ((Unit) ⊕ (Int × Int × Int × Int × Bool × Ll × Int × Int × Li × Int × Ll × Ll × Li)))) Try.prog (fasked_sp N) fasked_B [] [fasked_l2_h rec, fasked_l2_e0, fasked_l2_e1, fasked_l2_e2, fasked_l2_e3] none 400 true fasked_j1_at (stL fasked_j1_st (((), found, trait, most, e_, open_, k, l, u, u2, u3, u4, u5, u6, ()), ((d, d2, d3, d4, d5, ()), ()))) (stH fasked_j1_st (((), found, trait, most, e_, open_, k, l, u, u2, u3, u4, u5, u6, ()), ((d, d2, d3, d4, d5, ()), ()))) = fasked_j1 N rec found trait most e_ open_ k l u u2 u3 u4 u5 u6 d d2 d3 d4 d5 := by kernel_rfl
theorem fasked_j1_lf (N : Nat) (rec : Int → Int → Int → Int → Bool → Int → Li → Ll → Int → Int → Li → Int → Int → Li → Int → Ll → Ll → Li → Option ((Unit) ⊕ ((Unit) ⊕ ((Unit) ⊕ (Int × Int × Int × Int × Bool × Ll × Int × Int × Li × Int × Ll × Ll × Li))))) {z : (Unit) ⊕ ((Unit) ⊕ ((Unit) ⊕ (Int × Int × Int × Int × Bool × Ll × Int × Int × Li × Int × Ll × Ll × Li)))} {top : Bool} {E : EE} {Xc : Ctx} (hE : EOK fasked_B.m0 E) (hX : CxOK top Xc) (hrec : LeafOK Try.prog fasked_B.c fasked_B.n fasked_B.m0 E Xc z (fasked_l2_h rec)) (h0 : LeafOK Try.prog fasked_B.c fasked_B.n fasked_B.m0 E Xc z fasked_l2_e0) (h1 : LeafOK Try.prog fasked_B.c fasked_B.n fasked_B.m0 E Xc z fasked_l2_e1) (h2 : LeafOK Try.prog fasked_B.c fasked_B.n fasked_B.m0 E Xc z fasked_l2_e2) (h3 : LeafOK Try.prog fasked_B.c fasked_B.n fasked_B.m0 E Xc z fasked_l2_e3) : LeafOK Try.prog fasked_B.c fasked_B.n fasked_B.m0 E Xc z (fasked_j1_k N rec) := leaf_of_ev (B := fasked_B) (loops := []) (leaves := [fasked_l2_h rec, fasked_l2_e0, fasked_l2_e1, fasked_l2_e2, fasked_l2_e3]) (fasked_all N) mixed trivial hE hX ⟨hrec, h0, h1, h2, h3, trivial⟩ RetOK.no (fun p => fasked_j1_eq N rec p.1.2.1 p.1.2.2.1 p.1.2.2.2.1 p.1.2.2.2.2.1 p.1.2.2.2.2.2.1 p.1.2.2.2.2.2.2.1 p.1.2.2.2.2.2.2.2.1 p.1.2.2.2.2.2.2.2.2.1 p.1.2.2.2.2.2.2.2.2.2.1 p.1.2.2.2.2.2.2.2.2.2.2.1 p.1.2.2.2.2.2.2.2.2.2.2.2.1 p.1.2.2.2.2.2.2.2.2.2.2.2.2.1 p.1.2.2.2.2.2.2.2.2.2.2.2.2.2.1 p.2.1.1 p.2.1.2.1 p.2.1.2.2.1 p.2.1.2.2.2.1 p.2.1.2.2.2.2.1)
abbrev fasked_l3_at : List PI := [.c [1, 1, 1, 1, 0, 1, 0, 0, 1, 1, 0, 0, 1, 1, 0, 0, 1, 1, 0, 0, 1, 1, 1, 1, 0, 1, 0, 0, 0], .c [1, 1, 1, 1, 0, 1, 0, 0, 1, 1, 0, 0, 1, 1, 0, 0, 1, 1, 0, 0, 1, 1, 1, 1, 0, 1, 0, 0, 1], .l [1, 1, 1, 1, 0, 1, 0, 0, 1, 1, 0, 0, 1, 1, 0, 0, 1, 1, 0, 0, 1, 1, 1, 1, 0, 1, 0, 0], .b 4, .c [1, 1, 1, 1, 0, 1, 0, 0, 1, 1, 0, 0, 1, 1, 0, 0, 1, 1, 0, 0, 1, 1, 1, 1, 1], .b 3, .c [1, 1, 1, 1, 0, 1, 0, 0, 1, 1, 0, 0, 1, 1, 0, 0, 1, 1, 1], .l [1, 1, 1, 1, 0, 1, 0, 0, 1, 1, 0, 0, 1, 1, 0, 0], .b 2, .b 1, .c [1, 1, 1, 1, 0, 1, 0, 0, 1, 1, 1], .l [1, 1, 1, 1, 0, 1, 0, 0], .b 0, .c [1, 1, 1, 1, 1]]
abbrev fasked_l3_st : Sta := ⟨[3, 4, 5, 6, 7, 8, 9, 10, 11, 15, 32, 33, 34, 39, 40, 41, 57], ⟨[.own 0 0, shI, shI, shI, shI, .b, shI, shL, shI, shI, shQ, shI, shI, shL, shI, shI, shI], [.segs [shL, shI, shQ, shQ, shL]]⟩⟩
abbrev fasked_l3_h (rec : Int → Int → Int → Int → Bool → Int → Li → Int → Int → Ll → Int → Int → Li → Int → Int → Int → Li → Int → Ll → Ll → Li → Option ((Unit) ⊕ (Int × Int × Int × Int × Bool × Int × Li × Int × Int × Ll × Int × Int × Li × Int × Int × Li × Int × Ll × Ll × Li))) : Leaf ((Unit) ⊕ (Int × Int × Int × Int × Bool × Int × Li × Int × Int × Ll × Int × Int × Li × Int × Int × Li × Int × Ll × Ll × Li)) := ⟨fasked_l3_at, fasked_l3_st, fun p => rec p.1.2.1 p.1.2.2.1 p.1.2.2.2.1 p.1.2.2.2.2.1 p.1.2.2.2.2.2.1 p.1.2.2.2.2.2.2.1 p.1.2.2.2.2.2.2.2.1 p.1.2.2.2.2.2.2.2.2.1 p.1.2.2.2.2.2.2.2.2.2.1 p.1.2.2.2.2.2.2.2.2.2.2.1 p.1.2.2.2.2.2.2.2.2.2.2.2.1 p.1.2.2.2.2.2.2.2.2.2.2.2.2.1 p.1.2.2.2.2.2.2.2.2.2.2.2.2.2.1 p.1.2.2.2.2.2.2.2.2.2.2.2.2.2.2.1 p.1.2.2.2.2.2.2.2.2.2.2.2.2.2.2.2.1 p.1.2.2.2.2.2.2.2.2.2.2.2.2.2.2.2.2.1 p.2.1.1 p.2.1.2.1 p.2.1.2.2.1 p.2.1.2.2.2.1 p.2.1.2.2.2.2.1⟩
abbrev fasked_l3_e0 : Leaf ((Unit) ⊕ (Int × Int × Int × Int × Bool × Int × Li × Int × Int × Ll × Int × Int × Li × Int × Int × Li × Int × Ll × Ll × Li)) := ⟨[.c [1, 1, 1, 1, 0, 1, 0, 0, 1, 1, 0, 0, 1, 1, 0, 0, 1, 1, 0, 0, 1, 1, 1, 1, 0, 1, 0, 0, 1, 1, 0, 0, 1, 1, 1, 0, 1, 0, 0], .c [1, 1, 1, 1, 0, 1, 0, 0, 1, 1, 0, 0, 1, 1, 0, 0, 1, 1, 0, 0, 1, 1, 1, 1, 0, 1, 0, 0, 1, 1, 0, 0, 1, 1, 1, 0, 1, 0, 1], .c [1, 1, 1, 1, 0, 1, 0, 0, 1, 1, 0, 0, 1, 1, 0, 0, 1, 1, 0, 0, 1, 1, 1, 1, 0, 1, 0, 0, 1, 1, 0, 0, 1, 1, 1, 1], .b 5, .c [1, 1, 1, 1, 0, 1, 0, 0, 1, 1, 0, 0, 1, 1, 0, 0, 1, 1, 0, 0, 1, 1, 1, 1, 0, 1, 0, 0, 1, 1, 1], .l [1, 1, 1, 1, 0, 1, 0, 0, 1, 1, 0, 0, 1, 1, 0, 0, 1, 1, 0, 0, 1, 1, 1, 1, 0, 1, 0, 0], .b 4, .c [1, 1, 1, 1, 0, 1, 0, 0, 1, 1, 0, 0, 1, 1, 0, 0, 1, 1, 0, 0, 1, 1, 1, 1, 1], .b 3, .c [1, 1, 1, 1, 0, 1, 0, 0, 1, 1, 0, 0, 1, 1, 0, 0, 1, 1, 1], .l [1, 1, 1, 1, 0, 1, 0, 0, 1, 1, 0, 0, 1, 1, 0, 0], .b 2, .b 1, .c [1, 1, 1, 1, 0, 1, 0, 0, 1, 1, 1], .l [1, 1, 1, 1, 0, 1, 0, 0], .b 0, .c [1, 1, 1, 1, 1]], ⟨[], ⟨[], []⟩⟩, fun p => some (.inl ())⟩
abbrev fasked_l3_e1 : Leaf ((Unit) ⊕ (Int × Int × Int × Int × Bool × Int × Li × Int × Int × Ll × Int × Int × Li × Int × Int × Li × Int × Ll × Ll × Li)) := ⟨[.c [1, 1, 1, 1, 0, 1, 0, 0, 1, 1, 0, 0, 1, 1, 0, 0, 1, 1, 0, 0, 1, 1, 1, 1, 1, 0], .c [1, 1, 1, 1, 0, 1, 0, 0, 1, 1, 0, 0, 1, 1, 0, 0, 1, 1, 0, 0, 1, 1, 1, 1, 1, 1], .b 3, .c [1, 1, 1, 1, 0, 1, 0, 0, 1, 1, 0, 0, 1, 1, 0, 0, 1, 1, 1], .l [1, 1, 1, 1, 0, 1, 0, 0, 1, 1, 0, 0, 1, 1, 0, 0], .b 2, .b 1, .c [1, 1, 1, 1, 0, 1, 0, 0, 1, 1, 1], .l [1, 1, 1, 1, 0, 1, 0, 0], .b 0, .c [1, 1, 1, 1, 1]], ⟨[3, 4, 5, 6, 7, 8, 9, 10, 11, 15, 32, 33, 34, 39, 40, 41], ⟨[.own 0 0, shI, shI, shI, shI, .b, shI, shL, shI, shI, shQ, shI, shI, shL, shI, shI], [.segs [shL, shI, shQ, shQ, shL]]⟩⟩, fun p => some (.inr (p.1.2.1, p.1.2.2.1, p.1.2.2.2.1, p.1.2.2.2.2.1, p.1.2.2.2.2.2.1, p.1.2.2.2.2.2.2.1, p.1.2.2.2.2.2.2.2.1, p.1.2.2.2.2.2.2.2.2.1, p.1.2.2.2.2.2.2.2.2.2.1, p.1.2.2.2.2.2.2.2.2.2.2.1, p.1.2.2.2.2.2.2.2.2.2.2.2.1, p.1.2.2.2.2.2.2.2.2.2.2.2.2.1, p.1.2.2.2.2.2.2.2.2.2.2.2.2.2.1, p.1.2.2.2.2.2.2.2.2.2.2.2.2.2.2.1, p.1.2.2.2.2.2.2.2.2.2.2.2.2.2.2.2.1, p.2.1.1, p.2.1.2.1, p.2.1.2.2.1, p.2.1.2.2.2.1, p.2.1.2.2.2.2.1))⟩
noncomputable def fasked_l3_L (N : Nat) : LoopS := { at_ := fasked_l3_at, sta := fasked_l3_st, exits := [([.c [1, 1, 1, 1, 0, 1, 0, 0, 1, 1, 0, 0, 1, 1, 0, 0, 1, 1, 0, 0, 1, 1, 1, 1, 0, 1, 0, 0, 1, 1, 0, 0, 1, 1, 1, 0, 1, 0, 0], .c [1, 1, 1, 1, 0, 1, 0, 0, 1, 1, 0, 0, 1, 1, 0, 0, 1, 1, 0, 0, 1, 1, 1, 1, 0, 1, 0, 0, 1, 1, 0, 0, 1, 1, 1, 0, 1, 0, 1], .c [1, 1, 1, 1, 0, 1, 0, 0, 1, 1, 0, 0, 1, 1, 0, 0, 1, 1, 0, 0, 1, 1, 1, 1, 0, 1, 0, 0, 1, 1, 0, 0, 1, 1, 1, 1], .b 5, .c [1, 1, 1, 1, 0, 1, 0, 0, 1, 1, 0, 0, 1, 1, 0, 0, 1, 1, 0, 0, 1, 1, 1, 1, 0, 1, 0, 0, 1, 1, 1], .l [1, 1, 1, 1, 0, 1, 0, 0, 1, 1, 0, 0, 1, 1, 0, 0, 1, 1, 0, 0, 1, 1, 1, 1, 0, 1, 0, 0], .b 4, .c [1, 1, 1, 1, 0, 1, 0, 0, 1, 1, 0, 0, 1, 1, 0, 0, 1, 1, 0, 0, 1, 1, 1, 1, 1], .b 3, .c [1, 1, 1, 1, 0, 1, 0, 0, 1, 1, 0, 0, 1, 1, 0, 0, 1, 1, 1], .l [1, 1, 1, 1, 0, 1, 0, 0, 1, 1, 0, 0, 1, 1, 0, 0], .b 2, .b 1, .c [1, 1, 1, 1, 0, 1, 0, 0, 1, 1, 1], .l [1, 1, 1, 1, 0, 1, 0, 0], .b 0, .c [1, 1, 1, 1, 1]], ⟨[], ⟨[], []⟩⟩), ([.c [1, 1, 1, 1, 0, 1, 0, 0, 1, 1, 0, 0, 1, 1, 0, 0, 1, 1, 0, 0, 1, 1, 1, 1, 1, 0], .c [1, 1, 1, 1, 0, 1, 0, 0, 1, 1, 0, 0, 1, 1, 0, 0, 1, 1, 0, 0, 1, 1, 1, 1, 1, 1], .b 3, .c [1, 1, 1, 1, 0, 1, 0, 0, 1, 1, 0, 0, 1, 1, 0, 0, 1, 1, 1], .l [1, 1, 1, 1, 0, 1, 0, 0, 1, 1, 0, 0, 1, 1, 0, 0], .b 2, .b 1, .c [1, 1, 1, 1, 0, 1, 0, 0, 1, 1, 1], .l [1, 1, 1, 1, 0, 1, 0, 0], .b 0, .c [1, 1, 1, 1, 1]], ⟨[3, 4, 5, 6, 7, 8, 9, 10, 11, 15, 32, 33, 34, 39, 40, 41], ⟨[.own 0 0, shI, shI, shI, shI, .b, shI, shL, shI, shI, shQ, shI, shI, shL, shI, shI], [.segs [shL, shI, shQ, shQ, shL]]⟩⟩)], run := fun p k => (fasked_l3 N N p.1.2.1 p.1.2.2.1 p.1.2.2.2.1 p.1.2.2.2.2.1 p.1.2.2.2.2.2.1 p.1.2.2.2.2.2.2.1 p.1.2.2.2.2.2.2.2.1 p.1.2.2.2.2.2.2.2.2.1 p.1.2.2.2.2.2.2.2.2.2.1 p.1.2.2.2.2.2.2.2.2.2.2.1 p.1.2.2.2.2.2.2.2.2.2.2.2.1 p.1.2.2.2.2.2.2.2.2.2.2.2.2.1 p.1.2.2.2.2.2.2.2.2.2.2.2.2.2.1 p.1.2.2.2.2.2.2.2.2.2.2.2.2.2.2.1 p.1.2.2.2.2.2.2.2.2.2.2.2.2.2.2.2.1 p.1.2.2.2.2.2.2.2.2.2.2.2.2.2.2.2.2.1 p.2.1.1 p.2.1.2.1 p.2.1.2.2.1 p.2.1.2.2.2.1 p.2.1.2.2.2.2.1).bind fun e => match e with | .inl x => k (.inl ((), ())) | .inr x => k (.inr (.inl (((), x.1, x.2.1, x.2.2.1, x.2.2.2.1, x.2.2.2.2.1, x.2.2.2.2.2.1, x.2.2.2.2.2.2.1, x.2.2.2.2.2.2.2.1, x.2.2.2.2.2.2.2.2.1, x.2.2.2.2.2.2.2.2.2.1, x.2.2.2.2.2.2.2.2.2.2.1, x.2.2.2.2.2.2.2.2.2.2.2.1, x.2.2.2.2.2.2.2.2.2.2.2.2.1, x.2.2.2.2.2.2.2.2.2.2.2.2.2.1, x.2.2.2.2.2.2.2.2.2.2.2.2.2.2.1, ()), ((x.2.2.2.2.2.2.2.2.2.2.2.2.2.2.2.1, x.2.2.2.2.2.2.2.2.2.2.2.2.2.2.2.2.1, x.2.2.2.2.2.2.2.2.2.2.2.2.2.2.2.2.2.1, x.2.2.2.2.2.2.2.2.2.2.2.2.2.2.2.2.2.2.1, x.2.2.2.2.2.2.2.2.2.2.2.2.2.2.2.2.2.2.2, ()), ())))) }
theorem fasked_l3_eq (N n_ : Nat) (found : Int) (trait : Int) (most : Int) (e_ : Int) (open_ : Bool) (k : Int) (l : Li) (t : Int) (n : Int) (u : Ll) (u2 : Int) (u3 : Int) (u4 : Li) (u5 : Int) (u6 : Int) (u7 : Int) (d : Li) (d2 : Int) (d3 : Ll) (d4 : Ll) (d5 : Li) : ev (Z := (Unit) ⊕ (Int × Int × Int × Int × Bool × Int × Li × Int × Int × Ll × Int × Int × Li × Int × Int × Li × Int × Ll × Ll × Li)) Try.prog (fasked_sp N) fasked_B [] [fasked_l3_h (fasked_l3 N n_), fasked_l3_e0, fasked_l3_e1] none 400 true fasked_l3_at (stL fasked_l3_st (((), found, trait, most, e_, open_, k, l, t, n, u, u2, u3, u4, u5, u6, u7, ()), ((d, d2, d3, d4, d5, ()), ()))) (stH fasked_l3_st (((), found, trait, most, e_, open_, k, l, t, n, u, u2, u3, u4, u5, u6, u7, ()), ((d, d2, d3, d4, d5, ()), ()))) = fasked_l3 N (n_ + 1) found trait most e_ open_ k l t n u u2 u3 u4 u5 u6 u7 d d2 d3 d4 d5 := by kernel_rfl
theorem fasked_l3_ok (N : Nat) {top : Bool} : LoopOK Try.prog fasked_B.c fasked_B.n fasked_B.m0 top (fasked_l3_L N) := loop_of_ev (Z := (Unit) ⊕ (Int × Int × Int × Int × Bool × Int × Li × Int × Int × Ll × Int × Int × Li × Int × Int × Li × Int × Ll × Ll × Li)) (N := N) (fun m p => fasked_l3 N m p.1.2.1 p.1.2.2.1 p.1.2.2.2.1 p.1.2.2.2.2.1 p.1.2.2.2.2.2.1 p.1.2.2.2.2.2.2.1 p.1.2.2.2.2.2.2.2.1 p.1.2.2.2.2.2.2.2.2.1 p.1.2.2.2.2.2.2.2.2.2.1 p.1.2.2.2.2.2.2.2.2.2.2.1 p.1.2.2.2.2.2.2.2.2.2.2.2.1 p.1.2.2.2.2.2.2.2.2.2.2.2.2.1 p.1.2.2.2.2.2.2.2.2.2.2.2.2.2.1 p.1.2.2.2.2.2.2.2.2.2.2.2.2.2.2.1 p.1.2.2.2.2.2.2.2.2.2.2.2.2.2.2.2.1 p.1.2.2.2.2.2.2.2.2.2.2.2.2.2.2.2.2.1 p.2.1.1 p.2.1.2.1 p.2.1.2.2.1 p.2.1.2.2.2.1 p.2.1.2.2.2.2.1) (fun e => match e with | .inl x => .inl ((), ()) | .inr x => .inr (.inl (((), x.1, x.2.1, x.2.2.1, x.2.2.2.1, x.2.2.2.2.1, x.2.2.2.2.2.1, x.2.2.2.2.2.2.1, x.2.2.2.2.2.2.2.1, x.2.2.2.2.2.2.2.2.1, x.2.2.2.2.2.2.2.2.2.1, x.2.2.2.2.2.2.2.2.2.2.1, x.2.2.2.2.2.2.2.2.2.2.2.1, x.2.2.2.2.2.2.2.2.2.2.2.2.1, x.2.2.2.2.2.2.2.2.2.2.2.2.2.1, x.2.2.2.2.2.2.2.2.2.2.2.2.2.2.1, ()), ((x.2.2.2.2.2.2.2.2.2.2.2.2.2.2.2.1, x.2.2.2.2.2.2.2.2.2.2.2.2.2.2.2.2.1, x.2.2.2.2.2.2.2.2.2.2.2.2.2.2.2.2.2.1, x.2.2.2.2.2.2.2.2.2.2.2.2.2.2.2.2.2.2.1, x.2.2.2.2.2.2.2.2.2.2.2.2.2.2.2.2.2.2.2, ()), ())))) (fun _ p k => bind_congr_ (fasked_l3 N N p.1.2.1 p.1.2.2.1 p.1.2.2.2.1 p.1.2.2.2.2.1 p.1.2.2.2.2.2.1 p.1.2.2.2.2.2.2.1 p.1.2.2.2.2.2.2.2.1 p.1.2.2.2.2.2.2.2.2.1 p.1.2.2.2.2.2.2.2.2.2.1 p.1.2.2.2.2.2.2.2.2.2.2.1 p.1.2.2.2.2.2.2.2.2.2.2.2.1 p.1.2.2.2.2.2.2.2.2.2.2.2.2.1 p.1.2.2.2.2.2.2.2.2.2.2.2.2.2.1 p.1.2.2.2.2.2.2.2.2.2.2.2.2.2.2.1 p.1.2.2.2.2.2.2.2.2.2.2.2.2.2.2.2.1 p.1.2.2.2.2.2.2.2.2.2.2.2.2.2.2.2.2.1 p.2.1.1 p.2.1.2.1 p.2.1.2.2.1 p.2.1.2.2.2.1 p.2.1.2.2.2.2.1) _ _ (fun e => by rcases e with x | x <;> rfl)) (fun _ => rfl) (fun m z E Xc hE hX hrec hx => leaf_of_ev (B := fasked_B) (loops := []) (leaves := [fasked_l3_h (fasked_l3 N m), fasked_l3_e0, fasked_l3_e1]) (fasked_all N) mixed trivial hE hX ⟨hrec, (fun p hp => by obtain rfl := Option.some.inj hp; exact hx), (fun p hp => by obtain rfl := Option.some.inj hp; exact hx), trivial⟩ RetOK.no (fun p => fasked_l3_eq N m p.1.2.1 p.1.2.2.1 p.1.2.2.2.1 p.1.2.2.2.2.1 p.1.2.2.2.2.2.1 p.1.2.2.2.2.2.2.1 p.1.2.2.2.2.2.2.2.1 p.1.2.2.2.2.2.2.2.2.1 p.1.2.2.2.2.2.2.2.2.2.1 p.1.2.2.2.2.2.2.2.2.2.2.1 p.1.2.2.2.2.2.2.2.2.2.2.2.1 p.1.2.2.2.2.2.2.2.2.2.2.2.2.1 p.1.2.2.2.2.2.2.2.2.2.2.2.2.2.1 p.1.2.2.2.2.2.2.2.2.2.2.2.2.2.2.1 p.1.2.2.2.2.2.2.2.2.2.2.2.2.2.2.2.1 p.1.2.2.2.2.2.2.2.2.2.2.2.2.2.2.2.2.1 p.2.1.1 p.2.1.2.1 p.2.1.2.2.1 p.2.1.2.2.2.1 p.2.1.2.2.2.2.1))
noncomputable def fasked_l2_L (N : Nat) : LoopS := { at_ := fasked_l2_at, sta := fasked_l2_st, exits := [([.c [1, 1, 1, 1, 0, 1, 0, 0, 1, 1, 0, 0, 1, 1, 0, 0, 1, 1, 0, 0, 1, 0, 1, 0, 0, 1, 1, 0, 0], .c [1, 1, 1, 1, 0, 1, 0, 0, 1, 1, 0, 0, 1, 1, 0, 0, 1, 1, 0, 0, 1, 0, 1, 0, 0, 1, 1, 0, 1], .c [1, 1, 1, 1, 0, 1, 0, 0, 1, 1, 0, 0, 1, 1, 0, 0, 1, 1, 0, 0, 1, 0, 1, 0, 1], .c [1, 1, 1, 1, 0, 1, 0, 0, 1, 1, 0, 0, 1, 1, 0, 0, 1, 1, 0, 0, 1, 1], .b 3, .c [1, 1, 1, 1, 0, 1, 0, 0, 1, 1, 0, 0, 1, 1, 0, 0, 1, 1, 1], .l [1, 1, 1, 1, 0, 1, 0, 0, 1, 1, 0, 0, 1, 1, 0, 0], .b 2, .b 1, .c [1, 1, 1, 1, 0, 1, 0, 0, 1, 1, 1], .l [1, 1, 1, 1, 0, 1, 0, 0], .b 0, .c [1, 1, 1, 1, 1]], ⟨[], ⟨[], []⟩⟩), ([.c [1, 1, 1, 1, 0, 1, 0, 0, 1, 1, 0, 0, 1, 1, 0, 0, 1, 1, 0, 0, 1, 1, 1, 1, 0, 1, 0, 0, 1, 1, 0, 0, 1, 1, 1, 0, 1, 0, 0], .c [1, 1, 1, 1, 0, 1, 0, 0, 1, 1, 0, 0, 1, 1, 0, 0, 1, 1, 0, 0, 1, 1, 1, 1, 0, 1, 0, 0, 1, 1, 0, 0, 1, 1, 1, 0, 1, 0, 1], .c [1, 1, 1, 1, 0, 1, 0, 0, 1, 1, 0, 0, 1, 1, 0, 0, 1, 1, 0, 0, 1, 1, 1, 1, 0, 1, 0, 0, 1, 1, 0, 0, 1, 1, 1, 1], .b 5, .c [1, 1, 1, 1, 0, 1, 0, 0, 1, 1, 0, 0, 1, 1, 0, 0, 1, 1, 0, 0, 1, 1, 1, 1, 0, 1, 0, 0, 1, 1, 1], .l [1, 1, 1, 1, 0, 1, 0, 0, 1, 1, 0, 0, 1, 1, 0, 0, 1, 1, 0, 0, 1, 1, 1, 1, 0, 1, 0, 0], .b 4, .c [1, 1, 1, 1, 0, 1, 0, 0, 1, 1, 0, 0, 1, 1, 0, 0, 1, 1, 0, 0, 1, 1, 1, 1, 1], .b 3, .c [1, 1, 1, 1, 0, 1, 0, 0, 1, 1, 0, 0, 1, 1, 0, 0, 1, 1, 1], .l [1, 1, 1, 1, 0, 1, 0, 0, 1, 1, 0, 0, 1, 1, 0, 0], .b 2, .b 1, .c [1, 1, 1, 1, 0, 1, 0, 0, 1, 1, 1], .l [1, 1, 1, 1, 0, 1, 0, 0], .b 0, .c [1, 1, 1, 1, 1]], ⟨[], ⟨[], []⟩⟩), ([.c [1, 1, 1, 1, 0, 1, 0, 0, 1, 1, 0, 0, 1, 1, 0, 0, 1, 1, 0, 0, 1, 1, 1, 1, 1, 1, 0, 0], .c [1, 1, 1, 1, 0, 1, 0, 0, 1, 1, 0, 0, 1, 1, 0, 0, 1, 1, 0, 0, 1, 1, 1, 1, 1, 1, 0, 1], .b 3, .c [1, 1, 1, 1, 0, 1, 0, 0, 1, 1, 0, 0, 1, 1, 0, 0, 1, 1, 1], .l [1, 1, 1, 1, 0, 1, 0, 0, 1, 1, 0, 0, 1, 1, 0, 0], .b 2, .b 1, .c [1, 1, 1, 1, 0, 1, 0, 0, 1, 1, 1], .l [1, 1, 1, 1, 0, 1, 0, 0], .b 0, .c [1, 1, 1, 1, 1]], ⟨[], ⟨[], []⟩⟩), ([.c [1, 1, 1, 1, 0, 1, 0, 0, 1, 1, 1], .l [1, 1, 1, 1, 0, 1, 0, 0], .b 0, .c [1, 1, 1, 1, 1]], ⟨[3, 4, 5, 6, 7, 8, 32, 33, 34], ⟨[.own 0 0, shI, shI, shI, shI, .b, shQ, shI, shI], [.segs [shL, shI, shQ, shQ, shL]]⟩⟩)], run := fun p k => (fasked_l2 N N p.1.2.1 p.1.2.2.1 p.1.2.2.2.1 p.1.2.2.2.2.1 p.1.2.2.2.2.2.1 p.1.2.2.2.2.2.2.1 p.1.2.2.2.2.2.2.2.1 p.1.2.2.2.2.2.2.2.2.1 p.1.2.2.2.2.2.2.2.2.2.1 p.1.2.2.2.2.2.2.2.2.2.2.1 p.1.2.2.2.2.2.2.2.2.2.2.2.1 p.1.2.2.2.2.2.2.2.2.2.2.2.2.1 p.1.2.2.2.2.2.2.2.2.2.2.2.2.2.1 p.2.1.1 p.2.1.2.1 p.2.1.2.2.1 p.2.1.2.2.2.1 p.2.1.2.2.2.2.1).bind fun e => match e with | .inl x => k (.inl ((), ())) | .inr (.inl x) => k (.inr (.inl ((), ()))) | .inr (.inr (.inl x)) => k (.inr (.inr (.inl ((), ())))) | .inr (.inr (.inr x)) => k (.inr (.inr (.inr (.inl (((), x.1, x.2.1, x.2.2.1, x.2.2.2.1, x.2.2.2.2.1, x.2.2.2.2.2.1, x.2.2.2.2.2.2.1, x.2.2.2.2.2.2.2.1, ()), ((x.2.2.2.2.2.2.2.2.1, x.2.2.2.2.2.2.2.2.2.1, x.2.2.2.2.2.2.2.2.2.2.1, x.2.2.2.2.2.2.2.2.2.2.2.1, x.2.2.2.2.2.2.2.2.2.2.2.2, ()), ())))))) }
theorem fasked_l2_eq (N n_ : Nat) (found : Int) (trait : Int) (most : Int) (e_ : Int) (open_ : Bool) (k : Int) (l : Li) (u : Ll) (u2 : Int) (u3 : Int) (u4 : Li) (u5 : Int) (u6 : Int) (d : Li) (d2 : Int) (d3 : Ll) (d4 : Ll) (d5 : Li) : ev (Z := (Unit) ⊕ ((Unit) ⊕ ((Unit) ⊕ (Int × Int × Int × Int × Bool × Ll × Int × Int × Li × Int × Ll × Ll × Li)))) Try.prog (fasked_sp N) fasked_B [fasked_l3_L N] [fasked_l2_h (fasked_l2 N n_), fasked_l2_e0, fasked_l2_e1, fasked_l2_e2, fasked_l2_e3, fasked_j1_k N (fasked_l2 N n_)] none 400 true fasked_l2_at (stL fasked_l2_st (((), found, trait, most, e_, open_, k, l, u, u2, u3, u4, u5, u6, ()), ((d, d2, d3, d4, d5, ()), ()))) (stH fasked_l2_st (((), found, trait, most, e_, open_, k, l, u, u2, u3, u4, u5, u6, ()), ((d, d2, d3, d4, d5, ()), ()))) = fasked_l2 N (n_ + 1) found trait most e_ open_ k l u u2 u3 u4 u5 u6 d d2 d3 d4 d5 := by kernel_rfl
theorem fasked_l2_ok (N : Nat) {top : Bool} : LoopOK Try.prog fasked_B.c fasked_B.n fasked_B.m0 top (fasked_l2_L N) := loop_of_ev (Z := (Unit) ⊕ ((Unit) ⊕ ((Unit) ⊕ (Int × Int × Int × Int × Bool × Ll × Int × Int × Li × Int × Ll × Ll × Li)))) (N := N) (fun m p => fasked_l2 N m p.1.2.1 p.1.2.2.1 p.1.2.2.2.1 p.1.2.2.2.2.1 p.1.2.2.2.2.2.1 p.1.2.2.2.2.2.2.1 p.1.2.2.2.2.2.2.2.1 p.1.2.2.2.2.2.2.2.2.1 p.1.2.2.2.2.2.2.2.2.2.1 p.1.2.2.2.2.2.2.2.2.2.2.1 p.1.2.2.2.2.2.2.2.2.2.2.2.1 p.1.2.2.2.2.2.2.2.2.2.2.2.2.1 p.1.2.2.2.2.2.2.2.2.2.2.2.2.2.1 p.2.1.1 p.2.1.2.1 p.2.1.2.2.1 p.2.1.2.2.2.1 p.2.1.2.2.2.2.1) (fun e => match e with | .inl x => .inl ((), ()) | .inr (.inl x) => .inr (.inl ((), ())) | .inr (.inr (.inl x)) => .inr (.inr (.inl ((), ()))) | .inr (.inr (.inr x)) => .inr (.inr (.inr (.inl (((), x.1, x.2.1, x.2.2.1, x.2.2.2.1, x.2.2.2.2.1, x.2.2.2.2.2.1, x.2.2.2.2.2.2.1, x.2.2.2.2.2.2.2.1, ()), ((x.2.2.2.2.2.2.2.2.1, x.2.2.2.2.2.2.2.2.2.1, x.2.2.2.2.2.2.2.2.2.2.1, x.2.2.2.2.2.2.2.2.2.2.2.1, x.2.2.2.2.2.2.2.2.2.2.2.2, ()), ())))))) (fun _ p k => bind_congr_ (fasked_l2 N N p.1.2.1 p.1.2.2.1 p.1.2.2.2.1 p.1.2.2.2.2.1 p.1.2.2.2.2.2.1 p.1.2.2.2.2.2.2.1 p.1.2.2.2.2.2.2.2.1 p.1.2.2.2.2.2.2.2.2.1 p.1.2.2.2.2.2.2.2.2.2.1 p.1.2.2.2.2.2.2.2.2.2.2.1 p.1.2.2.2.2.2.2.2.2.2.2.2.1 p.1.2.2.2.2.2.2.2.2.2.2.2.2.1 p.1.2.2.2.2.2.2.2.2.2.2.2.2.2.1 p.2.1.1 p.2.1.2.1 p.2.1.2.2.1 p.2.1.2.2.2.1 p.2.1.2.2.2.2.1) _ _ (fun e => by rcases e with x | x | x | x <;> rfl)) (fun _ => rfl) (fun m z E Xc hE hX hrec hx => leaf_of_ev (B := fasked_B) (loops := [fasked_l3_L N]) (leaves := [fasked_l2_h (fasked_l2 N m), fasked_l2_e0, fasked_l2_e1, fasked_l2_e2, fasked_l2_e3, fasked_j1_k N (fasked_l2 N m)]) (fasked_all N) mixed ⟨fasked_l3_ok N, trivial⟩ hE hX ⟨hrec, (fun p hp => by obtain rfl := Option.some.inj hp; exact hx), (fun p hp => by obtain rfl := Option.some.inj hp; exact hx), (fun p hp => by obtain rfl := Option.some.inj hp; exact hx), (fun p hp => by obtain rfl := Option.some.inj hp; exact hx), fasked_j1_lf N _ hE hX hrec (fun p hp => by obtain rfl := Option.some.inj hp; exact hx) (fun p hp => by obtain rfl := Option.some.inj hp; exact hx) (fun p hp => by obtain rfl := Option.some.inj hp; exact hx) (fun p hp => by obtain rfl := Option.some.inj hp; exact hx), trivial⟩ RetOK.no (fun p => fasked_l2_eq N m p.1.2.1 p.1.2.2.1 p.1.2.2.2.1 p.1.2.2.2.2.1 p.1.2.2.2.2.2.1 p.1.2.2.2.2.2.2.1 p.1.2.2.2.2.2.2.2.1 p.1.2.2.2.2.2.2.2.2.1 p.1.2.2.2.2.2.2.2.2.2.1 p.1.2.2.2.2.2.2.2.2.2.2.1 p.1.2.2.2.2.2.2.2.2.2.2.2.1 p.1.2.2.2.2.2.2.2.2.2.2.2.2.1 p.1.2.2.2.2.2.2.2.2.2.2.2.2.2.1 p.2.1.1 p.2.1.2.1 p.2.1.2.2.1 p.2.1.2.2.2.1 p.2.1.2.2.2.2.1))
abbrev fasked_l1_at : List PI := [.c [1, 1, 1, 1, 0, 1, 0, 0, 0], .c [1, 1, 1, 1, 0, 1, 0, 0, 1], .l [1, 1, 1, 1, 0, 1, 0, 0], .b 0, .c [1, 1, 1, 1, 1]]
abbrev fasked_l1_st : Sta := ⟨[3, 4, 5, 6, 7, 8, 32, 33, 34], ⟨[.own 0 0, shI, shI, shI, shI, .b, shQ, shI, shI], [.segs [shL, shI, shQ, shQ, shL]]⟩⟩
abbrev fasked_l1_h (rec : Int → Int → Int → Int → Bool → Ll → Int → Int → Li → Int → Ll → Ll → Li → Option ((Unit) ⊕ ((Unit) ⊕ ((Unit) ⊕ (Int × Bool))))) : Leaf ((Unit) ⊕ ((Unit) ⊕ ((Unit) ⊕ (Int × Bool)))) := ⟨fasked_l1_at, fasked_l1_st, fun p => rec p.1.2.1 p.1.2.2.1 p.1.2.2.2.1 p.1.2.2.2.2.1 p.1.2.2.2.2.2.1 p.1.2.2.2.2.2.2.1 p.1.2.2.2.2.2.2.2.1 p.1.2.2.2.2.2.2.2.2.1 p.2.1.1 p.2.1.2.1 p.2.1.2.2.1 p.2.1.2.2.2.1 p.2.1.2.2.2.2.1⟩
abbrev fasked_l1_e0 : Leaf ((Unit) ⊕ ((Unit) ⊕ ((Unit) ⊕ (Int × Bool)))) := ⟨[.c [1, 1, 1, 1, 0, 1, 0, 0, 1, 1, 0, 0, 1, 1, 0, 0, 1, 1, 0, 0, 1, 0, 1, 0, 0, 1, 1, 0, 0], .c [1, 1, 1, 1, 0, 1, 0, 0, 1, 1, 0, 0, 1, 1, 0, 0, 1, 1, 0, 0, 1, 0, 1, 0, 0, 1, 1, 0, 1], .c [1, 1, 1, 1, 0, 1, 0, 0, 1, 1, 0, 0, 1, 1, 0, 0, 1, 1, 0, 0, 1, 0, 1, 0, 1], .c [1, 1, 1, 1, 0, 1, 0, 0, 1, 1, 0, 0, 1, 1, 0, 0, 1, 1, 0, 0, 1, 1], .b 3, .c [1, 1, 1, 1, 0, 1, 0, 0, 1, 1, 0, 0, 1, 1, 0, 0, 1, 1, 1], .l [1, 1, 1, 1, 0, 1, 0, 0, 1, 1, 0, 0, 1, 1, 0, 0], .b 2, .b 1, .c [1, 1, 1, 1, 0, 1, 0, 0, 1, 1, 1], .l [1, 1, 1, 1, 0, 1, 0, 0], .b 0, .c [1, 1, 1, 1, 1]], ⟨[], ⟨[], []⟩⟩, fun p => some (.inl ())⟩
abbrev fasked_l1_e1 : Leaf ((Unit) ⊕ ((Unit) ⊕ ((Unit) ⊕ (Int × Bool)))) := ⟨[.c [1, 1, 1, 1, 0, 1, 0, 0, 1, 1, 0, 0, 1, 1, 0, 0, 1, 1, 0, 0, 1, 1, 1, 1, 0, 1, 0, 0, 1, 1, 0, 0, 1, 1, 1, 0, 1, 0, 0], .c [1, 1, 1, 1, 0, 1, 0, 0, 1, 1, 0, 0, 1, 1, 0, 0, 1, 1, 0, 0, 1, 1, 1, 1, 0, 1, 0, 0, 1, 1, 0, 0, 1, 1, 1, 0, 1, 0, 1], .c [1, 1, 1, 1, 0, 1, 0, 0, 1, 1, 0, 0, 1, 1, 0, 0, 1, 1, 0, 0, 1, 1, 1, 1, 0, 1, 0, 0, 1, 1, 0, 0, 1, 1, 1, 1], .b 5, .c [1, 1, 1, 1, 0, 1, 0, 0, 1, 1, 0, 0, 1, 1, 0, 0, 1, 1, 0, 0, 1, 1, 1, 1, 0, 1, 0, 0, 1, 1, 1], .l [1, 1, 1, 1, 0, 1, 0, 0, 1, 1, 0, 0, 1, 1, 0, 0, 1, 1, 0, 0, 1, 1, 1, 1, 0, 1, 0, 0], .b 4, .c [1, 1, 1, 1, 0, 1, 0, 0, 1, 1, 0, 0, 1, 1, 0, 0, 1, 1, 0, 0, 1, 1, 1, 1, 1], .b 3, .c [1, 1, 1, 1, 0, 1, 0, 0, 1, 1, 0, 0, 1, 1, 0, 0, 1, 1, 1], .l [1, 1, 1, 1, 0, 1, 0, 0, 1, 1, 0, 0, 1, 1, 0, 0], .b 2, .b 1, .c [1, 1, 1, 1, 0, 1, 0, 0, 1, 1, 1], .l [1, 1, 1, 1, 0, 1, 0, 0], .b 0, .c [1, 1, 1, 1, 1]], ⟨[], ⟨[], []⟩⟩, fun p => some (.inr (.inl ()))⟩
abbrev fasked_l1_e2 : Leaf ((Unit) ⊕ ((Unit) ⊕ ((Unit) ⊕ (Int × Bool)))) := ⟨[.c [1, 1, 1, 1, 0, 1, 0, 0, 1, 1, 0, 0, 1, 1, 0, 0, 1, 1, 0, 0, 1, 1, 1, 1, 1, 1, 0, 0], .c [1, 1, 1, 1, 0, 1, 0, 0, 1, 1, 0, 0, 1, 1, 0, 0, 1, 1, 0, 0, 1, 1, 1, 1, 1, 1, 0, 1], .b 3, .c [1, 1, 1, 1, 0, 1, 0, 0, 1, 1, 0, 0, 1, 1, 0, 0, 1, 1, 1], .l [1, 1, 1, 1, 0, 1, 0, 0, 1, 1, 0, 0, 1, 1, 0, 0], .b 2, .b 1, .c [1, 1, 1, 1, 0, 1, 0, 0, 1, 1, 1], .l [1, 1, 1, 1, 0, 1, 0, 0], .b 0, .c [1, 1, 1, 1, 1]], ⟨[], ⟨[], []⟩⟩, fun p => some (.inr (.inr (.inl ())))⟩
abbrev fasked_l1_e3 : Leaf ((Unit) ⊕ ((Unit) ⊕ ((Unit) ⊕ (Int × Bool)))) := ⟨[.c [1, 1, 1, 1, 1, 0, 0], .c [1, 1, 1, 1, 1, 0, 1], .c [1, 1, 1, 1, 1, 1]], ⟨[7, 8], ⟨[shI, .b], []⟩⟩, fun p => some (.inr (.inr (.inr (p.1.1, p.1.2.1))))⟩
noncomputable def fasked_l1_L (N : Nat) : LoopS := { at_ := fasked_l1_at, sta := fasked_l1_st, exits := [([.c [1, 1, 1, 1, 0, 1, 0, 0, 1, 1, 0, 0, 1, 1, 0, 0, 1, 1, 0, 0, 1, 0, 1, 0, 0, 1, 1, 0, 0], .c [1, 1, 1, 1, 0, 1, 0, 0, 1, 1, 0, 0, 1, 1, 0, 0, 1, 1, 0, 0, 1, 0, 1, 0, 0, 1, 1, 0, 1], .c [1, 1, 1, 1, 0, 1, 0, 0, 1, 1, 0, 0, 1, 1, 0, 0, 1, 1, 0, 0, 1, 0, 1, 0, 1], .c [1, 1, 1, 1, 0, 1, 0, 0, 1, 1, 0, 0, 1, 1, 0, 0, 1, 1, 0, 0, 1, 1], .b 3, .c [1, 1, 1, 1, 0, 1, 0, 0, 1, 1, 0, 0, 1, 1, 0, 0, 1, 1, 1], .l [1, 1, 1, 1, 0, 1, 0, 0, 1, 1, 0, 0, 1, 1, 0, 0], .b 2, .b 1, .c [1, 1, 1, 1, 0, 1, 0, 0, 1, 1, 1], .l [1, 1, 1, 1, 0, 1, 0, 0], .b 0, .c [1, 1, 1, 1, 1]], ⟨[], ⟨[], []⟩⟩), ([.c [1, 1, 1, 1, 0, 1, 0, 0, 1, 1, 0, 0, 1, 1, 0, 0, 1, 1, 0, 0, 1, 1, 1, 1, 0, 1, 0, 0, 1, 1, 0, 0, 1, 1, 1, 0, 1, 0, 0], .c [1, 1, 1, 1, 0, 1, 0, 0, 1, 1, 0, 0, 1, 1, 0, 0, 1, 1, 0, 0, 1, 1, 1, 1, 0, 1, 0, 0, 1, 1, 0, 0, 1, 1, 1, 0, 1, 0, 1], .c [1, 1, 1, 1, 0, 1, 0, 0, 1, 1, 0, 0, 1, 1, 0, 0, 1, 1, 0, 0, 1, 1, 1, 1, 0, 1, 0, 0, 1, 1, 0, 0, 1, 1, 1, 1], .b 5, .c [1, 1, 1, 1, 0, 1, 0, 0, 1, 1, 0, 0, 1, 1, 0, 0, 1, 1, 0, 0, 1, 1, 1, 1, 0, 1, 0, 0, 1, 1, 1], .l [1, 1, 1, 1, 0, 1, 0, 0, 1, 1, 0, 0, 1, 1, 0, 0, 1, 1, 0, 0, 1, 1, 1, 1, 0, 1, 0, 0], .b 4, .c [1, 1, 1, 1, 0, 1, 0, 0, 1, 1, 0, 0, 1, 1, 0, 0, 1, 1, 0, 0, 1, 1, 1, 1, 1], .b 3, .c [1, 1, 1, 1, 0, 1, 0, 0, 1, 1, 0, 0, 1, 1, 0, 0, 1, 1, 1], .l [1, 1, 1, 1, 0, 1, 0, 0, 1, 1, 0, 0, 1, 1, 0, 0], .b 2, .b 1, .c [1, 1, 1, 1, 0, 1, 0, 0, 1, 1, 1], .l [1, 1, 1, 1, 0, 1, 0, 0], .b 0, .c [1, 1, 1, 1, 1]], ⟨[], ⟨[], []⟩⟩), ([.c [1, 1, 1, 1, 0, 1, 0, 0, 1, 1, 0, 0, 1, 1, 0, 0, 1, 1, 0, 0, 1, 1, 1, 1, 1, 1, 0, 0], .c [1, 1, 1, 1, 0, 1, 0, 0, 1, 1, 0, 0, 1, 1, 0, 0, 1, 1, 0, 0, 1, 1, 1, 1, 1, 1, 0, 1], .b 3, .c [1, 1, 1, 1, 0, 1, 0, 0, 1, 1, 0, 0, 1, 1, 0, 0, 1, 1, 1], .l [1, 1, 1, 1, 0, 1, 0, 0, 1, 1, 0, 0, 1, 1, 0, 0], .b 2, .b 1, .c [1, 1, 1, 1, 0, 1, 0, 0, 1, 1, 1], .l [1, 1, 1, 1, 0, 1, 0, 0], .b 0, .c [1, 1, 1, 1, 1]], ⟨[], ⟨[], []⟩⟩), ([.c [1, 1, 1, 1, 1, 0, 0], .c [1, 1, 1, 1, 1, 0, 1], .c [1, 1, 1, 1, 1, 1]], ⟨[7, 8], ⟨[shI, .b], []⟩⟩)], run := fun p k => (fasked_l1 N N p.1.2.1 p.1.2.2.1 p.1.2.2.2.1 p.1.2.2.2.2.1 p.1.2.2.2.2.2.1 p.1.2.2.2.2.2.2.1 p.1.2.2.2.2.2.2.2.1 p.1.2.2.2.2.2.2.2.2.1 p.2.1.1 p.2.1.2.1 p.2.1.2.2.1 p.2.1.2.2.2.1 p.2.1.2.2.2.2.1).bind fun e => match e with | .inl x => k (.inl ((), ())) | .inr (.inl x) => k (.inr (.inl ((), ()))) | .inr (.inr (.inl x)) => k (.inr (.inr (.inl ((), ())))) | .inr (.inr (.inr x)) => k (.inr (.inr (.inr (.inl ((x.1, x.2, ()), ()))))) }
theorem fasked_l1_eq (N n_ : Nat) (found : Int) (trait : Int) (most : Int) (e_ : Int) (open_ : Bool) (u : Ll) (u2 : Int) (u3 : Int) (d : Li) (d2 : Int) (d3 : Ll) (d4 : Ll) (d5 : Li) : ev (Z := (Unit) ⊕ ((Unit) ⊕ ((Unit) ⊕ (Int × Bool)))) Try.prog (fasked_sp N) fasked_B [fasked_l3_L N, fasked_l2_L N] [fasked_l1_h (fasked_l1 N n_), fasked_l1_e0, fasked_l1_e1, fasked_l1_e2, fasked_l1_e3] none 400 true fasked_l1_at (stL fasked_l1_st (((), found, trait, most, e_, open_, u, u2, u3, ()), ((d, d2, d3, d4, d5, ()), ()))) (stH fasked_l1_st (((), found, trait, most, e_, open_, u, u2, u3, ()), ((d, d2, d3, d4, d5, ()), ()))) = fasked_l1 N (n_ + 1) found trait most e_ open_ u u2 u3 d d2 d3 d4 d5 := by kernel_rfl
theorem fasked_l1_ok (N : Nat) {top : Bool} : LoopOK Try.prog fasked_B.c fasked_B.n fasked_B.m0 top (fasked_l1_L N) := loop_of_ev (Z := (Unit) ⊕ ((Unit) ⊕ ((Unit) ⊕ (Int × Bool)))) (N := N) (fun m p => fasked_l1 N m p.1.2.1 p.1.2.2.1 p.1.2.2.2.1 p.1.2.2.2.2.1 p.1.2.2.2.2.2.1 p.1.2.2.2.2.2.2.1 p.1.2.2.2.2.2.2.2.1 p.1.2.2.2.2.2.2.2.2.1 p.2.1.1 p.2.1.2.1 p.2.1.2.2.1 p.2.1.2.2.2.1 p.2.1.2.2.2.2.1) (fun e => match e with | .inl x => .inl ((), ()) | .inr (.inl x) => .inr (.inl ((), ())) | .inr (.inr (.inl x)) => .inr (.inr (.inl ((), ()))) | .inr (.inr (.inr x)) => .inr (.inr (.inr (.inl ((x.1, x.2, ()), ()))))) (fun _ p k => bind_congr_ (fasked_l1 N N p.1.2.1 p.1.2.2.1 p.1.2.2.2.1 p.1.2.2.2.2.1 p.1.2.2.2.2.2.1 p.1.2.2.2.2.2.2.1 p.1.2.2.2.2.2.2.2.1 p.1.2.2.2.2.2.2.2.2.1 p.2.1.1 p.2.1.2.1 p.2.1.2.2.1 p.2.1.2.2.2.1 p.2.1.2.2.2.2.1) _ _ (fun e => by rcases e with x | x | x | x <;> rfl)) (fun _ => rfl) (fun m z E Xc hE hX hrec hx => leaf_of_ev (B := fasked_B) (loops := [fasked_l3_L N, fasked_l2_L N]) (leaves := [fasked_l1_h (fasked_l1 N m), fasked_l1_e0, fasked_l1_e1, fasked_l1_e2, fasked_l1_e3]) (fasked_all N) mixed ⟨fasked_l3_ok N, fasked_l2_ok N, trivial⟩ hE hX ⟨hrec, (fun p hp => by obtain rfl := Option.some.inj hp; exact hx), (fun p hp => by obtain rfl := Option.some.inj hp; exact hx), (fun p hp => by obtain rfl := Option.some.inj hp; exact hx), (fun p hp => by obtain rfl := Option.some.inj hp; exact hx), trivial⟩ RetOK.no (fun p => fasked_l1_eq N m p.1.2.1 p.1.2.2.1 p.1.2.2.2.1 p.1.2.2.2.2.1 p.1.2.2.2.2.2.1 p.1.2.2.2.2.2.2.1 p.1.2.2.2.2.2.2.2.1 p.1.2.2.2.2.2.2.2.2.1 p.2.1.1 p.2.1.2.1 p.2.1.2.2.1 p.2.1.2.2.2.1 p.2.1.2.2.2.2.1))
abbrev fasked_st : Sta := ⟨[0], ⟨[.sl (.int .u8)], []⟩⟩
theorem fasked_eq (N : Nat) (numbers : Li) : ev (Z := Bool) Try.prog (fasked_sp N) fasked_B [fasked_l3_L N, fasked_l2_L N, fasked_l1_L N] [] (some fasked_rt) 400 false [.c [0], .c [1]] (stL fasked_st ((numbers, ()), ())) (stH fasked_st ((numbers, ()), ())) = fasked_S N numbers := by kernel_rfl
noncomputable def sp_fasked (N : Nat) : Spec := { f := 5, ins := ⟨[.sl (.int .u8)], []⟩, outs := [⟨[.b], []⟩], run := fun p k => (fasked_S N p.1.1).bind fun r => k ((r, ()), ()) }
theorem sp_fasked_ok (N : Nat) : SpecOK Try.prog (sp_fasked N) := fn_sound (B := fasked_B) (loops := [fasked_l3_L N, fasked_l2_L N, fasked_l1_L N]) (leaves := []) (fun p => fasked_S N p.1.1) (fun r => ((r, ()), ())) fasked_rt (fun _ _ _ => rfl) (fun r z h => by cases h; rfl) Try.func5 (by kernel_rfl) (by kernel_rfl) (by kernel_rfl) rfl rfl (by kernel_rfl) (fun args w => Sem.pv_run _ _ _ (by kernel_rfl) w) (fasked_all N) mixed ⟨fasked_l3_ok N, fasked_l2_ok N, fasked_l1_ok N, trivial⟩ (fun z E Xc hE hX hret => trivial) (fun p => fasked_eq N p.1.1)

end Go.Proofs.Ythncjilcflilcaa

namespace Go.Proofs.Ythncjilcflilcaa
set_option linter.all false
open Go

/-! ### Numbers without one -/
def up (i x : Nat) : Nat := if x < i then x else x + 1
section
variable {n m : Nat} {can : Nat → Nat → Bool} {t : Nat → Nat → Int}
theorem Mt.bd {J : Nat → Int} (h : Mt n m can J) {i : Nat} (hi : i < n) : -1 ≤ J i ∧ J i < m := by
  rcases h.ok i hi with e | ⟨k, e, hk, _⟩ <;> omega
/-! ### Without a found thing -/
theorem IsMax.congr {fr fr' : Nat → Prop} {v : Int} (h : IsMax n m can t fr v) (hf : ∀ k, fr k ↔ fr' k) : IsMax n m can t fr' v := by
  have : fr = fr' := funext fun k => propext (hf k)
  rw [← this]; exact h
/-! ### Without a lost thing -/
/-! ### How many joins join two things -/
theorem Mt.congr {J J' : Nat → Int} (h : Mt n m can J) (he : ∀ i, i < n → J i = J' i) : Mt n m can J' := by
  refine ⟨fun i hi => by rw [← he i hi]; exact h.ok i hi, fun i j hi hj hij e => ?_⟩
  rw [← he i hi, ← he j hj] at e
  rw [← he i hi]
  exact h.inj i j hi hj hij e
end
end Go.Proofs.Ythncjilcflilcaa

namespace Go.Proofs.Ythncjilcflilcaa
set_option linter.all false
open Go

theorem gets {α : Type} {l : List α} {k : Nat} (h : k < l.length) (d : α) : l[((k : Nat) : Int).toNat]? = some (l.getD k d) := by simp [List.getD, h]
theorem getD_mem {α : Type} {l : List α} {i : Nat} {d : α} (h : i < l.length) : l.getD i d ∈ l := by
  simp [List.getD, h]
theorem nat_succ (k : Nat) : ((k + 1 : Nat) : Int) = (k : Int) + 1 := by omega
theorem in_v (N : Nat) (n lo hi : Int) : in__S N n lo hi = some (decide (lo ≤ n ∧ n ≤ hi)) := by
  unfold in__S br
  by_cases h : lo ≤ n <;> simp [h]
theorem every_gen {α : Type} {f : α → Option Bool} {p : α → Bool} {s : List α} {N : Nat} (hf : ∀ x ∈ s, f x = some (p x)) (hs : s.length ≤ 1000000) (hN : s.length < N) :
    (((ixS (fun x => (f x).bind fun c => some (!c)) N s).bind fun x => some (decide (0 ≤ x))).bind fun x => some (!x)) = some (s.all p) := by
  rw [ixS_any (p := fun x => !p x) (fun x hx => by rw [hf x hx]; rfl) hs hN]
  simp only [Option.bind_some, any_not]
/-- The limits of a desk's numbers. -/
def okv (x : Int) : Bool := decide (-1 ≤ x ∧ x ≤ 5)
def okw (x : Int) : Bool := decide (1 ≤ x ∧ x ≤ 9)
def okr (x : Int) : Bool := decide (0 ≤ x ∧ x ≤ 99)
def okl (n : Nat) (r : List Int) : Bool := decide (r.length = n)
/-- What is looked at is small. -/
structure Sm (W : List Int) (L F : List (List Int)) (R : List Int) : Prop where
  w : W.length ≤ 100
  l : L.length ≤ 100
  f : F.length ≤ 100
  r : R.length ≤ 100
  lr : ∀ x ∈ L, x.length ≤ 100
  fr : ∀ x ∈ F, x.length ≤ 100
section
variable (N : Nat)
theorem ixfv_gen : ∀ (n : Nat) (s : List Int) (u u2 : Int), ixfv_l1 N n s u u2 = ixL (every1v_S N) n s u u2
  | 0, _, _, _ => rfl
  | n + 1, s, u, u2 => by unfold ixfv_l1 ixL; simp only [ixfv_gen n]
theorem ixfva_gen : ∀ (n : Nat) (s : List (List Int)) (u u2 : Int), ixfva_l1 N n s u u2 = ixL (every1va_S N) n s u u2
  | 0, _, _, _ => rfl
  | n + 1, s, u, u2 => by unfold ixfva_l1 ixL; simp only [ixfva_gen n]
theorem ixfw_gen : ∀ (n : Nat) (s : List Int) (u u2 : Int), ixfw_l1 N n s u u2 = ixL (every1w_S N) n s u u2
  | 0, _, _, _ => rfl
  | n + 1, s, u, u2 => by unfold ixfw_l1 ixL; simp only [ixfw_gen n]
theorem ixfr_gen : ∀ (n : Nat) (s : List Int) (u u2 : Int), ixfr_l1 N n s u u2 = ixL (every1r_S N) n s u u2
  | 0, _, _, _ => rfl
  | n + 1, s, u, u2 => by unfold ixfr_l1 ixL; simp only [ixfr_gen n]
end
section
variable {N : Nat} {W : List Int} {s : Int} {L F : List (List Int)} {R : List Int}
theorem everyv_v {l : List Int} (h : l.length ≤ 1000000) (hN : l.length < N) : everyv_S N l = some (l.all okv) := by
  unfold everyv_S cofv_S ixfv_S
  rw [← every_gen (f := check21_S N) (p := okv) (s := l) (N := N) (fun x _ => ?_) h hN]
  · unfold ixS
    rw [ixfv_gen]
    rfl
  · unfold check21_S okv
    rw [in_v]; rfl
theorem everyw_v {l : List Int} (h : l.length ≤ 1000000) (hN : l.length < N) : everyw_S N l = some (l.all okw) := by
  unfold everyw_S cofw_S ixfw_S
  rw [← every_gen (f := check3_S N) (p := okw) (s := l) (N := N) (fun x _ => ?_) h hN]
  · unfold ixS
    rw [ixfw_gen]
    rfl
  · unfold check3_S okw
    rw [in_v]; rfl
theorem everyr_v {l : List Int} (h : l.length ≤ 1000000) (hN : l.length < N) : everyr_S N l = some (l.all okr) := by
  unfold everyr_S cofr_S ixfr_S
  rw [← every_gen (f := check4_S N) (p := okr) (s := l) (N := N) (fun x _ => ?_) h hN]
  · unfold ixS
    rw [ixfr_gen]
    rfl
  · unfold check4_S okr
    rw [in_v]; rfl
theorem everyva_v {l : List (List Int)} (h : l.length ≤ 1000000) (hN : l.length < N) (hr : ∀ x ∈ l, x.length ≤ 1000000 ∧ x.length < N) : everyva_S N l = some (l.all fun r => r.all okv) := by
  unfold everyva_S cofva_S ixfva_S
  rw [← every_gen (f := check2_S N) (p := fun r => r.all okv) (s := l) (N := N) (fun x hx => ?_) h hN]
  · unfold ixS
    rw [ixfva_gen]
    rfl
  · unfold check2_S
    rw [everyv_v (hr x hx).1 (hr x hx).2]; rfl
theorem ixflo_gen : ∀ (n : Nat) (l : List (List Int)) (u u2 : Int), ixflo_l1 N n l u u2 (W, s, L, F, R) = (ixL (fun x => some (!okl W.length x)) n l u u2).map fun r => match r with | .inl i => .inl (i, (W, s, L, F, R)) | .inr _ => .inr (W, s, L, F, R)
  | 0, _, _, _ => rfl
  | n + 1, l, u, u2 => by
    have e : ∀ x, every1lo_S N x (W, s, L, F, R) = some (!okl W.length x, (W, s, L, F, R)) := fun x => by
      unfold every1lo_S check1_S okl
      simp only [Option.bind_some]
      congr 3
      exact decide_eq_decide.2 (by omega)
    unfold ixflo_l1 ixL
    simp only [e, Option.bind_some, ixflo_gen n]
    unfold br
    split
    · unfold idx
      split
      · cases l[u2.toNat]? with
        | none => rfl
        | some a =>
          dsimp only
          cases okl W.length a
          · rfl
          · simp only [Bool.not_true, Bool.false_eq_true, if_false]
            unfold chk
            split <;> rfl
      · rfl
    · rfl
theorem everylo_v {l : List (List Int)} (h : l.length ≤ 1000000) (hN : l.length < N) : everylo_S N l (W, s, L, F, R) = some (l.all (okl W.length)) := by
  unfold everylo_S coflo_S ixflo_S
  rw [← every_gen (f := fun x => some (okl W.length x)) (p := okl W.length) (s := l) (N := N) (fun x _ => rfl) h hN]
  unfold ixS
  rw [ixflo_gen]
  simp only [Option.bind_some]
  cases ixL (fun x => some (!okl W.length x)) N l l.length 0 with
  | none => rfl
  | some r => cases r <;> rfl
end
/-- The error of a desk. -/
def errD (W : List Int) (s : Int) (L F : List (List Int)) (R : List Int) : Int :=
  if ¬ (1 ≤ (W.length : Int) ∧ (W.length : Int) ≤ 5) then 2 else if 6 < (L.length : Int) then 2 else if 6 < (F.length : Int) then 2 else if L.all (okl W.length) = false then 2 else if F.all (okl W.length) = false then 2 else
  if ¬ ((R.length : Int) = (L.length : Int)) then 2 else if (W.all okw && decide (0 ≤ s ∧ s ≤ 3) && R.all okr && (L.all fun r => r.all okv) && F.all fun r => r.all okv) = true then 0 else 3
section
variable {N : Nat} {W : List Int} {s : Int} {L F : List (List Int)} {R : List Int}
theorem check_v (hN : 110 ≤ N) (h : Sm W L F R) : check_S N W s L F R = some (errD W s L F R) := by
  obtain ⟨hw, hl, hf, hr, hlr, hfr⟩ := h
  unfold check_S errD
  rw [in_v]
  simp only [Option.bind_some]
  by_cases c1 : 1 ≤ (W.length : Int) ∧ (W.length : Int) ≤ 5
  rotate_left
  · rw [br_nnd c1, if_pos c1]
  rw [br_nd c1, if_neg (by simpa using c1)]
  by_cases c2 : 6 < (L.length : Int)
  · rw [br_dec c2, if_pos c2]
  rw [br_ndec c2, if_neg c2]
  by_cases c3 : 6 < (F.length : Int)
  · rw [br_dec c3, if_pos c3]
  rw [br_ndec c3, if_neg c3, everylo_v (by omega) (by omega), everylo_v (by omega) (by omega), everyw_v (by omega) (by omega), in_v, everyr_v (by omega) (by omega),
    everyva_v (by omega) (by omega) (fun x hx => ⟨by have := hlr x hx; omega, by have := hlr x hx; omega⟩), everyva_v (by omega) (by omega) (fun x hx => ⟨by have := hfr x hx; omega, by have := hfr x hx; omega⟩)]
  simp only [Option.bind_some]
  cases L.all (okl W.length)
  · rfl
  cases F.all (okl W.length)
  · rfl
  by_cases c4 : (R.length : Int) = (L.length : Int)
  rotate_left
  · simp only [Bool.not_true, br_false, Bool.true_eq_false, if_false]
    rw [br_nnd c4, if_pos c4]
  simp only [Bool.not_true, br_false, Bool.true_eq_false, if_false]
  rw [br_nd c4, if_neg (not_not_intro c4)]
  cases W.all okw <;> cases decide (0 ≤ s ∧ s ≤ 3) <;> cases R.all okr <;> cases (L.all fun r => r.all okv) <;> cases (F.all fun r => r.all okv) <;> rfl
end
section
variable {N : Nat}
end
end Go.Proofs.Ythncjilcflilcaa

namespace Go.Proofs.Ythncjilcflilcaa
set_option linter.all false
open Go

def tabA (g : Nat → Int) : List Int := (List.range 36).map g
theorem tabA_len (g : Nat → Int) : (tabA g).length = 36 := by simp [tabA]
theorem tabA_get {g : Nat → Int} {x : Nat} (h : x < 36) : (tabA g).getD x 0 = g x := by simp [tabA, List.getD, h]
theorem tabA_set (g : Nat → Int) (x : Nat) (v : Int) : (tabA g).set x v = tabA (upd g x v) := by
  refine List.ext_getElem (by simp [tabA]) fun i h1 h2 => ?_
  simp only [tabA, List.getElem_set, List.getElem_map, List.getElem_range, upd]
  by_cases e : x = i
  · rw [if_pos e, if_pos e.symm]
  · rw [if_neg e, if_neg (Ne.symm e)]
/-- What two descriptions agree in, and how often they slip, up to a trait. -/
def agA (W a b : List Int) (t : Nat) : Int := if a.getD t 0 = b.getD t 0 ∧ a.getD t 0 ≠ -1 then W.getD t 0 else 0
def slA (a b : List Int) (t : Nat) : Int := if a.getD t 0 ≠ -1 ∧ b.getD t 0 ≠ -1 ∧ a.getD t 0 ≠ b.getD t 0 then 1 else 0
def agP (W a b : List Int) (k : Nat) : Int := sumN (agA W a b) k
def slP (a b : List Int) (k : Nat) : Int := sumN (slA a b) k
def agF (W : List Int) (L F : List (List Int)) (i k : Nat) : Int := if i < L.length ∧ k < F.length then agP W (L.getD i []) (F.getD k []) W.length else 0
def slF (W : List Int) (L F : List (List Int)) (i k : Nat) : Int := if i < L.length ∧ k < F.length then slP (L.getD i []) (F.getD k []) W.length else 0
theorem sumN_bound {f : Nat → Int} {m : Int} (h : ∀ i, 0 ≤ f i ∧ f i ≤ m) (hm : 0 ≤ m ∧ m ≤ 10) : ∀ n : Nat, n ≤ 1000 → 0 ≤ sumN f n ∧ sumN f n ≤ 10 * n
  | 0, _ => by simp [sumN]
  | n + 1, hn => by
    have h1 := sumN_bound h hm n (by omega)
    have h2 := h n
    rw [sumN]; omega
/-- A desk without an error. -/
structure Fine (W : List Int) (s : Int) (L F : List (List Int)) (R : List Int) : Prop where
  w1 : 1 ≤ W.length
  w5 : W.length ≤ 5
  l6 : L.length ≤ 6
  f6 : F.length ≤ 6
  lw : ∀ x ∈ L, x.length = W.length
  fw : ∀ x ∈ F, x.length = W.length
  rl : R.length = L.length
  w : ∀ x ∈ W, 1 ≤ x ∧ x ≤ 9
  s : 0 ≤ s ∧ s ≤ 3
  r : ∀ x ∈ R, 0 ≤ x ∧ x ≤ 99
  lv : ∀ r ∈ L, ∀ x ∈ r, -1 ≤ x ∧ x ≤ 5
  fv : ∀ r ∈ F, ∀ x ∈ r, -1 ≤ x ∧ x ≤ 5
section
variable {W : List Int} {s : Int} {L F : List (List Int)} {R : List Int}
theorem errD_iff : errD W s L F R = 0 ↔ Fine W s L F R := by
  unfold errD
  constructor
  · intro h
    split at h
    · cases h
    rename_i c1
    split at h
    · cases h
    rename_i c2
    split at h
    · cases h
    rename_i c3
    split at h
    · cases h
    rename_i c4
    split at h
    · cases h
    rename_i c5
    split at h
    · cases h
    rename_i c6
    split at h
    rotate_left
    · cases h
    rename_i c7
    simp only [Bool.and_eq_true, List.all_eq_true, okw, okr, okv, decide_eq_true_eq] at c7
    simp only [Bool.not_eq_false, List.all_eq_true, okl, decide_eq_true_eq] at c4 c5
    exact ⟨by omega, by omega, by omega, by omega, c4, c5, by omega, c7.1.1.1.1, c7.1.1.1.2, c7.1.1.2, c7.1.2, c7.2⟩
  · intro h
    have c4 : L.all (okl W.length) = true := by simpa [okl] using h.lw
    have c5 : F.all (okl W.length) = true := by simpa [okl] using h.fw
    have h1 := h.w1; have h2 := h.w5; have h3 := h.l6; have h4 := h.f6; have h5 := h.rl
    rw [if_neg (by omega), if_neg (by omega), if_neg (by omega), if_neg (by simp [c4]), if_neg (by simp [c5]), if_neg (by omega), if_pos]
    simp only [Bool.and_eq_true, List.all_eq_true, okw, okr, okv, decide_eq_true_eq]
    exact ⟨⟨⟨⟨h.w, h.s⟩, h.r⟩, h.lv⟩, h.fv⟩
theorem Fine.sm (h : Fine W s L F R) : Sm W L F R := by
  have h1 := h.w1; have h2 := h.w5; have h3 := h.l6; have h4 := h.f6; have h5 := h.rl
  exact ⟨by omega, by omega, by omega, by omega, fun x hx => by have := h.lw x hx; omega, fun x hx => by have := h.fw x hx; omega⟩
/-- The desk at work. -/
def dkT (W : List Int) (s : Int) (L F : List (List Int)) (R : List Int) (A B : Nat → Nat → Int) : Dk := (W, s, L, F, R, tabA (fun x => A (x / 6) (x % 6)), tabA (fun x => B (x / 6) (x % 6)), ())
def dkO (W : List Int) (s : Int) (L F : List (List Int)) (R : List Int) : Dk := dkT W s L F R (agF W L F) (slF W L F)
theorem getD_W (hw : ∀ x ∈ W, 1 ≤ x ∧ x ≤ 9) (t : Nat) : 0 ≤ W.getD t 0 ∧ W.getD t 0 ≤ 9 := by
  by_cases h : t < W.length
  · have := hw _ (getD_mem (d := 0) h); omega
  · have : W.getD t 0 = 0 := by simp [List.getD, List.getElem?_eq_none (show W.length ≤ t by omega)]
    omega
theorem agA_bound (hw : ∀ x ∈ W, 1 ≤ x ∧ x ≤ 9) (a b : List Int) (t : Nat) : 0 ≤ agA W a b t ∧ agA W a b t ≤ 9 := by
  have := getD_W hw t
  unfold agA; split <;> omega
theorem slA_bound (a b : List Int) (t : Nat) : 0 ≤ slA a b t ∧ slA a b t ≤ 1 := by unfold slA; split <;> omega
theorem agP_bound (hw : ∀ x ∈ W, 1 ≤ x ∧ x ≤ 9) (a b : List Int) {t : Nat} (ht : t ≤ 5) : 0 ≤ agP W a b t ∧ agP W a b t ≤ 50 := by
  have := sumN_bound (agA_bound hw a b) (by omega) t (by omega)
  unfold agP; omega
theorem slP_bound (a b : List Int) {t : Nat} (ht : t ≤ 5) : 0 ≤ slP a b t ∧ slP a b t ≤ 50 := by
  have := sumN_bound (slA_bound a b) (by omega) t (by omega)
  unfold slP; omega
theorem upd_upd {α : Type} (J : Nat → α) (i : Nat) (v w : α) : upd (upd J i v) i w = upd J i w := by
  funext x; unfold upd; split <;> rfl
theorem upd_id {α : Type} (J : Nat → α) (i : Nat) : upd J i (J i) = J := by
  funext x; unfold upd; split
  · rename_i e; rw [e]
  · rfl
theorem opened_l3_p {N : Nat} (h : Fine W s L F R) {i k : Nat} (hi : i < 6) (hk : k < 6) {a b : List Int} (ha : a.length = W.length) (hb : b.length = W.length) {u u4 : List (List Int)} {u2 u3 u5 u6 : Int} {o1 o5 : List Int} {o2 : Int} {o3 o4 : List (List Int)} :
    ∀ (n t : Nat) (g g' : Nat → Int), W.length < n + t → t ≤ W.length → g (i * 6 + k) = agP W a b t → g' (i * 6 + k) = slP a b t →
      opened_l3 N n i a k b u u2 u3 u4 u5 u6 a a.length t W s L F R o1 o2 o3 o4 o5 (tabA g) (tabA g') = some ((i : Int), a, u, u2, u3, u4, u5, u6, W, s, L, F, R, o1, o2, o3, o4, o5, tabA (upd g (i * 6 + k) (agP W a b W.length)), tabA (upd g' (i * 6 + k) (slP a b W.length)))
  | 0, t, _, _, hn, ht, _, _ => by omega
  | n + 1, t, g, g', hn, ht, e1, e2 => by
    unfold opened_l3
    have hw5 := h.w5
    by_cases c : t < W.length
    · have hx : i * 6 + k < 36 := by omega
      have hj : ∀ g g' : Nat → Int, opened_j1 N (opened_l3 N n) i a k b u u2 u3 u4 u5 u6 a a.length t W s L F R o1 o2 o3 o4 o5 (tabA g) (tabA g') = opened_l3 N n i a k b u u2 u3 u4 u5 u6 a a.length ((t + 1 : Nat) : Int) W s L F R o1 o2 o3 o4 o5 (tabA g) (tabA g') := fun g g' => by
        unfold opened_j1
        rw [chk_eq (by omega)]; rfl
      have b1 := agP_bound h.w a b (t := t) (by omega)
      have b2 := slP_bound a b (t := t) (by omega)
      have b3 := getD_W h.w t
      have s1 : agP W a b (t + 1) = agP W a b t + agA W a b t := rfl
      have s2 : slP a b (t + 1) = slP a b t + slA a b t := rfl
      rw [br_dec (by omega), idx_eq (by omega) (gets (by omega) 0)]
      unfold agA at s1
      unfold slA at s2
      by_cases c1 : a.getD t 0 = -1
      · rw [if_neg (by omega)] at s1 s2
        rw [br_dec c1, hj, opened_l3_p h hi hk ha hb n (t + 1) g g' (by omega) (by omega) (by omega) (by omega)]
      rw [br_ndec c1, idx_eq (by omega) (gets (by omega) 0)]
      by_cases c2 : b.getD t 0 = -1
      · rw [if_neg (by omega)] at s1 s2
        rw [br_dec c2, hj, opened_l3_p h hi hk ha hb n (t + 1) g g' (by omega) (by omega) (by omega) (by omega)]
      rw [br_ndec c2, idx_eq (by omega) (gets (by omega) 0)]
      by_cases c3 : a.getD t 0 = b.getD t 0
      · rw [if_pos ⟨c3, c1⟩] at s1
        rw [if_neg (by omega)] at s2
        rw [br_dec c3, rng_eq (by omega), rng_eq (by omega)]
        simp only [Int.toNat_natCast]
        rw [get_get 0 (by rw [tabA_len]; exact hx), tabA_get hx, e1, idx_eq (by omega) (gets (k := t) (l := W) (by omega) 0), chk_eq (by omega), rng_eq (by omega), rng_eq (by omega), get_get 0 (by rw [tabA_len]; exact hx), tabA_set, hj,
          opened_l3_p h hi hk ha hb n (t + 1) _ _ (by omega) (by omega) (by rw [upd_self]; omega) (by omega), upd_upd]
      · rw [if_neg (by omega)] at s1
        rw [if_pos ⟨c1, c2, c3⟩] at s2
        rw [br_ndec c3, rng_eq (by omega), rng_eq (by omega)]
        simp only [Int.toNat_natCast]
        rw [get_get 0 (by rw [tabA_len]; exact hx), tabA_get hx, e2, chk_eq (by omega), rng_eq (by omega), rng_eq (by omega), get_get 0 (by rw [tabA_len]; exact hx), tabA_set, hj,
          opened_l3_p h hi hk ha hb n (t + 1) _ _ (by omega) (by omega) (by omega) (by rw [upd_self]; omega), upd_upd]
    · obtain rfl : t = W.length := by omega
      rw [br_ndec (by omega), ← e1, ← e2, upd_id, upd_id]
/-- Tables that are filled up to a pair. -/
def gK (A : Nat → Nat → Int) (i k : Nat) : Nat → Int := fun x => if x / 6 < i ∨ (x / 6 = i ∧ x % 6 < k) then A (x / 6) (x % 6) else 0
theorem gK_step (A : Nat → Nat → Int) {i k : Nat} (hk : k < 6) : upd (gK A i k) (i * 6 + k) (A i k) = gK A i (k + 1) := by
  funext x
  unfold upd gK
  by_cases e : x = i * 6 + k
  · rw [if_pos e, if_pos (by omega), show x / 6 = i by omega, show x % 6 = k by omega]
  · rw [if_neg e]
    by_cases c : x / 6 < i ∨ (x / 6 = i ∧ x % 6 < k)
    · rw [if_pos c, if_pos (by omega)]
    · rw [if_neg c, if_neg (by omega)]
theorem gK_self (A : Nat → Nat → Int) {i k : Nat} (hk : k < 6) : gK A i k (i * 6 + k) = 0 := if_neg (by omega)
theorem gK_row {A : Nat → Nat → Int} {i m : Nat} (h : ∀ k, m ≤ k → A i k = 0) : gK A i m = gK A (i + 1) 0 := by
  funext x
  unfold gK
  by_cases c : x / 6 < i ∨ (x / 6 = i ∧ x % 6 < m)
  · rw [if_pos c, if_pos (by omega)]
  · rw [if_neg c]
    by_cases d : x / 6 = i
    · rw [if_pos (by omega), d, h _ (by omega)]
    · rw [if_neg (by omega)]
theorem gK_all {A : Nat → Nat → Int} {n : Nat} (h : ∀ i k, n ≤ i → A i k = 0) : gK A n 0 = fun x => A (x / 6) (x % 6) := by
  funext x
  unfold gK
  by_cases c : x / 6 < n
  · rw [if_pos (.inl c)]
  · rw [if_neg (by omega), h _ _ (by omega)]
theorem opened_l2_p {N : Nat} (hN : 110 ≤ N) (h : Fine W s L F R) {i : Nat} (hi : i < L.length) {u : List (List Int)} {u2 u3 : Int} {o1 o5 : List Int} {o2 : Int} {o3 o4 : List (List Int)} :
    ∀ (n k : Nat), F.length < n + k → k ≤ F.length →
      opened_l2 N n i (L.getD i []) u u2 u3 F F.length k W s L F R o1 o2 o3 o4 o5 (tabA (gK (agF W L F) i k)) (tabA (gK (slF W L F) i k)) = some (u, u2, u3, W, s, L, F, R, o1, o2, o3, o4, o5, tabA (gK (agF W L F) (i + 1) 0), tabA (gK (slF W L F) (i + 1) 0))
  | 0, k, hn, hk => by omega
  | n + 1, k, hn, hk => by
    unfold opened_l2
    have hl6 := h.l6; have hf6 := h.f6; have hw5 := h.w5
    by_cases c : k < F.length
    · have ih := opened_l2_p hN h hi (u := u) (u2 := u2) (u3 := u3) (o1 := o1) (o5 := o5) (o2 := o2) (o3 := o3) (o4 := o4) n (k + 1) (by omega) (by omega)
      rw [nat_succ] at ih
      have e := opened_l3_p (N := N) h (i := i) (k := k) (by omega) (by omega) (h.lw _ (getD_mem (d := []) hi)) (h.fw _ (getD_mem (d := []) c)) (u := u) (u4 := F) (u2 := u2) (u3 := u3) (u5 := F.length) (u6 := k) (o1 := o1) (o5 := o5) (o2 := o2) (o3 := o3) (o4 := o4)
        N 0 (gK (agF W L F) i k) (gK (slF W L F) i k) (by omega) (by omega) (gK_self _ (by omega)) (gK_self _ (by omega))
      have a1 : agP W (L.getD i []) (F.getD k []) W.length = agF W L F i k := (if_pos ⟨hi, c⟩).symm
      have a2 : slP (L.getD i []) (F.getD k []) W.length = slF W L F i k := (if_pos ⟨hi, c⟩).symm
      rw [a1, a2, gK_step _ (by omega), gK_step _ (by omega), show ((0 : Nat) : Int) = 0 from rfl] at e
      rw [br_dec (by omega), idx_eq (by omega) (gets c []), e]
      simp only [Option.bind_some]
      rw [chk_eq (by omega)]
      exact ih
    · obtain rfl : k = F.length := by omega
      rw [br_ndec (by omega), gK_row (A := agF W L F) (i := i) (m := F.length) (fun k hk => by unfold agF; exact if_neg (by omega)), gK_row (A := slF W L F) (i := i) (m := F.length) (fun k hk => by unfold slF; exact if_neg (by omega))]
theorem opened_l1_p {N : Nat} (hN : 110 ≤ N) (h : Fine W s L F R) {o1 o5 : List Int} {o2 : Int} {o3 o4 : List (List Int)} :
    ∀ (n i : Nat), L.length < n + i → i ≤ L.length →
      opened_l1 N n L L.length i W s L F R o1 o2 o3 o4 o5 (tabA (gK (agF W L F) i 0)) (tabA (gK (slF W L F) i 0)) = some (o1, o2, o3, o4, o5, tabA (fun x => agF W L F (x / 6) (x % 6)), tabA (fun x => slF W L F (x / 6) (x % 6)))
  | 0, i, hn, hi => by omega
  | n + 1, i, hn, hi => by
    unfold opened_l1
    have hl6 := h.l6; have hf6 := h.f6
    by_cases c : i < L.length
    · have ih := opened_l1_p hN h (o1 := o1) (o5 := o5) (o2 := o2) (o3 := o3) (o4 := o4) n (i + 1) (by omega) (by omega)
      rw [nat_succ] at ih
      have e := opened_l2_p hN h c (u := L) (u2 := L.length) (u3 := i) (o1 := o1) (o5 := o5) (o2 := o2) (o3 := o3) (o4 := o4) N 0 (by omega) (by omega)
      rw [show ((0 : Nat) : Int) = 0 from rfl] at e
      rw [br_dec (by omega), idx_eq (by omega) (gets c []), e]
      simp only [Option.bind_some]
      rw [chk_eq (by omega)]
      exact ih
    · obtain rfl : i = L.length := by omega
      rw [br_ndec (by omega), gK_all (A := agF W L F) (fun i k hi => by unfold agF; exact if_neg (by omega)), gK_all (A := slF W L F) (fun i k hi => by unfold slF; exact if_neg (by omega))]
theorem opened_v {N : Nat} (hN : 110 ≤ N) (h : Sm W L F R) : opened_S N W s L F R = some (if errD W s L F R = 0 then .inl (dkO W s L F R, 0) else .inr (errD W s L F R)) := by
  unfold opened_S
  rw [check_v hN h]
  simp only [Option.bind_some]
  by_cases c : errD W s L F R = 0
  · have hF := errD_iff.1 c
    have e := opened_l1_p hN hF (o1 := W) (o2 := s) (o3 := L) (o4 := F) (o5 := R) N 0 (by have := hF.l6; omega) (by omega)
    have z : ∀ A : Nat → Nat → Int, tabA (gK A 0 0) = List.replicate 36 (0 : Int) := fun A => by
      rw [show gK A 0 0 = fun _ => 0 by funext x; exact if_neg (by omega)]; rfl
    rw [z, z, show ((0 : Nat) : Int) = 0 from rfl] at e
    rw [br_nd c, if_pos c, e]; rfl
  · rw [br_nnd c, if_neg c]
theorem opened_f {N : Nat} (hN : 110 ≤ N) (h : Fine W s L F R) : opened_S N W s L F R = some (.inl (dkO W s L F R, 0)) := by
  rw [opened_v hN h.sm, if_pos (errD_iff.2 h)]
end
end Go.Proofs.Ythncjilcflilcaa

namespace Go.Proofs.Ythncjilcflilcaa
set_option linter.all false
open Go

/-! ### All of some numbers -/
def alI (p : Nat → Bool) (n : Nat) : Bool := (List.range' 0 n).all p
theorem alI_iff {p : Nat → Bool} {n : Nat} : alI p n = true ↔ ∀ i, i < n → p i = true := by
  unfold alI
  rw [List.all_eq_true]
  constructor
  · exact fun h i hi => h i (by simp [List.mem_range'_1, hi])
  · exact fun h i hi => h i (by have := List.mem_range'_1.1 hi; omega)
/-! ### Tables -/
def canT (A B : Nat → Nat → Int) (s : Int) (i k : Nat) : Bool := decide (0 < A i k) && decide (B i k ≤ s)
section
variable {W : List Int} {s : Int} {L F : List (List Int)} {R : List Int} {A B : Nat → Nat → Int} {N : Nat}
theorem agD_T {i k : Nat} (hi : i < 6) (hk : k < 6) : agD (dkT W s L F R A B) i k = A i k := by
  unfold agD dkT
  rw [tabA_get (by omega), show (i * 6 + k) / 6 = i by omega, show (i * 6 + k) % 6 = k by omega]
theorem slD_T {i k : Nat} (hi : i < 6) (hk : k < 6) : slD (dkT W s L F R A B) i k = B i k := by
  unfold slD dkT
  rw [tabA_get (by omega), show (i * 6 + k) / 6 = i by omega, show (i * 6 + k) % 6 = k by omega]
theorem get_T {i k : Nat} (hi : i < 6) (hk : k < 6) {Z : Type} {f : Int → Option Z} : get (dkT W s L F R A B).2.2.2.2.2.1 (i * 6 + k) f = f (A i k) := by
  have e := agD_T (W := W) (s := s) (L := L) (F := F) (R := R) (A := A) (B := B) hi hk
  unfold agD at e
  rw [get_get 0 (by unfold dkT; rw [tabA_len]; omega), e]
theorem agF_bound (h : Fine W s L F R) (i k : Nat) : 0 ≤ agF W L F i k ∧ agF W L F i k ≤ 50 := by
  unfold agF
  split
  · exact agP_bound h.w _ _ h.w5
  · omega
abbrev canF (W : List Int) (s : Int) (L F : List (List Int)) : Nat → Nat → Bool := canT (agF W L F) (slF W L F) s
/-! ### A pair -/
/-! ### Joins -/
def inm (m : Nat) (x : Int) : Bool := decide (-1 ≤ x ∧ x ≤ (m : Int) - 1)
def hasB (l : List Int) (x : Int) : Bool := l.any fun y => decide (x = y)
theorem hasB_iff {l : List Int} {x : Int} : hasB l x = true ↔ x ∈ l := by simp [hasB]
def dupI (l : List Int) (i : Nat) : Bool := decide (l.getD i 0 = -1) || !hasB (l.take i) (l.getD i 0)
def cnI (can : Nat → Nat → Bool) (l : List Int) (i : Nat) : Bool := decide (l.getD i 0 = -1) || can i (l.getD i 0).toNat
/-- The error of joins, e that of the desk. -/
def errJ (e : Int) (n m : Nat) (can : Nat → Nat → Bool) (l : List Int) : Int :=
  if ¬ e = 0 then e else if ¬ (l.length : Int) = (n : Int) then 2 else if l.all (inm m) = false then 1 else if alI (dupI l) l.length = false then 5 else if alI (cnI can l) l.length = false then 8 else 0
theorem dfound_v (h : F.length ≤ 1000000) (x : Int) : dfound_S N (dkT W s L F R A B) x = some (decide (0 ≤ x ∧ x ≤ (F.length : Int) - 1)) := by
  unfold dfound_S
  rw [in_v]
  exact chk_eq (by simp only [dkT]; omega)
end
end Go.Proofs.Ythncjilcflilcaa

namespace Go.Proofs.Ythncjilcflilcaa
set_option linter.all false
open Go

section
variable {N : Nat}
end
theorem valJ_bound {t : Nat → Nat → Int} {m : Int} (h : ∀ i k, 0 ≤ t i k ∧ t i k ≤ m) (hm : 0 ≤ m) : ∀ (l : List Int) (i : Nat), 0 ≤ valJ t i l ∧ valJ t i l ≤ m * l.length
  | [], _ => by simp [valJ]
  | x :: l, i => by
    have h1 := valJ_bound h hm l (i + 1)
    have h2 := h i x.toNat
    rw [valJ, List.length_cons, Int.natCast_add, Int.mul_add]
    unfold pv
    split <;> simp <;> omega
section
variable {W : List Int} {s : Int} {L F : List (List Int)} {R : List Int} {A B : Nat → Nat → Int} {N : Nat}
/-- What joins without an error are. -/
theorem errJ_fine {e : Int} {n m : Nat} {can : Nat → Nat → Bool} {l : List Int} (h : errJ e n m can l = 0) : e = 0 ∧ l.length = n ∧ l.all (inm m) = true ∧ alI (dupI l) l.length = true ∧ alI (cnI can l) l.length = true := by
  unfold errJ at h
  split at h
  · rename_i c; exact absurd h c
  rename_i c
  split at h
  · cases h
  rename_i c1
  split at h
  · cases h
  rename_i c2
  split at h
  · cases h
  rename_i c3
  split at h
  · cases h
  rename_i c4
  exact ⟨by omega, by omega, by simpa using c2, by simpa using c3, by simpa using c4⟩
/-! ### What may be joined -/
def mayE (can : Nat → Nat → Bool) (m i : Nat) : List (Int × Unit) := (mayL can m i).map fun (j : Nat) => ((j : Int), ())
theorem mayR_T (hF : F.length ≤ 6) {i : Nat} (hi : i < 6) : mayR (dkT W s L F R A B) (dkT W s L F R A B) i = some (mayE (canT A B s) F.length i) := by
  unfold mayR mayE mayL mayF
  rw [if_pos ⟨⟨by omega, by omega⟩, hF, tabA_len _, tabA_len _⟩]
  congr 2
  simp only [Int.toNat_natCast, Nat.sub_zero]
  rw [← List.range_eq_range']
  refine List.filter_congr fun k hk => ?_
  have hk : k < F.length := by simpa [dkT] using hk
  unfold canD canT
  rw [agD_T hi (by omega), slD_T hi (by omega)]; rfl
end
end Go.Proofs.Ythncjilcflilcaa

namespace Go.Proofs.Ythncjilcflilcaa
set_option linter.all false
open Go

section
variable {W : List Int} {s : Int} {L F : List (List Int)} {R : List Int} {A B : Nat → Nat → Int} {N : Nat}
/-! ### Copies -/
end
end Go.Proofs.Ythncjilcflilcaa

namespace Go.Proofs.Ythncjilcflilcaa
set_option linter.all false
open Go

abbrev MK := List ((Int × Int) × (Int × (Int × Int)))
def lkM (g : MK) (i u : Int) : Option (Int × (Int × Int)) := (g.find? fun (y : (Int × Int) × (Int × (Int × Int))) => Ty.beq (.pair (.int .i64) (.int .i64)) y.1 (i, u)).map (·.2)
theorem lkM_cons (a b : Int) (v : Int × (Int × Int)) (g : MK) (i u : Int) : lkM (((a, b), v) :: g) i u = if a = i ∧ b = u then some v else lkM g i u := by
  have e : Ty.beq (.pair (.int .i64) (.int .i64)) (a, b) (i, u) = decide (a = i ∧ b = u) := by
    show (decide (a = i) && decide (b = u)) = _
    by_cases h1 : a = i <;> by_cases h2 : b = u <;> simp [h1, h2]
  unfold lkM
  rw [List.find?_cons]
  by_cases h : a = i ∧ b = u
  · rw [if_pos h, show (Ty.beq (.pair (.int .i64) (.int .i64)) (((a, b), v) : (Int × Int) × (Int × (Int × Int))).1 (i, u)) = true by rw [e, decide_eq_true h]]; rfl
  · rw [if_neg h, show (Ty.beq (.pair (.int .i64) (.int .i64)) (((a, b), v) : (Int × Int) × (Int × (Int × Int))).1 (i, u)) = false by rw [e, decide_eq_false h]]
theorem lkM_some (g : MK) (i u : Int) : (g.find? fun (y : (Int × Int) × (Int × (Int × Int))) => Ty.beq (.pair (.int .i64) (.int .i64)) y.1 (i, u)).isSome = (lkM g i u).isSome := by
  unfold lkM; rw [Option.isSome_map]
def hasM (g : MK) (i u : Nat) : Prop := (lkM g i u).isSome = true
def subM (g g' : MK) : Prop := ∀ i u : Nat, hasM g i u → hasM g' i u
theorem subM.refl (g : MK) : subM g g := fun _ _ h => h
theorem subM.trans {a b c : MK} (h : subM a b) (k : subM b c) : subM a c := fun i u x => k i u (h i u x)
/-- What is remembered is right, and so is what follows from it. -/
structure MOK (can : Nat → Nat → Bool) (t : Nat → Nat → Int) (m n : Nat) (g : MK) : Prop where
  val : ∀ (i u : Nat) v, lkM g i u = some v → v = rsR can t m (n - i) i u
  clo : ∀ i u : Nat, hasM g i u → i + 1 < n → hasM g (i + 1) u ∧ ∀ k ∈ mayL can m i, u.testBit k = false → hasM g (i + 1) (u ||| 2 ^ k)
theorem MOK.nil {can : Nat → Nat → Bool} {t : Nat → Nat → Int} {m n : Nat} : MOK can t m n [] := ⟨fun i u v h => by simp [lkM] at h, fun i u h => by simp [hasM, lkM] at h⟩
theorem MOK.cons {can : Nat → Nat → Bool} {t : Nat → Nat → Int} {m n : Nat} {g : MK} (h : MOK can t m n g) {i u : Nat} (h1 : i + 1 < n → hasM g (i + 1) u ∧ ∀ k ∈ mayL can m i, u.testBit k = false → hasM g (i + 1) (u ||| 2 ^ k)) :
    MOK can t m n ((((i : Int), (u : Int)), rsR can t m (n - i) i u) :: g) ∧ subM g ((((i : Int), (u : Int)), rsR can t m (n - i) i u) :: g) ∧ hasM ((((i : Int), (u : Int)), rsR can t m (n - i) i u) :: g) i u := by
  have hsub : subM g ((((i : Int), (u : Int)), rsR can t m (n - i) i u) :: g) := fun i' u' hh => by
    unfold hasM at *
    rw [lkM_cons]
    split
    · rfl
    · exact hh
  refine ⟨⟨fun i' u' v hv => ?_, fun i' u' hh hi => ?_⟩, hsub, ?_⟩
  · rw [lkM_cons] at hv
    split at hv
    · rename_i e
      obtain rfl : i = i' := by omega
      obtain rfl : u = u' := by omega
      simp only [Option.some.injEq] at hv
      exact hv.symm
    · exact h.val i' u' v hv
  · unfold hasM at hh
    rw [lkM_cons] at hh
    split at hh
    · rename_i e
      obtain rfl : i = i' := by omega
      obtain rfl : u = u' := by omega
      exact ⟨hsub _ _ (h1 hi).1, fun k hk hb => hsub _ _ ((h1 hi).2 k hk hb)⟩
    · obtain ⟨x, y⟩ := h.clo i' u' hh hi
      exact ⟨hsub _ _ x, fun k hk hb => hsub _ _ (y k hk hb)⟩
  · unfold hasM
    rw [lkM_cons, if_pos ⟨rfl, rfl⟩]; rfl
theorem MOK.get {can : Nat → Nat → Bool} {t : Nat → Nat → Int} {m n : Nat} {g : MK} (h : MOK can t m n g) {i u : Nat} (hh : hasM g i u) : lkM g i u = some (rsR can t m (n - i) i u) := by
  unfold hasM at hh
  cases e : lkM g i u with
  | none => rw [e] at hh; cases hh
  | some v => rw [h.val i u v e]
/-! ### Bounds -/
theorem flatMap_len {α β : Type} {f : α → List β} {B : Nat} : ∀ {l : List α}, (∀ x ∈ l, (f x).length ≤ B) → (l.flatMap f).length ≤ l.length * B
  | [], _ => by simp
  | x :: l, h => by
    have h1 := h x (by simp)
    have h2 := flatMap_len (l := l) (fun y hy => h y (by simp [hy]))
    rw [List.flatMap_cons, List.length_append, List.length_cons, Nat.add_mul]; omega
theorem mayL_len (can : Nat → Nat → Bool) (m i : Nat) : (mayL can m i).length ≤ m := by
  have := List.length_filter_le (can i) (List.range m)
  simpa [mayL] using this
theorem joinsL_len {can : Nat → Nat → Bool} {m : Nat} (hm : m ≤ 6) : ∀ d i u : Nat, (joinsL can m d i u).length ≤ 7 ^ d
  | 0, _, _ => by simp [joinsL]
  | d + 1, i, u => by
    have h1 := joinsL_len (can := can) hm d (i + 1) u
    have h2 : ((mayL can m i).flatMap fun k => if u.testBit k then [] else (joinsL can m d (i + 1) (u ||| 2 ^ k)).map ((k : Int) :: ·)).length ≤ (mayL can m i).length * 7 ^ d := flatMap_len fun k _ => by
      split
      · simp
      · rw [List.length_map]; exact joinsL_len hm d (i + 1) _
    have h3 := mayL_len can m i
    have h4 : (mayL can m i).length * 7 ^ d ≤ 6 * 7 ^ d := Nat.mul_le_mul_right _ (by omega)
    rw [joinsL, List.length_append, List.length_map, Nat.pow_succ]
    omega
theorem rs_bound {can : Nat → Nat → Bool} {t : Nat → Nat → Int} {m : Nat} (hm : m ≤ 6) {T : Int} (ht : ∀ i k, 0 ≤ t i k ∧ t i k ≤ T) (hT : 0 ≤ T) (d i u : Nat) :
    (0 ≤ (rsR can t m d i u).2.1 ∧ (rsR can t m d i u).2.1 ≤ T * d) ∧ 0 ≤ (rsR can t m d i u).2.2 ∧ (rsR can t m d i u).2.2 ≤ ((7 ^ d : Nat) : Int) := by
  obtain ⟨q1, q2, q3⟩ := bl_best (can := can) (t := t) (m := m) d i u
  have hb := rs_bst (can := can) (t := t) (m := m) d i u
  have h1 := valJ_bound ht hT (blR can t m d i u) i
  rw [q2, q3] at h1
  have h2 := List.countP_le_length (p := fun l => decide (valJ t i l = (rsR can t m d i u).2.1)) (l := joinsL can m d i u)
  have h3 := joinsL_len (can := can) hm d i u
  have h4 := hb.ways
  exact ⟨h1, by omega, by omega⟩
theorem bit_of {u k : Nat} : ((((Int.fdiv (u : Int) (2 ^ ((k : Nat) : Int).toNat)).toNat &&& 1 : Nat) : Int) = 1) ↔ u.testBit k = true := by
  have e : (Int.fdiv (u : Int) (2 ^ ((k : Nat) : Int).toNat)).toNat = u / 2 ^ k := by
    rw [Int.toNat_natCast, Int.fdiv_eq_ediv_of_nonneg _ (by exact Int.le_of_lt (Int.pow_pos (by omega)))]
    rw [show ((2 : Int) ^ k) = ((2 ^ k : Nat) : Int) by simp, ← Int.natCast_ediv, Int.toNat_natCast]
  rw [e, Nat.and_one_is_mod, Nat.testBit_eq_decide_div_mod_eq, decide_eq_true_eq]
  omega
theorem fdiv_nn {u k : Nat} : 0 ≤ Int.fdiv (u : Int) (2 ^ ((k : Nat) : Int).toNat) := Int.fdiv_nonneg (by omega) (Int.le_of_lt (Int.pow_pos (by omega)))
theorem pow_small {k : Nat} (hk : k < 6) : ∃ q : Nat, 2 ^ k = q ∧ ((1 : Int) * 2 ^ ((k : Nat) : Int).toNat) = (q : Int) ∧ q < 64 := by
  refine ⟨_, rfl, by simp, ?_⟩
  have : 2 ^ k < 2 ^ 6 := Nat.pow_lt_pow_right (by omega) hk
  simpa using this
theorem or_small {u k : Nat} (hu : u < 64) (hk : k < 6) : u ||| 2 ^ k < 64 := Nat.or_lt_two_pow (n := 6) hu (by obtain ⟨q, h1, _, h2⟩ := pow_small hk; omega)
section
variable {W : List Int} {s : Int} {L F : List (List Int)} {R : List Int} {A B : Nat → Nat → Int} {N : Nat}
theorem tastep_v {i k : Nat} (hi : i < 6) (hk : k < 6) : tastep_S N i k (dkT W s L F R A B) = some (A i k) := by
  unfold tastep_S
  rw [rng_eq (by omega), rng_eq (by omega)]
  simp only [Int.toNat_natCast]
  rw [get_T hi hk]
theorem restp_l1_p {t : Nat → Nat → Int} (hF : F.length ≤ 6) (hL : L.length ≤ 6) (ht : ∀ i k, 0 ≤ t i k ∧ t i k ≤ 30000) (htv : ∀ i k : Nat, i < L.length → k < F.length → tastep_S N i k (dkT W s L F R A B) = some (t i k)) {self : Int → Int → Dk → Dk → Dk → Dk → MK → Option (Int × Int × Int × Dk × Dk × MK)} {i d u : Nat} (hi : i + 1 + d = L.length) (hu : u < 64)
    (hself : ∀ (u : Nat) g, u < 64 → MOK (canT A B s) t F.length L.length g → ∃ g', self ((i : Int) + 1) u (dkT W s L F R A B) (dkT W s L F R A B) (dkT W s L F R A B) (dkT W s L F R A B) g = some ((rsR (canT A B s) t F.length d (i + 1) u).1, (rsR (canT A B s) t F.length d (i + 1) u).2.1, (rsR (canT A B s) t F.length d (i + 1) u).2.2, dkT W s L F R A B, dkT W s L F R A B, g') ∧ MOK (canT A B s) t F.length L.length g' ∧ subM g g' ∧ (i + 1 < L.length → hasM g' (i + 1) u))
    {x4 : Int} {P : Nat} (hP : 7 ^ d = P) : ∀ (ks : List Nat) (g : MK) (b : Int × Int × Int) (Wb : Nat), (∀ k ∈ ks, k < F.length) → MOK (canT A B s) t F.length L.length g → (0 ≤ b.2.1 ∧ b.2.1 ≤ 30000 * (d + 1)) → 0 ≤ b.2.2 → b.2.2 ≤ Wb → Wb + ks.length * P ≤ 10000000 →
      ∃ g', restp_l1 N self (ks.map fun (j : Nat) => ((j : Int), ())) (dkT W s L F R A B) (dkT W s L F R A B) (dkT W s L F R A B) x4 (dkT W s L F R A B) (dkT W s L F R A B) g i u 0 0 0 b.1 b.2.1 b.2.2 =
        some (dkT W s L F R A B, dkT W s L F R A B, g', (i : Int), (u : Int), 0, 0, 0, (ks.foldl (rsS t (rsR (canT A B s) t F.length d (i + 1)) i u) b).1, (ks.foldl (rsS t (rsR (canT A B s) t F.length d (i + 1)) i u) b).2.1, (ks.foldl (rsS t (rsR (canT A B s) t F.length d (i + 1)) i u) b).2.2) ∧
        MOK (canT A B s) t F.length L.length g' ∧ subM g g' ∧ ∀ k ∈ ks, u.testBit k = false → i + 1 < L.length → hasM g' (i + 1) (u ||| 2 ^ k)
  | [], g, b, Wb, _, hg, _, _, _, _ => ⟨g, rfl, hg, subM.refl g, fun k hk => by cases hk⟩
  | k :: ks, g, b, Wb, hk, hg, hb1, hb2, hb3, hWb => by
    have hk0 := hk k (by simp)
    have hks : ∀ x ∈ ks, x < F.length := fun x hx => hk x (by simp [hx])
    rw [List.length_cons, Nat.add_mul, Nat.one_mul] at hWb
    rw [List.map_cons, List.foldl_cons, restp_l1, restp_l1_b]
    dsimp only
    rw [grd_eq (by rw [decide_eq_true_eq]; omega), grd_eq (by rw [decide_eq_true_eq]; exact ⟨fdiv_nn, by omega⟩)]
    by_cases hbit : u.testBit k = true
    · rw [br_dec (bit_of.2 hbit)]
      obtain ⟨g', e1, e2, e3, e4⟩ := restp_l1_p hF hL ht htv hi hu hself (x4 := x4) hP ks g b Wb hks hg hb1 hb2 hb3 (by omega)
      have es : rsS t (rsR (canT A B s) t F.length d (i + 1)) i u b k = b := by unfold rsS; rw [if_pos hbit]
      rw [es]
      refine ⟨g', e1, e2, e3, fun x hx hxb hi => ?_⟩
      rcases List.mem_cons.1 hx with rfl | hx
      · rw [hbit] at hxb; cases hxb
      · exact e4 x hx hxb hi
    · rw [br_ndec (fun h => hbit (bit_of.1 h))]
      obtain ⟨q, hq, p1, p2⟩ := pow_small (k := k) (by omega)
      rw [chk_eq (by omega), grd_eq (by rw [decide_eq_true_eq]; omega), p1, chk_eq (by omega), grd_eq (by rw [decide_eq_true_eq]; omega)]
      simp only [Int.toNat_natCast]
      subst hq
      have hu' := or_small hu (show k < 6 by omega)
      obtain ⟨g1, e1, e2, e3, e4⟩ := hself (u ||| 2 ^ k) g hu' hg
      rw [e1]
      simp only [Option.bind_some]
      rw [htv i k (by omega) hk0]
      simp only [Option.bind_some]
      obtain ⟨⟨r1, r2⟩, r3, r4⟩ := rs_bound (can := canT A B s) (t := t) hF ht (by omega) d (i + 1) (u ||| 2 ^ k)
      have ht0 := ht i k
      have hd : (d : Int) ≤ 5 := by omega
      rw [hP] at r4
      have hbit' : u.testBit k = false := by simpa using hbit
      have fin : ∀ b', rsS t (rsR (canT A B s) t F.length d (i + 1)) i u b k = b' → (0 ≤ b'.2.1 ∧ b'.2.1 ≤ 30000 * (d + 1)) → 0 ≤ b'.2.2 → b'.2.2 ≤ ((Wb + P : Nat) : Int) → ∃ g', restp_l1 N self (ks.map fun (j : Nat) => ((j : Int), ())) (dkT W s L F R A B) (dkT W s L F R A B) (dkT W s L F R A B) x4 (dkT W s L F R A B) (dkT W s L F R A B) g1 i u 0 0 0 b'.1 b'.2.1 b'.2.2 =
        some (dkT W s L F R A B, dkT W s L F R A B, g', (i : Int), (u : Int), 0, 0, 0, (ks.foldl (rsS t (rsR (canT A B s) t F.length d (i + 1)) i u) (rsS t (rsR (canT A B s) t F.length d (i + 1)) i u b k)).1, (ks.foldl (rsS t (rsR (canT A B s) t F.length d (i + 1)) i u) (rsS t (rsR (canT A B s) t F.length d (i + 1)) i u b k)).2.1, (ks.foldl (rsS t (rsR (canT A B s) t F.length d (i + 1)) i u) (rsS t (rsR (canT A B s) t F.length d (i + 1)) i u b k)).2.2) ∧
        MOK (canT A B s) t F.length L.length g' ∧ subM g g' ∧ ∀ x ∈ k :: ks, u.testBit x = false → i + 1 < L.length → hasM g' (i + 1) (u ||| 2 ^ x) := fun b' hb' q1 q2 q3 => by
        obtain ⟨g', f1, f2, f3, f4⟩ := restp_l1_p hF hL ht htv hi hu hself (x4 := x4) hP ks g1 b' (Wb + P) hks e2 q1 q2 q3 (by omega)
        rw [hb']
        refine ⟨g', f1, f2, e3.trans f3, fun x hx hxb hi => ?_⟩
        rcases List.mem_cons.1 hx with rfl | hx
        · exact f3 _ _ (e4 hi)
        · exact f4 x hx hxb hi
      have es : rsS t (rsR (canT A B s) t F.length d (i + 1)) i u b k = if b.2.1 < (rsR (canT A B s) t F.length d (i + 1) (u ||| 2 ^ k)).2.1 + t i k then ((k : Int), (rsR (canT A B s) t F.length d (i + 1) (u ||| 2 ^ k)).2.1 + t i k, (rsR (canT A B s) t F.length d (i + 1) (u ||| 2 ^ k)).2.2)
          else if (rsR (canT A B s) t F.length d (i + 1) (u ||| 2 ^ k)).2.1 + t i k = b.2.1 then (b.1, b.2.1, b.2.2 + (rsR (canT A B s) t F.length d (i + 1) (u ||| 2 ^ k)).2.2) else b := by
        unfold rsS; rw [if_neg hbit]
      have hmul : 30000 * ((d : Int) + 1) = 30000 * d + 30000 := by omega
      rw [chk_eq (by omega)]
      by_cases c1 : b.2.1 < (rsR (canT A B s) t F.length d (i + 1) (u ||| 2 ^ k)).2.1 + t i k
      · rw [if_pos c1] at es
        rw [br_dec c1]
        exact fin _ es ⟨by dsimp only; omega, by dsimp only; omega⟩ (by dsimp only; omega) (by dsimp only; omega)
      · rw [if_neg c1] at es
        rw [br_ndec c1]
        by_cases c2 : (rsR (canT A B s) t F.length d (i + 1) (u ||| 2 ^ k)).2.1 + t i k = b.2.1
        · rw [if_pos c2] at es
          rw [br_dec c2, chk_eq (by omega)]
          exact fin _ es hb1 (by dsimp only; omega) (by dsimp only; omega)
        · rw [if_neg c2] at es
          rw [br_ndec c2]
          exact fin _ es hb1 hb2 (by omega)
theorem restp_R_p {t : Nat → Nat → Int} (hF : F.length ≤ 6) (hL : L.length ≤ 6) (ht : ∀ i k, 0 ≤ t i k ∧ t i k ≤ 30000) (htv : ∀ i k : Nat, i < L.length → k < F.length → tastep_S N i k (dkT W s L F R A B) = some (t i k)) :
    ∀ (fu d i u : Nat) (g : MK), d < fu → i + d = L.length → u < 64 → MOK (canT A B s) t F.length L.length g →
      ∃ g', restp_R N fu i u (dkT W s L F R A B) (dkT W s L F R A B) (dkT W s L F R A B) (dkT W s L F R A B) g = some ((rsR (canT A B s) t F.length d i u).1, (rsR (canT A B s) t F.length d i u).2.1, (rsR (canT A B s) t F.length d i u).2.2, dkT W s L F R A B, dkT W s L F R A B, g') ∧ MOK (canT A B s) t F.length L.length g' ∧ subM g g' ∧ (i < L.length → hasM g' i u)
  | 0, d, i, u, g, h, _, _, _ => by omega
  | fu + 1, d, i, u, g, h, hid, hu, hg => by
    show ∃ g', restp_S N (restp_R N fu) i u (dkT W s L F R A B) (dkT W s L F R A B) (dkT W s L F R A B) (dkT W s L F R A B) g = _ ∧ _
    unfold restp_S
    have hdl : (dkT W s L F R A B).2.2.1.length = L.length := rfl
    rw [hdl]
    cases d with
    | zero =>
      rw [br_dec (by omega)]
      exact ⟨g, rfl, hg, subM.refl g, fun h => by omega⟩
    | succ d =>
      rw [br_ndec (by omega), lkM_some]
      by_cases c : hasM g i u
      · have e := hg.get c
        rw [show L.length - i = d + 1 by omega] at e
        unfold hasM at c
        rw [c, br_true]
        unfold lkM at e
        rw [e]
        exact ⟨g, rfl, hg, subM.refl g, fun _ => c⟩
      · rw [Bool.eq_false_iff.2 c, br_false, chk_eq (by omega)]
        have hself : ∀ (u : Nat) g, u < 64 → MOK (canT A B s) t F.length L.length g → ∃ g', restp_R N fu ((i : Int) + 1) u (dkT W s L F R A B) (dkT W s L F R A B) (dkT W s L F R A B) (dkT W s L F R A B) g = some ((rsR (canT A B s) t F.length d (i + 1) u).1, (rsR (canT A B s) t F.length d (i + 1) u).2.1, (rsR (canT A B s) t F.length d (i + 1) u).2.2, dkT W s L F R A B, dkT W s L F R A B, g') ∧ MOK (canT A B s) t F.length L.length g' ∧ subM g g' ∧ (i + 1 < L.length → hasM g' (i + 1) u) := fun u g hu hg => by
          have := restp_R_p hF hL ht htv fu d (i + 1) u g (by omega) (by omega) hu hg
          rwa [nat_succ] at this
        obtain ⟨g1, e1, e2, e3, e4⟩ := hself u g hu hg
        rw [e1]
        simp only [Option.bind_some]
        have em : may_S N (dkT W s L F R A B) (i : Int) = some (dkT W s L F R A B, dkT W s L F R A B, (i : Int)) := rfl
        rw [em]
        simp only [Option.bind_some]
        rw [mayR_T hF (by omega)]
        simp only [Option.bind_some]
        obtain ⟨⟨r1, r2⟩, r3, r4⟩ := rs_bound (can := canT A B s) (t := t) hF ht (by omega) d (i + 1) u
        have h7 : (7 : Nat) ^ d ≤ 7 ^ 5 := Nat.pow_le_pow_right (by omega) (by omega)
        have h7' : (mayL (canT A B s) F.length i).length * 7 ^ d ≤ 6 * 7 ^ 5 := Nat.mul_le_mul (by have := mayL_len (canT A B s) F.length i; omega) h7
        obtain ⟨g2, f1, f2, f3, f4⟩ := restp_l1_p hF hL ht htv (i := i) (d := d) (u := u) (by omega) hu hself (x4 := (i : Int)) rfl (mayL (canT A B s) F.length i) g1 (-1, (rsR (canT A B s) t F.length d (i + 1) u).2.1, (rsR (canT A B s) t F.length d (i + 1) u).2.2) (7 ^ d)
          (fun k hk => (mem_mayL.1 hk).1) e2 ⟨r1, by dsimp only; omega⟩ r3 r4 (by omega)
        unfold mayE
        rw [f1]
        simp only [Option.bind_some]
        have er : rsR (canT A B s) t F.length (d + 1) i u = (mayL (canT A B s) F.length i).foldl (rsS t (rsR (canT A B s) t F.length d (i + 1)) i u) (-1, (rsR (canT A B s) t F.length d (i + 1) u).2.1, (rsR (canT A B s) t F.length d (i + 1) u).2.2) := rfl
        rw [← er]
        obtain ⟨k1, k2, k3⟩ := f2.cons (i := i) (u := u) (fun hi => ⟨f3 _ _ (e4 hi), fun k hk hb => f4 k hk hb hi⟩)
        rw [show L.length - i = d + 1 by omega] at k1 k2 k3
        exact ⟨_, rfl, k1, e3.trans (f3.trans k2), fun _ => k3⟩
theorem restsp_v {t : Nat → Nat → Int} (hN : 110 ≤ N) (hF : F.length ≤ 6) (hL : L.length ≤ 6) (ht : ∀ i k, 0 ≤ t i k ∧ t i k ≤ 30000) (htv : ∀ i k : Nat, i < L.length → k < F.length → tastep_S N i k (dkT W s L F R A B) = some (t i k)) {u : Nat} (hu : u < 64) :
    ∃ g, restsp_S N (dkT W s L F R A B) (dkT W s L F R A B) u = some g ∧ (0 < L.length → MOK (canT A B s) t F.length L.length g ∧ hasM g 0 u) ∧ lkM g 0 u = some (rsR (canT A B s) t F.length L.length 0 u) := by
  obtain ⟨g, e1, e2, e3, e4⟩ := restp_R_p hF hL ht htv N L.length 0 u [] (by omega) (by omega) hu MOK.nil
  unfold restsp_S restsp_j1
  rw [show ((0 : Nat) : Int) = 0 from rfl] at e1
  rw [e1]
  simp only [Option.bind_some]
  refine ⟨_, rfl, fun h0 => ?_, by rw [lkM_cons, if_pos ⟨rfl, rfl⟩]⟩
  have hg : hasM g 0 u := e4 h0
  obtain ⟨k1, k2, k3⟩ := e2.cons (i := 0) (u := u) (fun hi => e2.clo 0 u hg hi)
  rw [Nat.sub_zero] at k1 k3
  exact ⟨k1, k3⟩
theorem first_v (hN : 110 ≤ N) (hF : F.length ≤ 6) (hL : L.length ≤ 6) (hA : ∀ i k, 0 ≤ A i k ∧ A i k ≤ 50) {u : Nat} (hu : u < 64) : first_S N (dkT W s L F R A B) u = some (rsR (canT A B s) A F.length L.length 0 u) := by
  obtain ⟨g, e1, _, e3⟩ := restsp_v (N := N) (W := W) (s := s) (R := R) (B := B) (A := A) (t := A) hN hF hL (fun i k => by have := hA i k; omega) (fun i k hi hk => tastep_v (by omega) (by omega)) hu
  unfold first_S
  rw [show plain_S N (dkT W s L F R A B) = some (dkT W s L F R A B) from rfl]
  simp only [Option.bind_some]
  rw [e1]
  simp only [Option.bind_some]
  unfold lkM at e3
  rw [e3]; rfl
end
end Go.Proofs.Ythncjilcflilcaa

namespace Go.Proofs.Ythncjilcflilcaa
set_option linter.all false
open Go

/-- All lists of numbers from -1 up to below m. -/
def rowX (m : Nat) (r : List Int) : List (List Int) := (List.range (m + 1)).map fun (k : Nat) => r ++ [(k : Int) - 1]
def listsR (m : Nat) : Nat → List (List Int)
  | 0 => [[]]
  | n + 1 => (listsR m n).flatMap (rowX m)
theorem mem_listsR {m : Nat} : ∀ {n : Nat} {l : List Int}, l ∈ listsR m n ↔ l.length = n ∧ ∀ x ∈ l, -1 ≤ x ∧ x ≤ (m : Int) - 1
  | 0, l => by
    simp only [listsR, List.mem_singleton]
    constructor
    · rintro rfl; exact ⟨rfl, fun x hx => by cases hx⟩
    · rintro ⟨h, _⟩; exact List.eq_nil_of_length_eq_zero h
  | n + 1, l => by
    simp only [listsR, rowX, List.mem_flatMap, List.mem_map, List.mem_range]
    constructor
    · rintro ⟨r, hr, k, hk, rfl⟩
      obtain ⟨h1, h2⟩ := mem_listsR.1 hr
      refine ⟨by simp [h1], fun x hx => ?_⟩
      rcases List.mem_append.1 hx with hx | hx
      · exact h2 x hx
      · simp only [List.mem_singleton] at hx; omega
    · rintro ⟨h1, h2⟩
      have hne : l ≠ [] := fun e => by subst e; simp at h1
      have hlast := h2 _ (List.getLast_mem hne)
      refine ⟨l.dropLast, mem_listsR.2 ⟨by simp [h1], fun x hx => h2 x ((List.dropLast_sublist l).subset hx)⟩, (l.getLast hne + 1).toNat, by omega, ?_⟩
      rw [show (((l.getLast hne + 1).toNat : Nat) : Int) - 1 = l.getLast hne by omega]
      exact List.dropLast_concat_getLast hne
theorem nodup_listsR (m : Nat) : ∀ n : Nat, (listsR m n).Nodup
  | 0 => by simp [listsR]
  | n + 1 => by
    unfold listsR
    have key : ∀ l : List (List Int), l.Nodup → (l.flatMap (rowX m)).Nodup := by
      intro l hl
      induction l with
      | nil => simp
      | cons a l ih =>
        rw [List.nodup_cons] at hl
        rw [List.flatMap_cons, List.nodup_append]
        refine ⟨?_, ih hl.2, ?_⟩
        · unfold rowX List.Nodup
          rw [List.pairwise_map]
          refine List.Pairwise.imp ?_ List.nodup_range
          intro x y hxy e
          have := List.append_cancel_left e
          simp only [List.cons.injEq, and_true] at this
          omega
        · intro x hx y hy e
          subst e
          simp only [rowX, List.mem_map, List.mem_flatMap] at hx hy
          obtain ⟨k, _, rfl⟩ := hx
          obtain ⟨b, hb, j, _, e⟩ := hy
          have := (List.append_inj' e rfl).1
          subst this
          exact hl.1 hb
    exact key _ (nodup_listsR m n)
section
variable {N : Nat}
end
/-! ### Joins without an error -/
theorem getD_01 {l : List Int} {i : Nat} (h : i < l.length) : l.getD i 0 = fnJ l i := by simp [fnJ, List.getD, h]
theorem errJ_mt {n m : Nat} {can : Nat → Nat → Bool} {l : List Int} : errJ 0 n m can l = 0 ↔ l ∈ joinsL can m n 0 0 := by
  rw [mem_joinsL, okJ_mt]
  constructor
  · intro h
    obtain ⟨_, h1, h2, h3, h4⟩ := errJ_fine h
    rw [alI_iff] at h3 h4
    refine ⟨h1, ⟨fun i hi => ?_, fun i j hi hj hij he => ?_⟩, fun k hk => by simp at hk⟩
    · have hx := List.all_eq_true.1 h2 _ (getD_mem (d := 0) hi)
      unfold inm at hx
      rw [decide_eq_true_eq, getD_01 hi] at hx
      have hc := h4 i hi
      unfold cnI at hc
      rw [Bool.or_eq_true, decide_eq_true_eq, getD_01 hi] at hc
      rcases hc with hc | hc
      · exact .inl hc
      · by_cases e : fnJ l i = -1
        · exact .inl e
        · exact .inr ⟨(fnJ l i).toNat, by omega, by omega, hc⟩
    · have key : ∀ i j, i < j → j < l.length → fnJ l i = fnJ l j → fnJ l j = -1 := fun i j hij hj he => by
        have hd := h3 j hj
        unfold dupI at hd
        rw [Bool.or_eq_true, decide_eq_true_eq, getD_01 hj, Bool.not_eq_true', ← Bool.not_eq_true, hasB_iff] at hd
        rcases hd with hd | hd
        · exact hd
        · refine absurd ?_ hd
          rw [← he, ← getD_01 (show i < l.length by omega)]
          exact List.mem_iff_getElem.2 ⟨i, by simp; omega, by simp [List.getD, show i < l.length by omega]⟩
      rcases Nat.lt_or_gt_of_ne hij with h | h
      · rw [he]; exact key i j h hj he
      · exact key j i h hi he.symm
  · rintro ⟨hl, h1, _⟩
    have hb : l.all (inm m) = true := by
      rw [List.all_eq_true]
      intro x hx
      obtain ⟨i, hi, rfl⟩ := List.getElem_of_mem hx
      have e : l[i] = fnJ l i := by simp [fnJ, List.getD, hi]
      unfold inm
      rw [decide_eq_true_eq, e]
      rcases h1.ok i hi with h | ⟨k, h, hk, _⟩ <;> omega
    have hd : alI (dupI l) l.length = true := by
      rw [alI_iff]
      intro j hj
      unfold dupI
      rw [Bool.or_eq_true, decide_eq_true_eq, getD_01 hj, Bool.not_eq_true', ← Bool.not_eq_true, hasB_iff]
      by_cases e : fnJ l j = -1
      · exact .inl e
      · refine .inr fun hm => ?_
        obtain ⟨i, hi, he⟩ := List.getElem_of_mem hm
        simp only [List.length_take] at hi
        have hij : i < j := by omega
        refine e (h1.inj j i hj (by omega) (by omega) ?_)
        rw [← he, ← getD_01 (show i < l.length by omega)]
        simp [List.getD, show i < l.length by omega]
    have hc : alI (cnI can l) l.length = true := by
      rw [alI_iff]
      intro i hi
      unfold cnI
      rw [Bool.or_eq_true, decide_eq_true_eq, getD_01 hi]
      rcases h1.ok i hi with h | ⟨k, h, _, hc⟩
      · exact .inl h
      · right; rw [h, Int.toNat_natCast]; exact hc
    unfold errJ
    rw [if_neg (by simp), if_neg (by omega), hb, hd, hc]
    simp
section
variable {W : List Int} {s : Int} {L F : List (List Int)} {R : List Int} {A B : Nat → Nat → Int} {N : Nat}
/-- All joins. -/
def allR (W : List Int) (s : Int) (L F : List (List Int)) : List (List Int) := (listsR F.length L.length).filter fun l => decide (errJ 0 L.length F.length (canF W s L F) l = 0)
theorem mem_allR {l : List Int} : l ∈ allR W s L F ↔ l ∈ joinsL (canF W s L F) F.length L.length 0 0 := by
  unfold allR
  rw [List.mem_filter, decide_eq_true_eq]
  constructor
  · exact fun h => errJ_mt.1 h.2
  · intro h
    have he := errJ_mt.2 h
    refine ⟨mem_listsR.2 ?_, he⟩
    obtain ⟨_, h1, h2, _⟩ := errJ_fine he
    refine ⟨h1, fun x hx => ?_⟩
    have := List.all_eq_true.1 h2 x hx
    unfold inm at this
    rwa [decide_eq_true_eq] at this
theorem nodup_allR : (allR W s L F).Nodup := List.Pairwise.filter _ (nodup_listsR _ _)
/-- The greatest worth, and in how many ways. -/
def bestV (W : List Int) (s : Int) (L F : List (List Int)) : Int := (rsR (canF W s L F) (agF W L F) F.length L.length 0 0).2.1
def bestN (W : List Int) (s : Int) (L F : List (List Int)) : Int := (rsR (canF W s L F) (agF W L F) F.length L.length 0 0).2.2
/-- All best joins. -/
def bestR (W : List Int) (s : Int) (L F : List (List Int)) : List (List Int) := (allR W s L F).filter fun l => decide (valJ (agF W L F) 0 l = bestV W s L F)
theorem bl_mem {t : Nat → Nat → Int} : blR (canF W s L F) t F.length L.length 0 0 ∈ joinsL (canF W s L F) F.length L.length 0 0 := by
  obtain ⟨q1, q2, _⟩ := bl_best (can := canF W s L F) (t := t) (m := F.length) L.length 0 0
  exact mem_joinsL.2 ⟨q2, q1⟩
theorem bl_val : valJ (agF W L F) 0 (blR (canF W s L F) (agF W L F) F.length L.length 0 0) = bestV W s L F := (bl_best (can := canF W s L F) (t := agF W L F) (m := F.length) L.length 0 0).2.2
theorem bestR_len : ((bestR W s L F).length : Int) = bestN W s L F := by
  have h := (rs_bst (can := canF W s L F) (t := agF W L F) (m := F.length) L.length 0 0).ways
  unfold bestN
  rw [← h]
  unfold bestR
  rw [← List.countP_eq_length_filter]
  congr 1
  exact countP_same nodup_allR (nodup_joinsL _ _ _) (fun x => mem_allR) (fun x _ => rfl)
theorem mem_bestR {l : List Int} : l ∈ bestR W s L F ↔ l ∈ joinsL (canF W s L F) F.length L.length 0 0 ∧ valJ (agF W L F) 0 l = bestV W s L F := by
  unfold bestR
  rw [List.mem_filter, mem_allR, decide_eq_true_eq]
end
end Go.Proofs.Ythncjilcflilcaa

namespace Go.Proofs.Ythncjilcflilcaa
set_option linter.all false
open Go

section
variable {W : List Int} {s : Int} {L F : List (List Int)} {R : List Int} {A B : Nat → Nat → Int} {N : Nat}
theorem count_v (hN : 110 ≤ N) (h : Sm W L F R) : count_S N W s L F R = some (if errD W s L F R = 0 then (bestN W s L F, 0) else (0, errD W s L F R)) := by
  unfold count_S
  rw [opened_v hN h]
  by_cases c : errD W s L F R = 0
  rotate_left
  · rw [if_neg c, if_neg c]
    simp only [Option.bind_some]
    rw [br_nnd c]
  have hF := errD_iff.1 c
  rw [if_pos c, if_pos c]
  simp only [Option.bind_some]
  rw [br_nd (by first | trivial | rfl)]
  unfold dkO
  have := first_v (N := N) (W := W) (s := s) (R := R) (B := slF W L F) hN hF.f6 hF.l6 (agF_bound hF) (u := 0) (by omega)
  rw [show ((0 : Nat) : Int) = 0 from rfl] at this
  rw [this]; rfl
/-! ### Rewards -/
/-! ### Prices -/
end
end Go.Proofs.Ythncjilcflilcaa

namespace Go.Proofs.Ythncjilcflilcaa
set_option linter.all false
open Go

section
variable {N : Nat}
end
section
variable {W : List Int} {s : Int} {L F : List (List Int)} {R : List Int} {A B : Nat → Nat → Int} {N : Nat}
end
end Go.Proofs.Ythncjilcflilcaa

namespace Go.Proofs.Ythncjilcflilcaa
set_option linter.all false
open Go

section
variable {W : List Int} {s : Int} {L F : List (List Int)} {R : List Int} {A B : Nat → Nat → Int} {N : Nat}
/-! ### The reference -/
end
end Go.Proofs.Ythncjilcflilcaa

namespace Go.Proofs.Ythncjilcflilcaa
set_option linter.all false
open Go

section
variable {W : List Int} {s : Int} {L F : List (List Int)} {R : List Int} {A B : Nat → Nat → Int} {N : Nat}
theorem bestR_pos : 0 < (bestR W s L F).length := List.length_pos_of_mem (mem_bestR.2 ⟨bl_mem, bl_val⟩)
/-! ### What is spare -/
end
end Go.Proofs.Ythncjilcflilcaa

namespace Go.Proofs.Ythncjilcflilcaa
set_option linter.all false
open Go

section
variable {W : List Int} {s : Int} {L F : List (List Int)} {R : List Int} {N : Nat}
/-- The found things with a value more. -/
def setF (F : List (List Int)) (k t : Nat) (v : Int) : List (List Int) := F.set k ((F.getD k []).set t v)
theorem setF_len (k t : Nat) (v : Int) : (setF F k t v).length = F.length := by simp [setF]
theorem setF_mem {k t : Nat} {v : Int} : ∀ r ∈ setF F k t v, r ∈ F ∨ r = (F.getD k []).set t v := fun r hr => List.mem_or_eq_of_mem_set hr
theorem Fine.setF (h : Fine W s L F R) {k t : Nat} {v : Int} (hk : k < F.length) (hv : 0 ≤ v ∧ v ≤ 5) : Fine W s L (Proofs.Ythncjilcflilcaa.setF F k t v) R := by
  have hm := getD_mem (d := []) hk
  have hl := setF_len (F := F) k t v
  have hf := h.f6
  refine ⟨h.w1, h.w5, h.l6, by omega, h.lw, fun x hx => ?_, h.rl, h.w, h.s, h.r, h.lv, fun r hr x hx => ?_⟩
  · rcases setF_mem x hx with hx | rfl
    · exact h.fw x hx
    · rw [List.length_set]; exact h.fw _ hm
  · rcases setF_mem r hr with hr | rfl
    · exact h.fv r hr x hx
    · rcases List.mem_or_eq_of_mem_set hx with hx | rfl
      · exact h.fv _ hm x hx
      · omega
theorem clone_v {l : List Int} (hl : l.length ≤ 1000000) : clone_S N l = some l := by
  unfold clone_S
  rw [lim_eq hl]
theorem copied {α : Type} (l : List α) (d : α) : l.take (min l.length (List.replicate (l.length : Int).toNat d).length) ++ (List.replicate (l.length : Int).toNat d).drop (min l.length (List.replicate (l.length : Int).toNat d).length) = l := by simp
theorem known_v (h : Fine W s L F R) {k t : Nat} (hk : k < F.length) (ht : t < W.length) (v : Int) : known_S N W s L F R k t v = some (W, s, L, setF F k t v, R) := by
  have h1 := h.w1; have h2 := h.w5; have h3 := h.l6; have h4 := h.f6; have h5 := h.rl
  have hr := h.fw _ (getD_mem (d := []) hk)
  have hne : ∀ r : List Int, r.length = W.length → r ≠ [] ∧ r.length ≤ 1000000 := fun r e => ⟨fun e2 => by subst e2; simp at e; omega, by omega⟩
  unfold known_S
  rw [clone_v (by omega)]
  simp only [Option.bind_some]
  rw [grd_eq (lmI_iff.2 (by omega)), grd_eq (lmI_iff.2 (by omega)), clone_v (by omega)]
  simp only [Option.bind_some]
  rw [copied, copied]
  unfold known_j1 known_j2
  rw [if_pos ⟨⟨by omega, by omega, by simp only [Int.toNat_natCast]; omega⟩, fun r hr => hne r (h.lw r hr), fun r hr => hne r (h.fw r hr)⟩]
  simp only [Int.toNat_natCast]
  rfl
theorem with_v (hN : 110 ≤ N) (h : Sm W L F R) (a t v : Int) : with__S N W s L F R a t v = some (if errD W s L F R = 0 then if ¬ (0 ≤ a ∧ a ≤ (F.length : Int) - 1) then ([], 0, [], [], [], 1) else if ¬ (0 ≤ t ∧ t ≤ (W.length : Int) - 1) then ([], 0, [], [], [], 1) else
    if ¬ (F.getD a.toNat []).getD t.toNat 0 = -1 then ([], 0, [], [], [], 5) else if ¬ (0 ≤ v ∧ v ≤ 5) then ([], 0, [], [], [], 3) else (W, s, L, setF F a.toNat t.toNat v, R, 0) else ([], 0, [], [], [], errD W s L F R)) := by
  unfold with__S
  rw [opened_v hN h]
  by_cases c : errD W s L F R = 0
  rotate_left
  · rw [if_neg c, if_neg c]
    simp only [Option.bind_some]
    rw [br_nnd c]
  have hF := errD_iff.1 c
  have h1 := hF.w1; have h2 := hF.w5; have h4 := hF.f6
  rw [if_pos c, if_pos c]
  simp only [Option.bind_some]
  rw [br_nd (by first | trivial | rfl)]
  unfold dkO
  rw [dfound_v (by omega)]
  simp only [Option.bind_some]
  by_cases c1 : 0 ≤ a ∧ a ≤ (F.length : Int) - 1
  rotate_left
  · rw [br_nnd c1, if_pos c1]
  rw [br_nd c1, if_neg (not_not_intro c1), chk_eq (by omega), in_v]
  simp only [Option.bind_some]
  by_cases c2 : 0 ≤ t ∧ t ≤ (W.length : Int) - 1
  rotate_left
  · rw [br_nnd c2, if_pos c2]
  rw [br_nd c2, if_neg (not_not_intro c2)]
  obtain ⟨k, rfl⟩ : ∃ k : Nat, a = k := ⟨a.toNat, (Int.toNat_of_nonneg c1.1).symm⟩
  obtain ⟨t, rfl⟩ : ∃ k : Nat, t = k := ⟨t.toNat, (Int.toNat_of_nonneg c2.1).symm⟩
  have hk : k < F.length := by omega
  have ht : t < W.length := by omega
  have hr := hF.fw _ (getD_mem (d := []) hk)
  simp only [Int.toNat_natCast]
  rw [idx_eq (by omega) (gets hk []), idx_eq (by omega) (gets (by omega) 0)]
  by_cases c3 : (F.getD k []).getD t 0 = -1
  rotate_left
  · rw [br_nnd c3, if_pos c3]
  rw [br_nd c3, if_neg (not_not_intro c3), in_v]
  simp only [Option.bind_some]
  by_cases c4 : 0 ≤ v ∧ v ≤ 5
  rotate_left
  · rw [br_nnd c4, if_pos c4]
  rw [br_nd c4, if_neg (not_not_intro c4), known_v hF hk ht]
  rfl
/-- The greatest of some numbers. -/
def maxN (f : Nat → Int) : Nat → Int
  | 0 => 0
  | n + 1 => max (maxN f n) (f n)
theorem maxN_le {f : Nat → Int} : ∀ {n i : Nat}, i < n → f i ≤ maxN f n
  | 0, i, h => by omega
  | n + 1, i, h => by
    unfold maxN
    by_cases e : i = n
    · subst e; omega
    · have := maxN_le (f := f) (n := n) (i := i) (by omega); omega
/-- How many ways there are to join best, with a value more; at most, whatever it is. -/
def wK (W : List Int) (s : Int) (L F : List (List Int)) (k t : Nat) (v : Nat) : Int := bestN W s L (setF F k t v)
def mK (W : List Int) (s : Int) (L F : List (List Int)) (k t : Nat) : Int := maxN (wK W s L F k t) 6
theorem bestN_pos : 0 < bestN W s L F := by rw [← bestR_len]; have := bestR_pos (W := W) (s := s) (L := L) (F := F); omega
theorem mK_pos {k t : Nat} : 0 < mK W s L F k t := by
  have := maxN_le (f := wK W s L F k t) (n := 6) (i := 0) (by omega)
  have h2 : 0 < wK W s L F k t 0 := bestN_pos
  unfold mK; omega
theorem ask_l3_p (hN : 110 ≤ N) (h : Fine W s L F R) {k t : Nat} (hk : k < F.length) (ht : t < W.length) {fo tr mo u2 u3 u5 u6 : Int} {u : List (List Int)} {u4 : List Int} : ∀ (n v : Nat), 6 < n + v → v ≤ 6 →
    ask_l3 N n fo tr mo k t (maxN (wK W s L F k t) v) u u2 u3 u4 u5 u6 v W s L F R = some (fo, tr, mo, (k : Int), (t : Int), mK W s L F k t, u, u2, u3, u4, u5, u6, W, s, L, F, R)
  | 0, v, hn, hv => by omega
  | n + 1, v, hn, hv => by
    unfold ask_l3
    by_cases c : v < 6
    · have ih := ask_l3_p hN h hk ht (fo := fo) (tr := tr) (mo := mo) (u := u) (u2 := u2) (u3 := u3) (u4 := u4) (u5 := u5) (u6 := u6) n (v + 1) (by omega) (by omega)
      rw [nat_succ] at ih
      have hF : Fine W s L (setF F k t v) R := h.setF hk (by omega)
      rw [br_dec (by omega), known_v h hk ht]
      simp only [Option.bind_some]
      rw [opened_f hN hF]
      simp only [Option.bind_some]
      unfold dkO
      have e0 := first_v (N := N) (W := W) (s := s) (R := R) (B := slF W L (setF F k t v)) hN hF.f6 hF.l6 (agF_bound hF) (u := 0) (by omega)
      rw [show ((0 : Nat) : Int) = 0 from rfl] at e0
      rw [e0]
      simp only [Option.bind_some]
      rw [chk_eq (by omega)]
      exact ih
    · obtain rfl : v = 6 := by omega
      rw [br_ndec (by omega)]
      rfl
/-- A trait that isn't known. -/
def opn (F : List (List Int)) (k t : Nat) : Prop := k < F.length ∧ t < (F.getD k []).length ∧ (F.getD k []).getD t 0 = -1
def lexL (k t k2 t2 : Nat) : Prop := k < k2 ∨ (k = k2 ∧ t < t2)
/-- What is told of the traits ahead of one. -/
def AskI (W : List Int) (s : Int) (L F : List (List Int)) (k0 t0 : Nat) (fo tr mo : Int) : Prop :=
  (fo = 0 ∧ tr = 0 ∧ mo = 0 ∧ ∀ k t, opn F k t → ¬ lexL k t k0 t0) ∨
  (∃ f r : Nat, fo = f ∧ tr = r ∧ opn F f r ∧ lexL f r k0 t0 ∧ mo = mK W s L F f r ∧ ∀ k t, opn F k t → lexL k t k0 t0 → mo ≤ mK W s L F k t ∧ (mK W s L F k t = mo → ¬ lexL k t f r))
theorem AskI.closed {k t : Nat} {fo tr mo : Int} (h : AskI W s L F k t fo tr mo) (ho : ¬ opn F k t) : AskI W s L F k (t + 1) fo tr mo := by
  have key : ∀ a b, opn F a b → lexL a b k (t + 1) → lexL a b k t := fun a b h1 h2 => by
    rcases h2 with h2 | ⟨rfl, h2⟩
    · exact .inl h2
    · by_cases e : b = t
      · subst e; exact absurd h1 ho
      · exact .inr ⟨rfl, by omega⟩
  rcases h with ⟨h1, h2, h3, h4⟩ | ⟨f, r, h1, h2, h3, h4, h5, h6⟩
  · exact .inl ⟨h1, h2, h3, fun a b ha hb => h4 a b ha (key a b ha hb)⟩
  · exact .inr ⟨f, r, h1, h2, h3, by rcases h4 with h | h; exact .inl h; exact .inr ⟨h.1, by omega⟩, h5, fun a b ha hb => h6 a b ha (key a b ha hb)⟩
theorem AskI.row {k t : Nat} {fo tr mo : Int} (h : AskI W s L F k t fo tr mo) (ht : (F.getD k []).length ≤ t) : AskI W s L F (k + 1) 0 fo tr mo := by
  have key : ∀ a b, opn F a b → lexL a b (k + 1) 0 → lexL a b k t := fun a b h1 h2 => by
    rcases h2 with h2 | ⟨rfl, h2⟩
    · by_cases e : a = k
      · subst e; exact .inr ⟨rfl, by have := h1.2.1; omega⟩
      · exact .inl (by omega)
    · omega
  rcases h with ⟨h1, h2, h3, h4⟩ | ⟨f, r, h1, h2, h3, h4, h5, h6⟩
  · exact .inl ⟨h1, h2, h3, fun a b ha hb => h4 a b ha (key a b ha hb)⟩
  · exact .inr ⟨f, r, h1, h2, h3, .inl (by rcases h4 with h | h <;> omega), h5, fun a b ha hb => h6 a b ha (key a b ha hb)⟩
theorem AskI.take {k t : Nat} {fo tr mo : Int} (h : AskI W s L F k t fo tr mo) (ho : opn F k t) (hm : mo = 0 ∨ mK W s L F k t < mo) : AskI W s L F k (t + 1) k t (mK W s L F k t) := by
  refine .inr ⟨k, t, rfl, rfl, ho, .inr ⟨rfl, by omega⟩, rfl, fun a b ha hb => ?_⟩
  have hq := mK_pos (W := W) (s := s) (L := L) (F := F) (k := k) (t := t)
  by_cases e : lexL a b k t
  · rcases h with ⟨h1, h2, h3, h4⟩ | ⟨f, r, h1, h2, h3, h4, h5, h6⟩
    · exact absurd e (h4 a b ha)
    · have h7 := h6 a b ha e
      have h8 := mK_pos (W := W) (s := s) (L := L) (F := F) (k := f) (t := r)
      exact ⟨by omega, fun e2 => by omega⟩
  · have : a = k ∧ b = t := by
      rcases hb with hb | ⟨rfl, hb⟩
      · exact absurd (.inl hb) e
      · refine ⟨rfl, ?_⟩
        by_cases e2 : b = t
        · exact e2
        · exact absurd (.inr ⟨rfl, by omega⟩) e
    obtain ⟨rfl, rfl⟩ := this
    exact ⟨Int.le_refl _, fun _ => e⟩
theorem AskI.pass {k t : Nat} {fo tr mo : Int} (h : AskI W s L F k t fo tr mo) (hm : ¬ mo = 0) (hm2 : ¬ mK W s L F k t < mo) : AskI W s L F k (t + 1) fo tr mo := by
  rcases h with ⟨h1, h2, h3, h4⟩ | ⟨f, r, h1, h2, h3, h4, h5, h6⟩
  · exact absurd h3 hm
  · refine .inr ⟨f, r, h1, h2, h3, by rcases h4 with h | h; exact .inl h; exact .inr ⟨h.1, by omega⟩, h5, fun a b ha hb => ?_⟩
    by_cases e : lexL a b k t
    · exact h6 a b ha e
    · have : a = k ∧ b = t := by
        rcases hb with hb | ⟨rfl, hb⟩
        · exact absurd (.inl hb) e
        · refine ⟨rfl, ?_⟩
          by_cases e2 : b = t
          · exact e2
          · exact absurd (.inr ⟨rfl, by omega⟩) e
      obtain ⟨rfl, rfl⟩ := this
      refine ⟨by omega, fun _ hx => ?_⟩
      rcases h4 with h | h <;> rcases hx with hx | hx <;> omega
theorem ask_l2_p (hN : 110 ≤ N) (h : Fine W s L F R) {k : Nat} (hk : k < F.length) {u2 u3 : Int} {u : List (List Int)} : ∀ (n t : Nat) (fo tr mo : Int), W.length < n + t → t ≤ W.length → AskI W s L F k t fo tr mo →
    ∃ fo' tr' mo', AskI W s L F (k + 1) 0 fo' tr' mo' ∧ ask_l2 N n fo tr mo k u u2 u3 (F.getD k []) ((F.getD k []).length : Int) t W s L F R = some (fo', tr', mo', u, u2, u3, W, s, L, F, R)
  | 0, t, fo, tr, mo, hn, ht, _ => by omega
  | n + 1, t, fo, tr, mo, hn, ht, hI => by
    unfold ask_l2
    have hr := h.fw _ (getD_mem (d := []) hk)
    have hw5 := h.w5
    by_cases c : t < W.length
    · have hj : ∀ fo tr mo, AskI W s L F k (t + 1) fo tr mo → ∃ fo' tr' mo', AskI W s L F (k + 1) 0 fo' tr' mo' ∧ ask_j1 N (ask_l2 N n) fo tr mo k u u2 u3 (F.getD k []) ((F.getD k []).length : Int) t W s L F R = some (fo', tr', mo', u, u2, u3, W, s, L, F, R) := fun fo tr mo hI => by
        obtain ⟨a, b, d, h1, h2⟩ := ask_l2_p hN h hk (u := u) (u2 := u2) (u3 := u3) n (t + 1) fo tr mo (by omega) (by omega) hI
        rw [nat_succ] at h2
        refine ⟨a, b, d, h1, ?_⟩
        unfold ask_j1
        rw [chk_eq (by omega), h2]
      rw [br_dec (by omega), idx_eq (by omega) (gets (by omega) 0)]
      by_cases c1 : (F.getD k []).getD t 0 = -1
      rotate_left
      · rw [br_nnd c1]
        exact hj _ _ _ (hI.closed fun ho => c1 ho.2.2)
      have e := ask_l3_p hN h hk c (fo := fo) (tr := tr) (mo := mo) (u := u) (u2 := u2) (u3 := u3) (u4 := F.getD k []) (u5 := ((F.getD k []).length : Int)) (u6 := (t : Int)) N 0 (by omega) (by omega)
      rw [show ((0 : Nat) : Int) = 0 from rfl, show maxN (wK W s L F k t) 0 = 0 from rfl] at e
      rw [br_nd c1, e]
      simp only [Option.bind_some]
      have ho : opn F k t := ⟨hk, by omega, c1⟩
      by_cases c2 : mo = 0
      · rw [br_dec c2]
        exact hj _ _ _ (hI.take ho (.inl c2))
      rw [br_ndec c2]
      by_cases c3 : mK W s L F k t < mo
      · rw [br_dec c3]
        exact hj _ _ _ (hI.take ho (.inr c3))
      · rw [br_ndec c3]
        exact hj _ _ _ (hI.pass c2 c3)
    · rw [br_ndec (by omega)]
      exact ⟨fo, tr, mo, hI.row (by omega), rfl⟩
theorem ask_l1_p (hN : 110 ≤ N) (h : Fine W s L F R) : ∀ (n k : Nat) (fo tr mo : Int), F.length < n + k → k ≤ F.length → AskI W s L F k 0 fo tr mo →
    ∃ r, AskI W s L F F.length 0 r.1 r.2.1 r.2.2 ∧ ask_l1 N n fo tr mo F F.length k W s L F R = some r
  | 0, k, fo, tr, mo, hn, hk, _ => by omega
  | n + 1, k, fo, tr, mo, hn, hk, hI => by
    unfold ask_l1
    have hf6 := h.f6; have hw5 := h.w5
    by_cases c : k < F.length
    · obtain ⟨a, b, d, h1, h2⟩ := ask_l2_p hN h c (u := F) (u2 := (F.length : Int)) (u3 := (k : Int)) N 0 fo tr mo (by omega) (by omega) hI
      rw [show ((0 : Nat) : Int) = 0 from rfl] at h2
      obtain ⟨r, h3, h4⟩ := ask_l1_p hN h n (k + 1) a b d (by omega) (by omega) h1
      rw [nat_succ] at h4
      rw [br_dec (by omega), idx_eq (by omega) (gets c []), h2]
      simp only [Option.bind_some]
      rw [chk_eq (by omega)]
      exact ⟨r, h3, h4⟩
    · obtain rfl : k = F.length := by omega
      rw [br_ndec (by omega)]
      exact ⟨_, hI, rfl⟩
/-- What should be asked for. -/
def AskR (W : List Int) (s : Int) (L F : List (List Int)) (r : Int × Int × Int × Int) : Prop :=
  (r = (0, 0, 0, 6) ∧ ∀ k t, ¬ opn F k t) ∨
  (∃ f t : Nat, r = (↑f, ↑t, mK W s L F f t, 0) ∧ opn F f t ∧ ∀ k x, opn F k x → mK W s L F f t ≤ mK W s L F k x ∧ (mK W s L F k x = mK W s L F f t → ¬ lexL k x f t))
theorem AskR.eq {r q : Int × Int × Int × Int} (h : AskR W s L F r) (h2 : AskR W s L F q) : r = q := by
  rcases h with ⟨rfl, h⟩ | ⟨f, t, rfl, ho, hm⟩
  · rcases h2 with ⟨rfl, _⟩ | ⟨f2, t2, rfl, ho2, _⟩
    · rfl
    · exact absurd ho2 (h _ _)
  · rcases h2 with ⟨rfl, h2⟩ | ⟨f2, t2, rfl, ho2, hm2⟩
    · exact absurd ho (h2 _ _)
    · have a := hm _ _ ho2
      have b := hm2 _ _ ho
      have e : mK W s L F f t = mK W s L F f2 t2 := by omega
      have a2 := a.2 e.symm
      have b2 := b.2 e
      have : f = f2 ∧ t = t2 := by unfold lexL at a2 b2; omega
      obtain ⟨rfl, rfl⟩ := this
      rfl
theorem ask_v (hN : 110 ≤ N) (h : Sm W L F R) : ∃ r, ask_S N W s L F R = some r ∧ (if errD W s L F R = 0 then AskR W s L F r else r = (0, 0, 0, errD W s L F R)) := by
  unfold ask_S
  rw [check_v hN h]
  simp only [Option.bind_some]
  by_cases c : errD W s L F R = 0
  rotate_left
  · rw [br_nnd c]
    exact ⟨_, rfl, by rw [if_neg c]⟩
  have hF := errD_iff.1 c
  have hf6 := hF.f6
  rw [br_nd c]
  obtain ⟨r, h1, h2⟩ := ask_l1_p hN hF N 0 0 0 0 (by omega) (by omega) (.inl ⟨rfl, rfl, rfl, fun k t _ hl => by unfold lexL at hl; omega⟩)
  rw [show ((0 : Nat) : Int) = 0 from rfl] at h2
  rw [h2]
  simp only [Option.bind_some, if_pos c]
  rcases h1 with ⟨e1, e2, e3, e4⟩ | ⟨f, t, e1, e2, e3, e4, e5, e6⟩
  · rw [br_dec e3]
    exact ⟨_, rfl, .inl ⟨rfl, fun k t ho => e4 k t ho (.inl ho.1)⟩⟩
  · have hp := mK_pos (W := W) (s := s) (L := L) (F := F) (k := f) (t := t)
    rw [br_ndec (show ¬ r.2.2 = 0 by rw [e5]; omega)]
    refine ⟨_, rfl, .inr ⟨f, t, by rw [e1, e2, e5], e3, fun k x ho => ?_⟩⟩
    have := e6 k x ho (.inl ho.1)
    rw [e5] at this
    exact this
end
end Go.Proofs.Ythncjilcflilcaa

namespace Go.Proofs.Ythncjilcflilcaa
set_option linter.all false
open Go
/-! ### Bells -/
theorem wrap32 (x : Int) : 0 ≤ IntKind.u32.wrap x ∧ IntKind.u32.wrap x < 4294967296 := by
  have := wrap_inR .u32 x
  have h1 : IntKind.u32.min = 0 := by decide
  have h2 : IntKind.u32.max = 4294967295 := by decide
  unfold inR at this
  rw [h1, h2] at this
  omega
def Bell (b : List Int) (b2 : Int) : Prop := b.length ≤ 9223372036854775807 ∧ 0 ≤ b2 ∧ b2 ≤ b.length
abbrev BellR (b : List Int) (r : List Int × Int × Int) : Prop := r.1 = b ∧ Bell b r.2.1
theorem and_small (n : Nat) : 0 ≤ IntKind.i64.wrap ((n &&& 65535 : Nat) : Int) ∧ IntKind.i64.wrap ((n &&& 65535 : Nat) : Int) ≤ 65535 := by
  have : n &&& 65535 ≤ 65535 := Nat.and_le_right
  rw [wrap64 (by omega)]
  omega
theorem fdiv_nonneg {x : Int} (h : 0 ≤ x) : 0 ≤ Int.fdiv x (2 ^ 7) := by
  rw [Int.fdiv_eq_ediv_of_nonneg _ (by decide)]
  exact Int.ediv_nonneg h (by decide)
theorem ring_j1_ok (N : Nat) {b : List Int} {b2 b3 : Int} (hb : b.length ≤ 9223372036854775807) (h0 : 0 ≤ b2) (h1 : b2 < b.length ∨ b.length = 0 ∧ b2 = 0) : Ok (ring_j1 N b b2 b3) fun r => (0 ≤ r.1 ∧ r.1 ≤ 65535) ∧ BellR b r.2 := by
  unfold ring_j1
  refine Ok.brd (fun h => ?_) (fun h => ?_)
  · refine Ok.idx h0 (by omega) (fun a _ _ => Ok.chk (by omega) (Ok.grd ?_ (Ok.grd ?_ (Ok.some ?_))))
    · simp only [decide_eq_true_eq]; exact ⟨(wrap32 _).1, fdiv_nonneg (wrap32 _).1⟩
    · simp only [decide_eq_true_eq]; exact ⟨Int.natCast_nonneg _, by decide⟩
    · exact ⟨and_small _, rfl, hb, by dsimp only; omega, by dsimp only; omega⟩
  · refine Ok.grd ?_ (Ok.grd ?_ (Ok.some ?_))
    · simp only [decide_eq_true_eq]; exact ⟨(wrap32 _).1, fdiv_nonneg (wrap32 _).1⟩
    · simp only [decide_eq_true_eq]; exact ⟨Int.natCast_nonneg _, by decide⟩
    · exact ⟨and_small _, rfl, hb, by dsimp only; omega, by dsimp only; omega⟩
theorem ring_ok (N : Nat) {b : List Int} {b2 b3 : Int} (hb : Bell b b2) : Ok (ring_S N b b2 b3) fun r => (0 ≤ r.1 ∧ r.1 ≤ 65535) ∧ BellR b r.2 := by
  obtain ⟨h1, h2, h3⟩ := hb
  unfold ring_S
  refine Ok.brd (fun h => ring_j1_ok N h1 (by omega) (by omega)) (fun h => ring_j1_ok N h1 h2 (by omega))
theorem stroke_ok (N : Nat) {n : Int} {b : List Int} {b2 b3 : Int} (hb : Bell b b2) (hn : -1000000 ≤ n ∧ n ≤ 1000000) : Ok (stroke_S N n b b2 b3) fun r => (0 ≤ r.1 ∧ r.1 ≤ max 0 n) ∧ BellR b r.2 := by
  unfold stroke_S
  refine Ok.bind (ring_ok N hb) (fun r hr => ?_)
  obtain ⟨x, c, c2, c3⟩ := r
  refine Ok.chk (by omega) (Ok.grd (by simp only [Bool.not_eq_true', decide_eq_false_iff_not]; omega) (Ok.some ⟨?_, hr.2⟩))
  obtain ⟨⟨h1, h2⟩, _⟩ := hr
  dsimp only at *
  have hm : 0 < max 1 (n + 1) := by omega
  have := Int.tmod_lt_of_pos x hm
  have := Int.tmod_nonneg (max 1 (n + 1)) h1
  omega
theorem strike_ok (N : Nat) {lo hi : Int} {b : List Int} {b2 b3 : Int} (hb : Bell b b2) (hn : (-1000 ≤ lo ∧ lo ≤ 1000) ∧ -1000 ≤ hi ∧ hi ≤ 1000) : Ok (strike_S N lo hi b b2 b3) fun r => (lo ≤ r.1 ∧ r.1 ≤ max lo hi) ∧ BellR b r.2 := by
  unfold strike_S
  refine Ok.chk (by omega) (Ok.bind (stroke_ok N hb (by omega)) (fun r hr => ?_))
  obtain ⟨x, c, c2, c3⟩ := r
  obtain ⟨h, h2⟩ := hr
  dsimp only at *
  refine Ok.chk (by omega) (Ok.some ⟨by dsimp only; omega, h2⟩)
theorem seldom_ok (N : Nat) {n : Int} {b : List Int} {b2 b3 : Int} (hb : Bell b b2) (hn : -1000 ≤ n ∧ n ≤ 1000) : Ok (seldom_S N n b b2 b3) fun r => BellR b r.2 := by
  unfold seldom_S
  refine Ok.chk (by omega) (Ok.bind (stroke_ok N hb (by omega)) (fun r hr => ?_))
  obtain ⟨x, c, c2, c3⟩ := r
  exact Ok.some hr.2

def BelR (b b' : List Int) (b2 : Int) : Prop := b' = b ∧ Bell b b2
/-! ### Desks -/
section
variable {N : Nat} {b : List Int}
theorem made1_ok {often b2 b3 : Int} (ho : -1000 ≤ often ∧ often ≤ 1000) (hb : Bell b b2) : Ok (made1_S N often b b2 b3) fun r => (-1 ≤ r.1 ∧ r.1 ≤ 5) ∧ BelR b r.2.1 r.2.2.1 := by
  unfold made1_S
  refine Ok.bind (seldom_ok N hb ho) ?_
  rintro ⟨x, c1, c2, c3⟩ ⟨hc, hb1⟩
  dsimp only at hc hb1 ⊢
  obtain rfl := hc.symm
  refine Ok.br (fun _ => Ok.some ⟨by dsimp only; omega, rfl, hb1⟩) (fun _ => ?_)
  refine Ok.bind (stroke_ok N hb1 (by omega)) ?_
  rintro ⟨y, d1, d2, d3⟩ ⟨hy, hc, hb2⟩
  dsimp only at hy hc hb2 ⊢
  obtain rfl := hc.symm
  exact Ok.some ⟨by dsimp only; omega, rfl, hb2⟩
theorem made_l1_p {things u g d : Int} (hu : 0 ≤ u ∧ u ≤ 100) : ∀ (n k : Nat) (b2 b3 : Int) (W : List Int), u < n + k → (k : Int) ≤ u → Bell b b2 → W.length = k → (∀ x ∈ W, 1 ≤ x ∧ x ≤ 9) →
    Ok (made_l1 N n things u k b b2 b3 g d W) fun z => z.1 = things ∧ BelR b z.2.1 z.2.2.1 ∧ z.2.2.2.2.1 = g ∧ z.2.2.2.2.2.1 = d ∧ (z.2.2.2.2.2.2.length : Int) = u ∧ ∀ x ∈ z.2.2.2.2.2.2, 1 ≤ x ∧ x ≤ 9
  | 0, k, b2, b3, W, h, _, _, _, _ => by omega
  | n + 1, k, b2, b3, W, h, hk, hb, hW, hw => by
    unfold made_l1
    refine Ok.brd (fun c => ?_) (fun c => Ok.some ⟨rfl, ⟨rfl, hb⟩, rfl, rfl, by dsimp only; omega, hw⟩)
    refine Ok.bind (strike_ok N hb (by omega)) ?_
    rintro ⟨x, c1, c2, c3⟩ ⟨hx, hc, hb1⟩
    dsimp only at hx hc hb1 ⊢
    obtain rfl := hc.symm
    refine Ok.lim (by simp; omega) (Ok.chk (by omega) ?_)
    have := made_l1_p (things := things) (g := g) (d := d) hu n (k + 1) c2 c3 (W ++ [x]) (by omega) (by omega) hb1 (by simp [hW]) (fun w hm => by
      rcases List.mem_append.1 hm with hm | hm
      · exact hw w hm
      · simp at hm; subst hm; omega)
    rw [nat_succ] at this
    exact this
theorem made_l3_p {many often u u2 u3 g d : Int} {d2 : List Int} {d3 : List (List Int)} {d4 : List Int} (ho : 2 ≤ often ∧ often ≤ 5) (hu : 0 ≤ u3 ∧ u3 ≤ 100) : ∀ (n k : Nat) (b2 b3 : Int) (l : List Int), u3 < n + k → (k : Int) ≤ u3 → Bell b b2 → l.length = k → (∀ x ∈ l, -1 ≤ x ∧ x ≤ 5) →
    Ok (made_l3 N n many often u u2 u3 k b b2 b3 g d l d2 d3 d4) fun z => ∃ b2' b3' l', z = (many, often, u, u2, b, b2', b3', g, d, l', d2, d3, d4) ∧ Bell b b2' ∧ (l'.length : Int) = u3 ∧ ∀ x ∈ l', -1 ≤ x ∧ x ≤ 5
  | 0, k, b2, b3, l, h, _, _, _, _ => by omega
  | n + 1, k, b2, b3, l, h, hk, hb, hW, hw => by
    unfold made_l3
    refine Ok.brd (fun c => ?_) (fun c => Ok.some ⟨b2, b3, l, rfl, hb, by omega, hw⟩)
    refine Ok.bind (made1_ok (by omega) hb) ?_
    rintro ⟨x, c1, c2, c3⟩ ⟨hx, hc, hb1⟩
    dsimp only at hx hc hb1 ⊢
    obtain rfl := hc.symm
    refine Ok.lim (by simp; omega) (Ok.chk (by omega) ?_)
    have := made_l3_p (many := many) (often := often) (u := u) (u2 := u2) (g := g) (d := d) (d2 := d2) (d3 := d3) (d4 := d4) ho hu n (k + 1) c2 c3 (l ++ [x]) (by omega) (by omega) hb1 (by simp [hW]) (fun w hm => by
      rcases List.mem_append.1 hm with hm | hm
      · exact hw w hm
      · simp at hm; subst hm; omega)
    rw [nat_succ] at this
    exact this
theorem made_l5_p {often u u2 u3 g d : Int} {d2 : List Int} {d3 d4 : List (List Int)} {d5 : List Int} (ho : 2 ≤ often ∧ often ≤ 5) (hu : 0 ≤ u3 ∧ u3 ≤ 100) : ∀ (n k : Nat) (b2 b3 : Int) (l : List Int), u3 < n + k → (k : Int) ≤ u3 → Bell b b2 → l.length = k → (∀ x ∈ l, -1 ≤ x ∧ x ≤ 5) →
    Ok (made_l5 N n often u u2 u3 k b b2 b3 g d l d2 d3 d4 d5) fun z => ∃ b2' b3' l', z = (often, u, u2, b, b2', b3', g, d, l', d2, d3, d4, d5) ∧ Bell b b2' ∧ (l'.length : Int) = u3 ∧ ∀ x ∈ l', -1 ≤ x ∧ x ≤ 5
  | 0, k, b2, b3, l, h, _, _, _, _ => by omega
  | n + 1, k, b2, b3, l, h, hk, hb, hW, hw => by
    unfold made_l5
    refine Ok.brd (fun c => ?_) (fun c => Ok.some ⟨b2, b3, l, rfl, hb, by omega, hw⟩)
    refine Ok.bind (made1_ok (by omega) hb) ?_
    rintro ⟨x, c1, c2, c3⟩ ⟨hx, hc, hb1⟩
    dsimp only at hx hc hb1 ⊢
    obtain rfl := hc.symm
    refine Ok.lim (by simp; omega) (Ok.chk (by omega) ?_)
    have := made_l5_p (often := often) (u := u) (u2 := u2) (g := g) (d := d) (d2 := d2) (d3 := d3) (d4 := d4) (d5 := d5) ho hu n (k + 1) c2 c3 (l ++ [x]) (by omega) (by omega) hb1 (by simp [hW]) (fun w hm => by
      rcases List.mem_append.1 hm with hm | hm
      · exact hw w hm
      · simp at hm; subst hm; omega)
    rw [nat_succ] at this
    exact this
/-- Descriptions of so many traits. -/
def okRow (m : Nat) (r : List Int) : Prop := r.length = m ∧ ∀ x ∈ r, -1 ≤ x ∧ x ≤ 5
theorem made_l2_p (hN : 110 ≤ N) {many often u g d : Int} {W : List Int} (hW : W.length ≤ 5) (ho : 2 ≤ often ∧ often ≤ 5) (hu : 0 ≤ u ∧ u ≤ 6) : ∀ (n k : Nat) (b2 b3 : Int) (L : List (List Int)) (R : List Int), u < n + k → (k : Int) ≤ u → Bell b b2 → L.length = k → R.length = k → (∀ r ∈ L, okRow W.length r) → (∀ x ∈ R, 0 ≤ x ∧ x ≤ 99) →
    Ok (made_l2 N n many often u k b b2 b3 g d W L R) fun z => ∃ b2' b3' L' R', z = (many, often, b, b2', b3', g, d, W, L', R') ∧ Bell b b2' ∧ ((L'.length : Int) = u ∧ R'.length = L'.length) ∧ (∀ r ∈ L', okRow W.length r) ∧ ∀ x ∈ R', 0 ≤ x ∧ x ≤ 99
  | 0, k, b2, b3, L, R, h, _, _, _, _, _, _ => by omega
  | n + 1, k, b2, b3, L, R, h, hk, hb, hL, hR, hl, hr => by
    unfold made_l2
    refine Ok.brd (fun c => ?_) (fun c => Ok.some ⟨b2, b3, L, R, rfl, hb, ⟨by omega, by omega⟩, hl, hr⟩)
    have e := made_l3_p (N := N) (many := many) (often := often) (u := u) (u2 := (k : Int)) (u3 := W.length) (g := g) (d := d) (d2 := W) (d3 := L) (d4 := R) ho (by omega) N 0 b2 b3 [] (by omega) (by omega) hb rfl (fun x h => by cases h)
    rw [show ((0 : Nat) : Int) = 0 from rfl] at e
    refine Ok.bind e ?_
    rintro _ ⟨b2', b3', l', rfl, hb1, hl1, hl2⟩
    dsimp only
    refine Ok.lim (by simp; omega) (Ok.bind (stroke_ok N hb1 (by omega)) ?_)
    rintro ⟨y, d1, d2, d3⟩ ⟨hy, hc, hb2⟩
    dsimp only at hy hc hb2 ⊢
    obtain rfl := hc.symm
    refine Ok.lim (by simp; omega) (Ok.chk (by omega) ?_)
    have := made_l2_p hN (many := many) (g := g) (d := d) hW ho hu n (k + 1) d2 d3 (L ++ [l']) (R ++ [y]) (by omega) (by omega) hb2 (by simp [hL]) (by simp [hR]) (fun r hm => by
      rcases List.mem_append.1 hm with hm | hm
      · exact hl r hm
      · simp at hm; subst hm; exact ⟨by omega, hl2⟩) (fun x hm => by
      rcases List.mem_append.1 hm with hm | hm
      · exact hr x hm
      · simp at hm; subst hm; omega)
    rw [nat_succ] at this
    exact this
theorem made_l4_p (hN : 110 ≤ N) {often u g d : Int} {W R : List Int} {L : List (List Int)} (hW : W.length ≤ 5) (ho : 2 ≤ often ∧ often ≤ 5) (hu : 0 ≤ u ∧ u ≤ 6) : ∀ (n k : Nat) (b2 b3 : Int) (F : List (List Int)), u < n + k → (k : Int) ≤ u → Bell b b2 → F.length = k → (∀ r ∈ F, okRow W.length r) →
    Ok (made_l4 N n often u k b b2 b3 g d W L F R) fun z => ∃ b2' b3' F', z = (b, b2', b3', g, d, W, L, F', R) ∧ Bell b b2' ∧ (F'.length : Int) = u ∧ ∀ r ∈ F', okRow W.length r
  | 0, k, b2, b3, F, h, _, _, _, _ => by omega
  | n + 1, k, b2, b3, F, h, hk, hb, hL, hl => by
    unfold made_l4
    refine Ok.brd (fun c => ?_) (fun c => Ok.some ⟨b2, b3, F, rfl, hb, by omega, hl⟩)
    have e := made_l5_p (N := N) (often := often) (u := u) (u2 := (k : Int)) (u3 := W.length) (g := g) (d := d) (d2 := W) (d3 := L) (d4 := F) (d5 := R) ho (by omega) N 0 b2 b3 [] (by omega) (by omega) hb rfl (fun x h => by cases h)
    rw [show ((0 : Nat) : Int) = 0 from rfl] at e
    refine Ok.bind e ?_
    rintro _ ⟨b2', b3', l', rfl, hb1, hl1, hl2⟩
    dsimp only
    refine Ok.lim (by simp; omega) (Ok.chk (by omega) ?_)
    have := made_l4_p hN (g := g) (d := d) (L := L) (R := R) hW ho hu n (k + 1) b2' b3' (F ++ [l']) (by omega) (by omega) hb1 (by simp [hL]) (fun r hm => by
      rcases List.mem_append.1 hm with hm | hm
      · exact hl r hm
      · simp at hm; subst hm; exact ⟨by omega, hl2⟩)
    rw [nat_succ] at this
    exact this
theorem made_v (hN : 110 ≤ N) {things b2 b3 : Int} (ht : 0 ≤ things ∧ things ≤ 6) (hb : Bell b b2) :
    Ok (made_S N things b b2 b3) fun z => Fine z.1 z.2.1 z.2.2.1 z.2.2.2.1 z.2.2.2.2.1 ∧ ((z.2.2.1.length : Int) ≤ things ∧ (z.2.2.2.1.length : Int) ≤ things) ∧ z.2.1 ≤ 2 ∧ BelR b z.2.2.2.2.2.1 z.2.2.2.2.2.2.1 := by
  unfold made_S
  refine Ok.bind (stroke_ok N hb (by omega)) ?_
  rintro ⟨x, c1, c2, c3⟩ ⟨hx, hc, hb1⟩
  dsimp only at hx hc hb1 ⊢
  obtain rfl := hc.symm
  refine Ok.bind (strike_ok N hb1 (by omega)) ?_
  rintro ⟨m, d1, d2, d3⟩ ⟨hm, hc, hb2⟩
  dsimp only at hm hc hb2 ⊢
  obtain rfl := hc.symm
  have e1 := made_l1_p (N := N) (things := things) (g := 0) (d := x) (u := m) (by omega) N 0 d2 d3 [] (by omega) (by omega) hb2 rfl (fun w h => by cases h)
  rw [show ((0 : Nat) : Int) = 0 from rfl] at e1
  refine Ok.bind e1 ?_
  rintro ⟨t', f1, f2, f3, g', x', W⟩ ⟨q1, ⟨q2, hb3⟩, q3, q4, hl, hW⟩
  dsimp only at q1 q2 q3 q4 hb3 hl hW ⊢
  obtain rfl := q1.symm
  obtain rfl := q2.symm
  obtain rfl := q3.symm
  obtain rfl := q4.symm
  refine Ok.bind (stroke_ok N hb3 (by omega)) ?_
  rintro ⟨many, h1, h2, h3⟩ ⟨hmany, hc, hb4⟩
  dsimp only at hmany hc hb4 ⊢
  obtain rfl := hc.symm
  refine Ok.bind (strike_ok N hb4 (by omega)) ?_
  rintro ⟨often, i1, i2, i3⟩ ⟨hoften, hc, hb5⟩
  dsimp only at hoften hc hb5 ⊢
  obtain rfl := hc.symm
  refine Ok.bind (stroke_ok N hb5 (by omega)) ?_
  rintro ⟨u, j1, j2, j3⟩ ⟨hu, hc, hb6⟩
  dsimp only at hu hc hb6 ⊢
  obtain rfl := hc.symm
  have e2 := made_l2_p hN (many := many) (often := often) (u := u) (g := 0) (d := x) (W := W) (by omega) (by omega) (by omega) N 0 j2 j3 [] [] (by omega) (by omega) hb6 rfl rfl (fun x h => by cases h) (fun x h => by cases h)
  rw [show ((0 : Nat) : Int) = 0 from rfl] at e2
  refine Ok.bind e2 ?_
  rintro _ ⟨k2, k3, L, R, rfl, hb7, ⟨hL, hR⟩, hl2, hr2⟩
  dsimp only
  have e3 := made_l4_p hN (often := often) (u := many) (g := 0) (d := x) (W := W) (L := L) (R := R) (by omega) (by omega) (by omega) N 0 k2 k3 [] (by omega) (by omega) hb7 rfl (fun x h => by cases h)
  rw [show ((0 : Nat) : Int) = 0 from rfl] at e3
  refine Ok.bind e3 ?_
  rintro _ ⟨l2, l3, F, rfl, hb8, hF, hf2⟩
  dsimp only
  exact Ok.some ⟨⟨by dsimp only; omega, by dsimp only; omega, by dsimp only; omega, by dsimp only; omega, fun r hr => (hl2 r hr).1, fun r hr => (hf2 r hr).1, hR, hW, by dsimp only; omega, hr2, fun r hr => (hl2 r hr).2, fun r hr => (hf2 r hr).2⟩, ⟨by dsimp only; omega, by dsimp only; omega⟩, by dsimp only; omega, rfl, hb8⟩
end
end Go.Proofs.Ythncjilcflilcaa

namespace Go.Proofs.Ythncjilcflilcaa
set_option linter.all false
open Go
theorem awake_v : awake_S 1100 = some true := by kernel_rfl
end Go.Proofs.Ythncjilcflilcaa

namespace Go.Proofs.Ythncjilcflilcaa
set_option linter.all false
open Go

section
variable {W : List Int} {s : Int} {L F : List (List Int)} {R : List Int} {N : Nat}
theorem setF_row {k t : Nat} {v : Int} (hk : k < F.length) : (setF F k t v).getD k [] = (F.getD k []).set t v := by
  simp [setF, List.getD_eq_getElem?_getD, hk]
theorem fasked_l3_p (hN : 110 ≤ N) (h : Fine W s L F R) {k t : Nat} (hk : k < F.length) (ht : t < W.length) (ho : (F.getD k []).getD t 0 = -1) {fo tr mo e u2 u3 u5 u6 : Int} {op : Bool} {u : List (List Int)} {u4 : List Int} : ∀ (n v : Nat), 6 < n + v → v ≤ 6 →
    fasked_l3 N n fo tr mo e op k (F.getD k []) t (maxN (wK W s L F k t) v) u u2 u3 u4 u5 u6 v W s L F R = some (.inr (fo, tr, mo, e, op, (k : Int), F.getD k [], (t : Int), mK W s L F k t, u, u2, u3, u4, u5, u6, W, s, L, F, R))
  | 0, v, hn, hv => by omega
  | n + 1, v, hn, hv => by
    unfold fasked_l3
    have hf6 := h.f6; have hw5 := h.w5
    have hr := h.fw _ (getD_mem (d := []) hk)
    by_cases c : v < 6
    · have ih := fasked_l3_p hN h hk ht ho (fo := fo) (tr := tr) (mo := mo) (e := e) (op := op) (u := u) (u2 := u2) (u3 := u3) (u4 := u4) (u5 := u5) (u6 := u6) n (v + 1) (by omega) (by omega)
      rw [nat_succ] at ih
      have hF : Fine W s L (setF F k t v) R := h.setF hk (by omega)
      have hfl := setF_len (F := F) k t v
      have hrow := setF_row (F := F) (k := k) (t := t) (v := (v : Int)) hk
      rw [br_dec (by omega), with_v hN h.sm, if_pos (errD_iff.2 h), if_neg (by omega), if_neg (by omega)]
      simp only [Int.toNat_natCast]
      rw [if_neg (not_not_intro ho), if_neg (by omega)]
      simp only [Option.bind_some]
      rw [count_v hN hF.sm, if_pos (errD_iff.2 hF)]
      simp only [Option.bind_some]
      rw [br_nd (by first | trivial | rfl), br_nd (by first | trivial | rfl), br_nd (by rw [hfl]), idx_eq (by omega) (gets (by omega) []), hrow, br_nd (by rw [List.length_set]), idx_eq (by omega) (gets (by omega) []), hrow,
        idx_eq (by omega) (gets (by rw [List.length_set]; omega) 0), br_nd (getD_set_self _ _ _ _ (by omega)), chk_eq (by omega)]
      exact ih
    · obtain rfl : v = 6 := by omega
      rw [br_ndec (by omega)]
      rfl
/-- What is found of the answer while all traits are gone through. -/
def okAsk (W : List Int) (s : Int) (L F : List (List Int)) (r : Int × Int × Int × Int) (k t : Nat) : Prop :=
  r.2.2.2 = 0 ∧ r.2.2.1 ≤ mK W s L F k t ∧ (r.1 = k ∧ r.2.1 = t → mK W s L F k t = r.2.2.1) ∧ (mK W s L F k t = r.2.2.1 → ¬ ((k : Int) < r.1 ∨ ((k : Int) = r.1 ∧ (t : Int) < r.2.1)))
theorem AskR.ok {r : Int × Int × Int × Int} (h : AskR W s L F r) {k t : Nat} (ho : opn F k t) : okAsk W s L F r k t := by
  rcases h with ⟨rfl, h⟩ | ⟨f, x, rfl, h1, h2⟩
  · exact absurd ho (h k t)
  · obtain ⟨h3, h4⟩ := h2 k t ho
    refine ⟨rfl, h3, ?_, fun e => ?_⟩
    · dsimp only
      rintro ⟨e1, e2⟩
      obtain rfl : f = k := by omega
      obtain rfl : x = t := by omega
      rfl
    · have h5 := h4 e
      unfold lexL at h5
      dsimp only
      omega
theorem fasked_l2_p (hN : 110 ≤ N) (h : Fine W s L F R) {r : Int × Int × Int × Int} (hA : AskR W s L F r) {k : Nat} (hk : k < F.length) {u2 u3 : Int} {u : List (List Int)} : ∀ (n t : Nat) (op : Bool), W.length < n + t → t ≤ W.length → (op = true ↔ ∃ a b, opn F a b ∧ lexL a b k t) →
    ∃ op', (op' = true ↔ ∃ a b, opn F a b ∧ lexL a b (k + 1) 0) ∧ fasked_l2 N n r.1 r.2.1 r.2.2.1 r.2.2.2 op k (F.getD k []) u u2 u3 (F.getD k []) ((F.getD k []).length : Int) t W s L F R = some (.inr (.inr (.inr (r.1, r.2.1, r.2.2.1, r.2.2.2, op', u, u2, u3, W, s, L, F, R))))
  | 0, t, op, hn, ht, _ => by omega
  | n + 1, t, op, hn, ht, hop => by
    unfold fasked_l2
    have hr := h.fw _ (getD_mem (d := []) hk)
    have hw5 := h.w5; have hf6 := h.f6
    by_cases c : t < W.length
    · have hj : ∀ op : Bool, (op = true ↔ ∃ a b, opn F a b ∧ lexL a b k (t + 1)) → ∃ op', (op' = true ↔ ∃ a b, opn F a b ∧ lexL a b (k + 1) 0) ∧ fasked_j1 N (fasked_l2 N n) r.1 r.2.1 r.2.2.1 r.2.2.2 op k (F.getD k []) u u2 u3 (F.getD k []) ((F.getD k []).length : Int) t W s L F R = some (.inr (.inr (.inr (r.1, r.2.1, r.2.2.1, r.2.2.2, op', u, u2, u3, W, s, L, F, R)))) := fun op ho => by
        obtain ⟨a, h1, h2⟩ := fasked_l2_p hN h hA hk (u := u) (u2 := u2) (u3 := u3) n (t + 1) op (by omega) (by omega) ho
        rw [nat_succ] at h2
        refine ⟨a, h1, ?_⟩
        unfold fasked_j1
        rw [chk_eq (by omega), h2]
      rw [br_dec (by omega), idx_eq (by omega) (gets (by omega) 0)]
      by_cases c1 : (F.getD k []).getD t 0 = -1
      rotate_left
      · rw [br_nnd c1, with_v hN h.sm, if_pos (errD_iff.2 h), if_neg (by omega), if_neg (by omega)]
        simp only [Int.toNat_natCast]
        rw [if_pos c1]
        simp only [Option.bind_some]
        rw [br_nd (by first | trivial | rfl)]
        refine hj op ⟨fun e => ?_, fun ⟨a, b, h1, h2⟩ => hop.2 ⟨a, b, h1, ?_⟩⟩
        · obtain ⟨a, b, h1, h2⟩ := hop.1 e
          exact ⟨a, b, h1, by rcases h2 with h2 | h2; exact .inl h2; exact .inr ⟨h2.1, by omega⟩⟩
        · rcases h2 with h2 | ⟨rfl, h2⟩
          · exact .inl h2
          · by_cases e : b = t
            · subst e; exact absurd h1.2.2 c1
            · exact .inr ⟨rfl, by omega⟩
      have ho : opn F k t := ⟨hk, by omega, c1⟩
      have e := fasked_l3_p hN h hk c c1 (fo := r.1) (tr := r.2.1) (mo := r.2.2.1) (e := r.2.2.2) (op := true) (u := u) (u2 := u2) (u3 := u3) (u4 := F.getD k []) (u5 := ((F.getD k []).length : Int)) (u6 := (t : Int)) N 0 (by omega) (by omega)
      rw [show ((0 : Nat) : Int) = 0 from rfl, show maxN (wK W s L F k t) 0 = 0 from rfl] at e
      rw [br_nd c1, e]
      simp only [Option.bind_some]
      obtain ⟨q1, q2, q3, q4⟩ := hA.ok ho
      have hfin := hj true ⟨fun _ => ⟨k, t, ho, .inr ⟨rfl, by omega⟩⟩, fun _ => rfl⟩
      rw [br_nd q1, br_ndec (by omega)]
      have tail : ∃ op', (op' = true ↔ ∃ a b, opn F a b ∧ lexL a b (k + 1) 0) ∧ br (decide (mK W s L F k t = r.2.2.1)) (br (decide ((k : Int) < r.1)) (some (.inr (.inr (.inl ())))) (br (decide ((k : Int) = r.1)) (br (decide ((t : Int) < r.2.1)) (some (.inr (.inr (.inl ())))) (fasked_j1 N (fasked_l2 N n) r.1 r.2.1 r.2.2.1 r.2.2.2 true k (F.getD k []) u u2 u3 (F.getD k []) ((F.getD k []).length : Int) t W s L F R)) (fasked_j1 N (fasked_l2 N n) r.1 r.2.1 r.2.2.1 r.2.2.2 true k (F.getD k []) u u2 u3 (F.getD k []) ((F.getD k []).length : Int) t W s L F R))) (fasked_j1 N (fasked_l2 N n) r.1 r.2.1 r.2.2.1 r.2.2.2 true k (F.getD k []) u u2 u3 (F.getD k []) ((F.getD k []).length : Int) t W s L F R) = some (.inr (.inr (.inr (r.1, r.2.1, r.2.2.1, r.2.2.2, op', u, u2, u3, W, s, L, F, R)))) := by
        by_cases d : mK W s L F k t = r.2.2.1
        rotate_left
        · rw [br_ndec d]; exact hfin
        have d2 := q4 d
        rw [br_dec d, br_ndec (by omega)]
        by_cases d3 : (k : Int) = r.1
        · rw [br_dec d3, br_ndec (by omega)]; exact hfin
        · rw [br_ndec d3]; exact hfin
      by_cases d3 : (k : Int) = r.1
      · rw [br_dec d3]
        by_cases d4 : (t : Int) = r.2.1
        · rw [br_dec d4, br_nd (q3 ⟨d3.symm, d4.symm⟩)]; exact tail
        · rw [br_ndec d4]; exact tail
      · rw [br_ndec d3]; exact tail
    · rw [br_ndec (by omega)]
      refine ⟨op, ⟨fun e => ?_, fun ⟨a, b, h1, h2⟩ => hop.2 ⟨a, b, h1, ?_⟩⟩, rfl⟩
      · obtain ⟨a, b, h1, h2⟩ := hop.1 e
        exact ⟨a, b, h1, .inl (by rcases h2 with h2 | h2 <;> omega)⟩
      · rcases h2 with h2 | h2
        · by_cases e : a = k
          · subst e; exact .inr ⟨rfl, by have := h1.2.1; omega⟩
          · exact .inl (by omega)
        · omega
theorem fasked_l1_p (hN : 110 ≤ N) (h : Fine W s L F R) {r : Int × Int × Int × Int} (hA : AskR W s L F r) : ∀ (n k : Nat) (op : Bool), F.length < n + k → k ≤ F.length → (op = true ↔ ∃ a b, opn F a b ∧ lexL a b k 0) →
    ∃ op', (op' = true ↔ ∃ a b, opn F a b) ∧ fasked_l1 N n r.1 r.2.1 r.2.2.1 r.2.2.2 op F F.length k W s L F R = some (.inr (.inr (.inr (r.2.2.2, op'))))
  | 0, k, op, hn, hk, _ => by omega
  | n + 1, k, op, hn, hk, hop => by
    unfold fasked_l1
    have hf6 := h.f6; have hw5 := h.w5
    by_cases c : k < F.length
    · obtain ⟨a, h1, h2⟩ := fasked_l2_p hN h hA c (u := F) (u2 := (F.length : Int)) (u3 := (k : Int)) N 0 op (by omega) (by omega) hop
      rw [show ((0 : Nat) : Int) = 0 from rfl] at h2
      obtain ⟨b, h3, h4⟩ := fasked_l1_p hN h hA n (k + 1) a (by omega) (by omega) h1
      rw [nat_succ] at h4
      rw [br_dec (by omega), idx_eq (by omega) (gets c []), h2]
      simp only [Option.bind_some]
      rw [chk_eq (by omega)]
      exact ⟨b, h3, h4⟩
    · obtain rfl : k = F.length := by omega
      rw [br_ndec (by omega)]
      refine ⟨op, ⟨fun e => ?_, fun ⟨a, b, h1⟩ => hop.2 ⟨a, b, h1, .inl h1.1⟩⟩, rfl⟩
      obtain ⟨a, b, h1, _⟩ := hop.1 e
      exact ⟨a, b, h1⟩
end
theorem fasked_true {a : List Int} (h0 : Ty.inB (.sl (.int .u8)) a) : fasked_S 1100 a = some true := by
  have l0 : a.length ≤ 9223372036854775807 := h0.1
  unfold fasked_S hang_S
  simp only [Option.bind_some]
  obtain ⟨⟨W, s, L, F, R, c, c2, c3⟩, em, hF, hlen, _, _⟩ := made_v (N := 1100) (b := a) (by omega) (things := 4) (b2 := 0) (b3 := 0) (by omega) ⟨l0, by omega, by omega⟩
  dsimp only at hF hlen
  rw [em]
  simp only [Option.bind_some]
  have hs := hF.sm
  have hf6 := hF.f6
  obtain ⟨r, h1, h2⟩ := ask_v (N := 1100) (by omega) hs
  rw [if_pos (errD_iff.2 hF)] at h2
  rw [h1]
  simp only [Option.bind_some]
  obtain ⟨op, h3, h4⟩ := fasked_l1_p (N := 1100) (by omega) hF h2 1100 0 false (by omega) (by omega) ⟨fun e => (by cases e), fun ⟨a, b, _, hl⟩ => by unfold lexL at hl; omega⟩
  rw [show ((0 : Nat) : Int) = 0 from rfl] at h4
  rw [h4]
  simp only [Option.bind_some]
  have aw : ((awake_S 1100).bind fun x => some x) = some true := by rw [awake_v]; rfl
  rcases h2 with ⟨rfl, h5⟩ | ⟨f, t, rfl, h5, _⟩
  · have : op = false := by
      cases op with
      | false => rfl
      | true => obtain ⟨a, b, h6⟩ := h3.1 rfl; exact absurd h6 (h5 a b)
    subst this
    rw [Bool.not_false, br_true, br_dec (by first | trivial | rfl)]
    exact aw
  · have : op = true := h3.2 ⟨f, t, h5⟩
    subst this
    rw [Bool.not_true, br_false, br_dec (by first | trivial | rfl)]
    exact aw
end Go.Proofs.Ythncjilcflilcaa

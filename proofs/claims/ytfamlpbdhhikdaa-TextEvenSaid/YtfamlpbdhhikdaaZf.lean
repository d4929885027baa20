/-
  Parts of a proof, put together: TP1, TIt.
  Conditions: none.
-/
import Derived.Test.YtfamlpbdhhikdaaZe
namespace Go.Proofs.Ytfamlpbdhhikdaa
set_option linter.all false
open Go

abbrev Wd := Int × (Int × Bool)
abbrev Tn := Int × (Int × Int)
abbrev Tx := List Wd × (List Tn × Int)
/-- Numbers that don't grow too great. -/
def okW (ws : List Wd) : Bool := decide (ws.length ≤ 100) && ws.all fun w => decide (0 ≤ w.1 ∧ w.1 ≤ 1000)
theorem okW_iff {ws : List Wd} : okW ws = true ↔ ws.length ≤ 100 ∧ ∀ w ∈ ws, 0 ≤ w.1 ∧ w.1 ≤ 1000 := by simp [okW]
def sylR (ws : List Wd) (a b : Nat) : Int := (((ws.take b).drop a).map (·.1)).sum
theorem drop_cons {α : Type} {l : List α} {k : Nat} (h : k < l.length) (d : α) : l.drop k = l.getD k d :: l.drop (k + 1) := by
  rw [List.drop_eq_getElem_cons h]; simp [List.getD, h]
theorem gets {α : Type} {l : List α} {k : Nat} (h : k < l.length) (d : α) : l[((k : Nat) : Int).toNat]? = some (l.getD k d) := by simp [List.getD, h]
theorem sum_bound {l : List Wd} (h : ∀ w ∈ l, 0 ≤ w.1 ∧ w.1 ≤ 1000) : 0 ≤ (l.map (·.1)).sum ∧ (l.map (·.1)).sum ≤ 1000 * l.length := by
  induction l with
  | nil => simp
  | cons a l ih =>
    have h1 := h a (by simp)
    have h2 := ih (fun w hw => h w (by simp [hw]))
    simp only [List.map_cons, List.sum_cons, List.length_cons]
    omega
theorem syllables_l1_p {N : Nat} {u : List Wd} (hu : u.length ≤ 100) (hw : ∀ w ∈ u, 0 ≤ w.1 ∧ w.1 ≤ 1000) : ∀ (n k : Nat) (s : Int), u.length < n + k → k ≤ u.length → 0 ≤ s ∧ s ≤ 1000 * k → syllables_l1 N n s u u.length k = some (s + ((u.drop k).map (·.1)).sum)
  | 0, k, s, h, hk, _ => by omega
  | n + 1, k, s, h, hk, hs => by
    unfold syllables_l1
    by_cases hlt : k < u.length
    · rw [br_dec (by omega), idx_eq (by omega) (gets hlt (0, 0, false))]
      have hm := hw _ (getD_mem' hlt (0, 0, false))
      rw [drop_cons hlt (0, 0, false)]
      generalize u.getD k (0, 0, false) = x at *
      rw [chk_eq (by omega), chk_eq (by omega)]
      have := syllables_l1_p (N := N) hu hw n (k + 1) (s + x.1) (by omega) (by omega) (by omega)
      rw [show ((k + 1 : Nat) : Int) = (k : Int) + 1 by omega] at this
      rw [this]
      simp only [List.map_cons, List.sum_cons]
      congr 1; omega
    · rw [br_ndec (by omega), List.drop_of_length_le (by omega)]
      simp
where
  getD_mem' {α : Type} {l : List α} {i : Nat} (h : i < l.length) (d : α) : l.getD i d ∈ l := by
    simp [List.getD, h]
theorem getD_mem {α : Type} {l : List α} {i : Nat} {d : α} (h : i < l.length) : l.getD i d ∈ l := by
  simp [List.getD, h]
theorem take_drop_mem {ws : List Wd} (h : ∀ w ∈ ws, 0 ≤ w.1 ∧ w.1 ≤ 1000) (a b : Nat) : ∀ w ∈ (ws.take b).drop a, 0 ≤ w.1 ∧ w.1 ≤ 1000 := fun w hw => h w (List.mem_of_mem_take (List.mem_of_mem_drop hw))
theorem sylR_bound {ws : List Wd} (h : okW ws = true) (a b : Nat) : 0 ≤ sylR ws a b ∧ sylR ws a b ≤ 100000 := by
  obtain ⟨h1, h2⟩ := okW_iff.1 h
  have := sum_bound (take_drop_mem h2 a b)
  unfold sylR
  have : ((ws.take b).drop a).length ≤ 100 := by simp only [List.length_drop, List.length_take]; omega
  omega
section
variable {N : Nat} (hN : 110 ≤ N) {ws : List Wd} {ts : List Tn} {br_ : Int}
include hN
theorem syllables_v (h : okW ws = true) {a b : Int} (ha : 0 ≤ a) (hab : a ≤ b) (hb : b ≤ ws.length) : syllables_S N (ws, ts, br_) a b = some (sylR ws a.toNat b.toNat) := by
  obtain ⟨h1, h2⟩ := okW_iff.1 h
  unfold syllables_S
  rw [grd_eq (by simp; omega)]
  dsimp only
  have hl : ((ws.take b.toNat).drop a.toNat).length ≤ 100 := by simp only [List.length_drop, List.length_take]; omega
  have := syllables_l1_p (N := N) (u := (ws.take b.toNat).drop a.toNat) hl (take_drop_mem h2 _ _) N 0 0 (by omega) (by omega) (by omega)
  simp only [Int.natCast_zero, List.drop_zero, Int.zero_add] at this
  rw [this]
  rfl
end
/-! ### Turns -/
def turnP (a b : Int) (x : Tn) : Bool := decide (a ≤ x.2.1) && decide (x.2.2 < b) && !decide (a ≤ x.1 ∧ x.1 ≤ b - 1)
def turnK (ts : List Tn) (a b : Int) (k : Nat) : List Int := ((List.range k).filter fun i => turnP a b (ts.getD i (0, 0, 0))).map fun (i : Nat) => (i : Int)
theorem turnK_len (ts : List Tn) (a b : Int) (k : Nat) : (turnK ts a b k).length ≤ k := by
  have := List.length_filter_le (fun i => turnP a b (ts.getD i (0, 0, 0))) (List.range k)
  simp only [turnK, List.length_map]
  simpa using this
theorem turnK_succ (ts : List Tn) (a b : Int) (k : Nat) : turnK ts a b (k + 1) = turnK ts a b k ++ (if turnP a b (ts.getD k (0, 0, 0)) = true then [(k : Int)] else []) := by
  simp only [turnK, List.range_succ, List.filter_append, List.map_append]
  congr 1
  rw [List.filter_cons]
  by_cases h : turnP a b (ts.getD k (0, 0, 0)) = true
  · rw [if_pos h, if_pos h]; rfl
  · rw [if_neg h, if_neg h]; rfl
def turnL (ts : List Tn) (a b : Int) : List Int := turnK ts a b ts.length
theorem in_v (N : Nat) (n lo hi : Int) : in__S N n lo hi = some (decide (lo ≤ n ∧ n ≤ hi)) := by
  unfold in__S br
  by_cases h : lo ≤ n <;> simp [h]
theorem turned_l1_p {N : Nat} {ts : List Tn} (ht : ts.length ≤ 1000) {a b : Int} (hb : -1000000 ≤ b ∧ b ≤ 1000000) : ∀ (n k : Nat), ts.length < n + k → k ≤ ts.length → turned_l1 N n a b ts ts.length k (turnK ts a b k) = some (turnL ts a b)
  | 0, k, h, hk => by omega
  | n + 1, k, h, hk => by
    unfold turned_l1
    by_cases hlt : k < ts.length
    · rw [br_dec (by omega), idx_eq (by omega) (gets hlt (0, 0, 0))]
      have ih := turned_l1_p (N := N) ht (a := a) hb n (k + 1) (by omega) (by omega)
      rw [turnK_succ] at ih
      have hl := turnK_len ts a b k
      generalize ts.getD k (0, 0, 0) = x at *
      have hj : ∀ out, turned_j1 N (turned_l1 N n) a b ts ts.length k out = turned_l1 N n a b ts ts.length ((k + 1 : Nat) : Int) out := fun out => by
        unfold turned_j1
        rw [chk_eq (by omega)]; rfl
      simp only [hj, in_v, Option.bind_some]
      rw [chk_eq (by omega), lim_eq (by simp; omega)]
      by_cases h1 : a ≤ x.2.1 <;> by_cases h2 : x.2.2 < b <;> by_cases h3 : a ≤ x.1 ∧ x.1 ≤ b - 1 <;> simp only [turnP, br, h1, h2, h3, decide_true, decide_false, Bool.and_true, Bool.true_and, Bool.and_false, Bool.false_and, Bool.not_true, Bool.not_false, ite_true, ite_false, if_true, if_false, List.append_nil, and_self, and_true, true_and, and_false, false_and, Bool.false_eq_true] at ih ⊢ <;> first | exact ih | (simp [h3] at ih ⊢; exact ih)
    · obtain rfl : k = ts.length := by omega
      rw [br_ndec (by omega)]; rfl
section
variable {N : Nat} (hN : 110 ≤ N) {ws : List Wd} {ts : List Tn} {br_ : Int}
include hN
theorem turned_v (ht : ts.length ≤ 100) {a b : Int} (hb : -1000000 ≤ b ∧ b ≤ 1000000) : turned_S N (ws, ts, br_) a b = some (turnL ts a b) := by
  unfold turned_S
  have := turned_l1_p (N := N) (ts := ts) (by omega) (a := a) hb N 0 (by omega) (by omega)
  simp only [Int.natCast_zero] at this
  have e : turnK ts a b 0 = [] := rfl
  rw [e] at this
  rw [this]; rfl
end
/-! ### Stops, faults -/
def stopR (ws : List Wd) (p : Nat) : Bool := decide (p = 0) || decide (p = ws.length) || (ws.getD (p - 1) (0, 0, false)).2.2
theorem stops_v {N : Nat} {ws : List Wd} {ts : List Tn} {br_ : Int} (h : ws.length ≤ 1000) {p : Nat} (hp : p ≤ ws.length) : stops_S N (ws, ts, br_) p = some (stopR ws p) := by
  unfold stops_S end__S stopR
  by_cases h0 : p = 0
  · subst h0; simp [br]
  · rw [br_ndec (by omega)]
    rw [bind_eq (rfl : some ((ws.length : Nat) : Int) = _)]
    by_cases h1 : p = ws.length
    · rw [br_dec (by simp [h1])]; simp [h1]
    · rw [br_ndec (by omega), chk_eq (by omega), show (p : Int) - 1 = ((p - 1 : Nat) : Int) by omega, idx_eq (by omega) (gets (l := ws) (by omega) (0, 0, false))]
      simp [h0, h1]
def faultR (ws : List Wd) (ts : List Tn) (br_ : Int) (a b : Nat) : Int × Bool :=
  if br_ < sylR ws a b then (0, true) else if !stopR ws a || !stopR ws b then (1, true) else (2, decide (0 < ((turnL ts a b).length : Int)))
def rightR (ws : List Wd) (ts : List Tn) (br_ : Int) (a b : Nat) : Bool := !(faultR ws ts br_ a b).2
section
variable {N : Nat} (hN : 110 ≤ N) {ws : List Wd} {ts : List Tn} {br_ : Int} (h : okW ws = true) (ht : ts.length ≤ 100)
include hN h ht
theorem fault_v {a b : Nat} (hab : a ≤ b) (hb : b ≤ ws.length) : fault_S N (ws, ts, br_) a b = some (faultR ws ts br_ a b) := by
  have hl := (okW_iff.1 h).1
  unfold fault_S faultR
  rw [syllables_v hN h (by omega) (by omega) (by omega), stops_v (by omega) (by omega), stops_v (by omega) hb, turned_v hN ht (by omega)]
  simp only [Option.bind_some, Int.toNat_natCast]
  by_cases h1 : br_ < sylR ws a b
  · rw [br_dec h1, if_pos h1]
  · rw [br_ndec h1, if_neg h1]
    cases stopR ws a <;> cases stopR ws b <;> simp [br]
theorem right_v {a b : Nat} (hab : a ≤ b) (hb : b ≤ ws.length) : right_S N (ws, ts, br_) a b = some (rightR ws ts br_ a b) := by
  unfold right_S rightR
  rw [fault_v hN h ht hab hb]; rfl
end
end Go.Proofs.Ytfamlpbdhhikdaa

namespace Go.Proofs.Ytfamlpbdhhikdaa
set_option linter.all false
open Go

theorem call_pure {P : Program} {s : Spec} (hok : SpecOK P s) (hb : s.ins.blks = []) {p : s.ins.den} {r : altD s.outs} (hr : s.run p some = some r) {M : Nat → Option Obj} {w : World} (hM : ∀ b o, M b = some o → w.heap[b]? = some o)
    {vs : List Value} (hv : RepVs ⟨fun _ => none, M⟩ (encs id s.ins.avs p.1) vs) : Fn P s.f vs.toArray w (fun v w' => Ext w w' ∧ ∃ g', RepV g' (resVal (encs id (altOf s.outs r).1.avs (altOf s.outs r).2.1)) v) := by
  have hh : ∀ i, hOf p.2 i = Option.none := fun i => by
    unfold hOf
    rw [List.getElem?_eq_none]
    rw [encBs_len, hb]; exact Nat.zero_le _
  have hs : Sim ⟨fun _ => none, M⟩ (hOf p.2) w := ⟨fun b o h => hM b o h, fun i k hk => (by rw [hh i] at hk; cases hk), fun i j ki kj b ci ni cj nj h1 => (by rw [hh i] at h1; cases h1)⟩
  refine Fn.mono (hok.fn p r hr ⟨fun _ => none, M⟩ w vs hv hs (fun _ _ => rfl)) ?_
  rintro v w' ⟨g', st, _, hv'⟩
  refine ⟨⟨st.os, st.tape, st.output, st.size, fun k hk _ => st.same k hk ?_⟩, g', hv'⟩
  rintro ⟨i, hi, _⟩
  rw [hb] at hi; simp at hi

/-- Some cells from one on. -/
def Cl (w : World) (b o : Nat) (vs : List Value) : Prop := ∀ (i : Nat) (v : Value), vs[i]? = some v → w.cell? ⟨b, o + i, none⟩ = some v
theorem Cl.cell {w : World} {b o i : Nat} {vs : List Value} {v : Value} (h : Cl w b o vs) (hi : vs[i]? = some v) : w.cell? ⟨b, o + i, none⟩ = some v := h i v hi
theorem Cl.of_seg {w : World} {b o : Nat} {ws us : List Value} {ty : TypeId} {z : Nat × Nat} (hb : w.heap[b]? = some (.cells ws.toArray ty z)) (h : Seg ws o us) : Cl w b o us := fun i v hi => by
  have := Seg.row hb h i v hi
  rwa [addr_add] at this
/-- The numbers from one on that are so. -/
def toL (R : Nat → Bool) (m k : Nat) : List Nat := (List.range' k (m + 1 - k)).filter R
theorem toL_yes {R : Nat → Bool} {m k : Nat} (h : k ≤ m) (e : R k = true) : toL R m k = k :: toL R m (k + 1) := by
  unfold toL
  rw [show m + 1 - k = (m + 1 - (k + 1)) + 1 by omega, List.range'_succ, List.filter_cons, if_pos e]
theorem toL_no {R : Nat → Bool} {m k : Nat} (h : k ≤ m) (e : R k = false) : toL R m k = toL R m (k + 1) := by
  unfold toL
  rw [show m + 1 - k = (m + 1 - (k + 1)) + 1 by omega, List.range'_succ, List.filter_cons, if_neg (by simp [e])]
theorem toL_end {R : Nat → Bool} {m k : Nat} (h : m < k) : toL R m k = [] := by
  unfold toL
  rw [show m + 1 - k = 0 by omega]; rfl
theorem mem_toL {R : Nat → Bool} {m k j : Nat} : j ∈ toL R m k ↔ k ≤ j ∧ j ≤ m ∧ R j = true := by
  unfold toL
  rw [List.mem_filter, List.mem_range'_1]
  constructor
  · rintro ⟨⟨h1, h2⟩, h3⟩; exact ⟨h1, by omega, h3⟩
  · rintro ⟨h1, h2, h3⟩; exact ⟨⟨h1, by omega⟩, h3⟩

noncomputable def c143 : Code := (Try.f143.body).getD .skip
noncomputable def K143_0 : List Item := [.code (sub c143 [0]), .code (sub c143 [1])]
noncomputable def K143_1 : List Item := [.code (sub c143 [1, 0, 0, 0, 0]), .code (sub c143 [1, 0, 0, 0, 1]), .code (sub c143 [1, 0, 0, 1]), .inLoop (sub c143 [1, 0, 0]), .inBlock 0]
noncomputable def K143_2 : List Item := [.code (sub c143 [1, 0, 0, 0, 1]), .code (sub c143 [1, 0, 0, 1]), .inLoop (sub c143 [1, 0, 0]), .inBlock 0]
noncomputable def K143_3 : List Item := [.code (sub c143 [1, 0, 0, 1, 0, 0, 0]), .code (sub c143 [1, 0, 0, 1, 0, 0, 1]), .inBlock 1, .code (sub c143 [1, 0, 0, 1, 1]), .inLoop (sub c143 [1, 0, 0]), .inBlock 0]
noncomputable def K143_4 : List Item := []
noncomputable def K143_5 : List Item := [.code (sub c143 [1, 0, 0, 1, 0, 0, 1]), .inBlock 1, .code (sub c143 [1, 0, 0, 1, 1]), .inLoop (sub c143 [1, 0, 0]), .inBlock 0]
noncomputable def K143_6 : List Item := [.code (sub c143 [1, 0, 0, 1, 0, 0, 1, 0]), .inBlock 1, .code (sub c143 [1, 0, 0, 1, 1]), .inLoop (sub c143 [1, 0, 0]), .inBlock 0]
noncomputable def K143_7 : List Item := [.code (sub c143 [1, 0, 0, 1, 1]), .inLoop (sub c143 [1, 0, 0]), .inBlock 0]
set_option maxHeartbeats 400000 in
theorem breaths1_fn (l bf bd of_ od : Nat) (vd : Addr) (fr m : Nat) (R : Nat → Bool) (S : List Nat) (J : List Nat → World → Prop) (Q : World → Prop) (w : World)
    (hbf : ∀ w', Upd (l :: S) w w' → Cl w' bf of_ [.int .i64 (↑fr : Int)]) (hbd : ∀ w', Upd (l :: S) w w' → Cl w' bd od [.pointer (some vd)])
    (hend : ∀ w', Upd (l :: S) w w' → Fn Try.prog 90 #[.pointer (some vd)] w' (fun v w2 => Ext w' w2 ∧ v = .int .i64 (↑m : Int)))
    (hright : ∀ (k : Nat) w', fr ≤ k → k ≤ m → Upd (l :: S) w w' → Fn Try.prog 87 #[.pointer (some vd), .int .i64 (↑fr : Int), .int .i64 (↑k : Int)] w' (fun v w2 => Ext w' w2 ∧ v = .bool (R k)))
    (hfr : fr ≤ m ∧ m ≤ 1000000) (hJ : J (toL R m (fr + 1)) w) (hxJ : ∀ r, Stays w.heap.size (J r))
    (hy : ∀ k r w1, k ∈ toL R m (fr + 1) → J (k :: r) w1 → Upd (l :: S) w w1 → Yield Try.prog l #[.int .i64 ↑k] w1 (fun v w2 => Upd (l :: S) w1 w2 ∧ ((v = .bool true ∧ J r w2) ∨ (v = .bool false ∧ Q w2)))) :
    Fn Try.prog 143 #[(.func (.yield l) #[] #[]), (.pointer (some ⟨bf, of_, none⟩)), (.pointer (some ⟨bd, od, none⟩))] w (fun _ w' => Upd (l :: S) w w' ∧ (J [] w' ∨ Q w')) := by
  refine Fn.ofSt (c := c143) 23 K143_0 [(0, (.func (.yield l) #[] #[])), (1, (.pointer (some ⟨bf, of_, none⟩))), (2, (.pointer (some ⟨bd, od, none⟩)))] Try.func143 (by kernel_rfl) ⟨⟨rfl, by kernel_rfl⟩, by kernel_rfl⟩ (by kernel_rfl) ?_
  intro cs
  refine St.reg K143_1 [(0, true), (1, true), (2, true)] (by kernel_rfl) (by kernel_rfl) ?_
  refine RX.q 3 [(0, true, (.int .i64 (↑fr : Int))), (1, false, (.int .i64 ((↑fr : Int) + 1)))] [(0, (.func (.yield l) #[] #[])), (1, (.pointer (some ⟨bf, of_, none⟩))), (2, (.pointer (some ⟨bd, od, none⟩))), (4, (.int .i64 ((↑fr : Int) + 1)))] [.cell ⟨bf, of_ + 0, none⟩ (.int .i64 (↑fr : Int)), .eq (.int .i64 (IntKind.i64.wrap ((↑fr : Int) + 1))) (.int .i64 ((↑fr : Int) + 1))] (by kernel_rfl) ⟨Cl.cell (hbf w (Upd.refl _ w)) rfl, int64 (by omega)⟩ ?_
  refine RX.done [(0, (.func (.yield l) #[] #[])), (1, (.pointer (some ⟨bf, of_, none⟩))), (2, (.pointer (some ⟨bd, od, none⟩))), (4, (.int .i64 ((↑fr : Int) + 1)))] (by kernel_rfl) (by kernel_rfl) ?_
  have loop1 : ∀ (N : Nat) (k : Nat) (w2 : World), (fr + 1 ≤ k ∧ k ≤ m + 1) → (J (toL R m k) w2) → (Upd (l :: S) w w2) → N = m + 1 - k → St Try.prog (fctx Try.prog 143 (fun _ w' => Upd (l :: S) w w' ∧ (J [] w' ∨ Q w')) cs) 23 K143_1 [(4, (.int .i64 (↑k : Int))), (0, (.func (.yield l) #[] #[])), (1, (.pointer (some ⟨bf, of_, none⟩))), (2, (.pointer (some ⟨bd, od, none⟩)))] [] w2 := by
    intro N3
    induction N3 using Nat.strongRecOn with
    | ind N3 ih4 => ?_
    intro k w2 hk hJk hE hN5
    refine St.reg K143_2 [(0, true), (1, true), (2, false), (3, true)] (by kernel_rfl) (by kernel_rfl) ?_
    refine RX.q 2 [(1, true, (.pointer (some vd)))] [(0, (.func (.yield l) #[] #[])), (1, (.pointer (some ⟨bf, of_, none⟩))), (2, (.pointer (some ⟨bd, od, none⟩))), (4, (.int .i64 (↑k : Int))), (7, (.int .i64 (↑k : Int))), (8, (.pointer (some vd)))] [.cell ⟨bd, od + 0, none⟩ (.pointer (some vd))] (by kernel_rfl) (Cl.cell (hbd w2 hE) rfl) ?_
    refine RX.call 9 90 #[(.pointer (some vd))] [(0, (.func (.yield l) #[] #[])), (1, (.pointer (some ⟨bf, of_, none⟩))), (2, (.pointer (some ⟨bd, od, none⟩))), (4, (.int .i64 (↑k : Int))), (7, (.int .i64 (↑k : Int))), (8, (.pointer (some vd)))] (fun _ => by kernel_rfl) (by kernel_rfl) ?_
    refine Fn.mono (hend w2 hE) ?_
    rintro _ w3 ⟨hx3, rfl⟩
    have hE3 : Upd (l :: S) w w3 := Upd.ext hE hx3
    have hJ3 : J (toL R m k) w3 := Stays.ext (hxJ _) hJk hx3
    refine RX.q 1 [] [(0, (.func (.yield l) #[] #[])), (1, (.pointer (some ⟨bf, of_, none⟩))), (2, (.pointer (some ⟨bd, od, none⟩))), (4, (.int .i64 (↑k : Int))), (10, (.bool (decide ((↑k : Int) ≤ (↑m : Int)))))] [] (by kernel_rfl) trivial ?_
    refine RX.done [(0, (.func (.yield l) #[] #[])), (1, (.pointer (some ⟨bf, of_, none⟩))), (2, (.pointer (some ⟨bd, od, none⟩))), (4, (.int .i64 (↑k : Int))), (10, (.bool (decide ((↑k : Int) ≤ (↑m : Int)))))] (by kernel_rfl) (by kernel_rfl) ?_
    refine St.cond (k1 := K143_3) (k2 := K143_4) (decide ((↑k : Int) ≤ (↑m : Int))) (by kernel_rfl) (fun hc7 => ?_) (fun hc7 => ?_)
    · have hh8 : (↑k : Int) ≤ (↑m : Int) := by simpa using hc7
      clear hc7
      refine St.weak (L' := [(0, (.func (.yield l) #[] #[])), (1, (.pointer (some ⟨bf, of_, none⟩))), (2, (.pointer (some ⟨bd, od, none⟩))), (4, (.int .i64 (↑k : Int)))]) (by kernel_rfl) ?_
      refine St.reg K143_5 [(0, true), (1, true), (2, true), (3, false), (4, true), (5, true), (6, true), (7, false), (8, true), (9, true)] (by kernel_rfl) (by kernel_rfl) ?_
      refine RX.q 3 [(0, true, (.pointer (some vd))), (1, true, (.int .i64 (↑fr : Int)))] [(0, (.func (.yield l) #[] #[])), (1, (.pointer (some ⟨bf, of_, none⟩))), (2, (.pointer (some ⟨bd, od, none⟩))), (4, (.int .i64 (↑k : Int))), (13, (.pointer (some vd))), (14, (.int .i64 (↑fr : Int))), (15, (.int .i64 (↑k : Int)))] [.cell ⟨bd, od + 0, none⟩ (.pointer (some vd)), .cell ⟨bf, of_ + 0, none⟩ (.int .i64 (↑fr : Int))] (by kernel_rfl) ⟨Cl.cell (hbd w3 hE3) rfl, Cl.cell (hbf w3 hE3) rfl⟩ ?_
      refine RX.call 16 87 #[(.pointer (some vd)), (.int .i64 (↑fr : Int)), (.int .i64 (↑k : Int))] [(0, (.func (.yield l) #[] #[])), (1, (.pointer (some ⟨bf, of_, none⟩))), (2, (.pointer (some ⟨bd, od, none⟩))), (4, (.int .i64 (↑k : Int))), (13, (.pointer (some vd))), (14, (.int .i64 (↑fr : Int))), (15, (.int .i64 (↑k : Int)))] (fun _ => by kernel_rfl) (by kernel_rfl) ?_
      refine Fn.mono (hright k w3 (by omega) (by omega) hE3) ?_
      rintro _ w4 ⟨hx4, rfl⟩
      have hE4 : Upd (l :: S) w w4 := Upd.ext hE3 hx4
      have hJ4 : J (toL R m k) w4 := Stays.ext (hxJ _) hJ3 hx4
      cases hR : R k with
      | true =>
        refine RX.q 3 [] [(0, (.func (.yield l) #[] #[])), (1, (.pointer (some ⟨bf, of_, none⟩))), (2, (.pointer (some ⟨bd, od, none⟩))), (4, (.int .i64 (↑k : Int))), (17, (.bool true)), (18, (.func (.yield l) #[] #[])), (19, (.int .i64 (↑k : Int)))] [] (by kernel_rfl) trivial ?_
        rw [toL_yes (by omega) hR] at hJ4
        refine RX.yield 20 l #[(.int .i64 (↑k : Int))] [(0, (.func (.yield l) #[] #[])), (1, (.pointer (some ⟨bf, of_, none⟩))), (2, (.pointer (some ⟨bd, od, none⟩))), (4, (.int .i64 (↑k : Int))), (17, (.bool true)), (18, (.func (.yield l) #[] #[])), (19, (.int .i64 (↑k : Int)))] (by kernel_rfl) ?_
        refine Yield.mono (hy k _ w4 (mem_toL.2 ⟨by omega, by omega, hR⟩) hJ4 hE4) ?_
        rintro _ w5 ⟨hu5, ⟨rfl, hv⟩ | ⟨rfl, hv⟩⟩
        · refine RX.q 2 [] [(0, (.func (.yield l) #[] #[])), (1, (.pointer (some ⟨bf, of_, none⟩))), (2, (.pointer (some ⟨bd, od, none⟩))), (4, (.int .i64 (↑k : Int))), (22, (.bool false))] [] (by kernel_rfl) trivial ?_
          refine RX.done [(0, (.func (.yield l) #[] #[])), (1, (.pointer (some ⟨bf, of_, none⟩))), (2, (.pointer (some ⟨bd, od, none⟩))), (4, (.int .i64 (↑k : Int))), (22, (.bool false))] (by kernel_rfl) (by kernel_rfl) ?_
          refine St.cond (k1 := K143_6) (k2 := K143_7) false (by kernel_rfl) (fun hc => ?_) (fun hc => ?_)
          · cases hc
          · clear hc
            refine St.weak (L' := [(0, (.func (.yield l) #[] #[])), (1, (.pointer (some ⟨bf, of_, none⟩))), (2, (.pointer (some ⟨bd, od, none⟩))), (4, (.int .i64 (↑k : Int)))]) (by kernel_rfl) ?_
            refine St.reg K143_1 [(0, true), (1, true), (2, true)] (by kernel_rfl) (by kernel_rfl) ?_
            refine RX.q 3 [(1, false, (.int .i64 ((↑k : Int) + 1)))] [(0, (.func (.yield l) #[] #[])), (1, (.pointer (some ⟨bf, of_, none⟩))), (2, (.pointer (some ⟨bd, od, none⟩))), (4, (.int .i64 ((↑k : Int) + 1)))] [.eq (.int .i64 (IntKind.i64.wrap ((↑k : Int) + 1))) (.int .i64 ((↑k : Int) + 1))] (by kernel_rfl) (int64 (by omega)) ?_
            refine RX.done [(0, (.func (.yield l) #[] #[])), (1, (.pointer (some ⟨bf, of_, none⟩))), (2, (.pointer (some ⟨bd, od, none⟩))), (4, (.int .i64 ((↑k : Int) + 1)))] (by kernel_rfl) (by kernel_rfl) ?_
            refine St.weak (by kernel_rfl) (ih4 _ ?_ (k + 1) w5 (by omega) hv (Upd.trans hE4 hu5) rfl)
            omega
        · refine RX.q 2 [] [(0, (.func (.yield l) #[] #[])), (1, (.pointer (some ⟨bf, of_, none⟩))), (2, (.pointer (some ⟨bd, od, none⟩))), (4, (.int .i64 (↑k : Int))), (22, (.bool true))] [] (by kernel_rfl) trivial ?_
          refine RX.done [(0, (.func (.yield l) #[] #[])), (1, (.pointer (some ⟨bf, of_, none⟩))), (2, (.pointer (some ⟨bd, od, none⟩))), (4, (.int .i64 (↑k : Int))), (22, (.bool true))] (by kernel_rfl) (by kernel_rfl) ?_
          refine St.cond (k1 := K143_6) (k2 := K143_7) true (by kernel_rfl) (fun hc => ?_) (fun hc => ?_)
          · clear hc
            refine St.weak (L' := []) (by kernel_rfl) ?_
            refine St.ret [] [] (by kernel_rfl) Try.func143 (by kernel_rfl) .nil ?_
            exact ⟨Upd.trans hE4 hu5, .inr hv⟩
          · cases hc
      | false =>
        refine RX.q 3 [] [(0, (.func (.yield l) #[] #[])), (1, (.pointer (some ⟨bf, of_, none⟩))), (2, (.pointer (some ⟨bd, od, none⟩))), (4, (.int .i64 (↑k : Int))), (17, (.bool false)), (18, undef), (19, undef)] [] (by kernel_rfl) trivial ?_
        refine RX.skip [(0, (.func (.yield l) #[] #[])), (1, (.pointer (some ⟨bf, of_, none⟩))), (2, (.pointer (some ⟨bd, od, none⟩))), (4, (.int .i64 (↑k : Int))), (17, (.bool false)), (18, undef), (19, undef), (20, undef)] (by kernel_rfl) ?_
        refine RX.q 2 [] [(0, (.func (.yield l) #[] #[])), (1, (.pointer (some ⟨bf, of_, none⟩))), (2, (.pointer (some ⟨bd, od, none⟩))), (4, (.int .i64 (↑k : Int))), (22, (.bool false))] [] (by kernel_rfl) trivial ?_
        refine RX.done [(0, (.func (.yield l) #[] #[])), (1, (.pointer (some ⟨bf, of_, none⟩))), (2, (.pointer (some ⟨bd, od, none⟩))), (4, (.int .i64 (↑k : Int))), (22, (.bool false))] (by kernel_rfl) (by kernel_rfl) ?_
        refine St.cond (k1 := K143_6) (k2 := K143_7) false (by kernel_rfl) (fun hc => ?_) (fun hc => ?_)
        · cases hc
        · clear hc
          refine St.weak (L' := [(0, (.func (.yield l) #[] #[])), (1, (.pointer (some ⟨bf, of_, none⟩))), (2, (.pointer (some ⟨bd, od, none⟩))), (4, (.int .i64 (↑k : Int)))]) (by kernel_rfl) ?_
          refine St.reg K143_1 [(0, true), (1, true), (2, true)] (by kernel_rfl) (by kernel_rfl) ?_
          refine RX.q 3 [(1, false, (.int .i64 ((↑k : Int) + 1)))] [(0, (.func (.yield l) #[] #[])), (1, (.pointer (some ⟨bf, of_, none⟩))), (2, (.pointer (some ⟨bd, od, none⟩))), (4, (.int .i64 ((↑k : Int) + 1)))] [.eq (.int .i64 (IntKind.i64.wrap ((↑k : Int) + 1))) (.int .i64 ((↑k : Int) + 1))] (by kernel_rfl) (int64 (by omega)) ?_
          refine RX.done [(0, (.func (.yield l) #[] #[])), (1, (.pointer (some ⟨bf, of_, none⟩))), (2, (.pointer (some ⟨bd, od, none⟩))), (4, (.int .i64 ((↑k : Int) + 1)))] (by kernel_rfl) (by kernel_rfl) ?_
          refine St.weak (by kernel_rfl) (ih4 _ ?_ (k + 1) w4 (by omega) (by rw [← toL_no (by omega) hR]; exact hJ4) hE4 rfl)
          omega
    · have hh52 : (↑m : Int) < (↑k : Int) := by simpa using hc7
      clear hc7
      refine St.weak (L' := []) (by kernel_rfl) ?_
      refine St.ret [] [] (by kernel_rfl) Try.func143 (by kernel_rfl) .nil ?_
      refine ⟨hE3, .inl ?_⟩
      rw [← toL_end (R := R) (m := m) (k := k) (by omega)]; exact hJ3
  exact St.weak (by kernel_rfl) (loop1 _ (fr + 1) w (by omega) hJ (Upd.refl (l :: S) w) rfl)

abbrev TextT : Ty := .pair (.sl (.pair (.int .i64) (.pair (.int .i64) .bool))) (.pair (.sl (.pair (.int .i64) (.pair (.int .i64) (.int .i64)))) (.int .i64))
/-- The ends of the right breaths from a place. -/
def endsL (ws : List Wd) (ts : List Tn) (br_ : Int) (a : Nat) : List Nat := toL (rightR ws ts br_ a) ws.length (a + 1)
def breathsR (a : Int) (d : Tx) : Option (List (Int × Unit)) :=
  if (0 ≤ a ∧ a ≤ d.1.length) ∧ okW d.1 = true ∧ d.2.1.length ≤ 100 then some ((endsL d.1 d.2.1 d.2.2 a.toNat).map fun (j : Nat) => ((j : Int), ())) else none
abbrev is_breaths : ISpec := { f := 143, cap := [.fe (.int .i64), .fe (.ptr TextT)], elem := [.i .i64], run := fun p => breathsR p.1 p.2.1 }
theorem inR_small {n : Int} (h : -1000000 ≤ n ∧ n ≤ 1000000) : inR .i64 n := inR_i64.2 (by omega)
theorem is_breaths_ok : ISpecOK Try.prog is_breaths := by
  refine ⟨by rfl, fun _ => by kernel_rfl, fun p es hes g vs hvs l S J Q w hM hS hJ hxJ hxQ hy => ?_⟩
  obtain ⟨a, d, u⟩ := p
  simp only [breathsR] at hes
  split at hes
  rotate_left
  · cases hes
  rename_i hc
  simp only [Option.some.injEq] at hes
  subst hes
  obtain ⟨⟨ha0, ha1⟩, hok, ht⟩ := hc
  obtain ⟨ws, ts, br_⟩ := d
  dsimp only at *
  obtain ⟨fr, rfl⟩ : ∃ n : Nat, a = n := ⟨a.toNat, (Int.toNat_of_nonneg ha0).symm⟩
  simp only [Int.toNat_natCast] at hJ ⊢
  have hlen := (okW_iff.1 hok).1
  simp only [encs, enc, RepVs, RepV] at hvs
  obtain ⟨v1, r1, rfl, ⟨bf, of_, wx, tx, ux, rfl, hbx, hsx, hcx⟩, v2, r2, rfl, ⟨bd, od, wd, td, ud, rfl, hbd, hsd, hcd⟩, rfl⟩ := hvs
  obtain ⟨rfl, hin⟩ := hcx
  obtain ⟨bo, oo, wo, to, uo, rfl, hbo, hso, hco⟩ := hcd
  have hmem : ∀ w', Upd (l :: S) w w' → ∀ b o, g.M b = some o → w'.heap[b]? = some o := fun w' hu b o hb => hu.blk (hM b o hb).2 (hM b o hb).1
  have hrd : RepV ⟨fun _ => none, g.M⟩ (.fe TextT (ws, ts, br_) 0) (.pointer (some ⟨bo, oo, none⟩)) := ⟨bo, oo, wo, to, uo, rfl, hbo, hso, hco⟩
  have hfn := breaths1_fn l bf bd of_ od ⟨bo, oo, none⟩ fr ws.length (rightR ws ts br_ fr) S (fun r => J (r.map fun (j : Nat) => ((j : Int), ()))) Q w
    (fun w' hu => Cl.of_seg (hmem w' hu _ _ hbx) hsx) (fun w' hu => Cl.of_seg (hmem w' hu _ _ hbd) hsd)
    (fun w' hu => Fn.mono (call_pure (sp_end__ok 200) rfl (p := (((ws, ts, br_), ()), ())) (r := (((ws.length : Int), ()), ())) rfl (hmem w' hu) ⟨_, _, rfl, hrd, rfl⟩) (fun v w2 ⟨h1, g', h2⟩ => ⟨h1, by
      simp only [altOf, encs, enc, resVal, RepV] at h2
      exact h2.1⟩))
    (fun k w' h1 h2 hu => Fn.mono (call_pure (sp_right_ok 200) rfl (p := (((ws, ts, br_), ((fr : Int), ((k : Int), ()))), ())) (r := ((rightR ws ts br_ fr k, ()), ())) (by
        show ((right_S 200 (ws, ts, br_) fr k).bind fun r => some ((r, ()), ())) = _
        rw [right_v (by omega) hok ht h1 h2]; rfl) (hmem w' hu) ⟨_, _, rfl, hrd, _, _, rfl, ⟨rfl, (show inR .i64 (fr : Int) from inR_small (by omega))⟩, _, _, rfl, ⟨rfl, (show inR .i64 (k : Int) from inR_small (by omega))⟩, rfl⟩) (fun v w2 ⟨h1, g', h2⟩ => ⟨h1, by
      simp only [altOf, encs, enc, resVal, RepV] at h2
      exact h2⟩))
    (by omega) hJ (fun r => hxJ _) (fun m r w1 hm hj hu => hy ((m : Int), ()) (r.map fun (j : Nat) => ((j : Int), ())) w1 [.int .i64 (m : Int)] hj hu ⟨_, _, rfl, ⟨rfl, inR_small (by have := mem_toL.1 hm; omega)⟩, rfl⟩)
  exact hfn
end Go.Proofs.Ytfamlpbdhhikdaa

/-
  Parts of a proof, put together: FKb, FKc, FKd, FCl, FK.
  Conditions: none.
-/
import Derived.Test.YthncjilcflilcaaZd
namespace Go.Proofs.Ythncjilcflilcaa
set_option linter.all false
open Go

noncomputable def c81 : Code := (Try.f81.body).getD .skip
noncomputable def K81_4 : List Item := [.code (sub c81 [1, 1, 1, 1, 0, 0]), .code (sub c81 [1, 1, 1, 1, 0, 1]), .code (sub c81 [1, 1, 1, 1, 1])]
noncomputable def K81_5 : List Item := [.code (sub c81 [1, 1, 1, 1, 0, 1, 0, 0, 0]), .code (sub c81 [1, 1, 1, 1, 0, 1, 0, 0, 1]), .inLoop (sub c81 [1, 1, 1, 1, 0, 1, 0, 0]), .inBlock 0, .code (sub c81 [1, 1, 1, 1, 1])]
noncomputable def K81_6 : List Item := [.code (sub c81 [1, 1, 1, 1, 0, 1, 0, 0, 1, 0]), .code (sub c81 [1, 1, 1, 1, 0, 1, 0, 0, 1, 1]), .inLoop (sub c81 [1, 1, 1, 1, 0, 1, 0, 0]), .inBlock 0, .code (sub c81 [1, 1, 1, 1, 1])]
noncomputable def K81_7 : List Item := [.code (sub c81 [1, 1, 1, 1, 0, 1, 0, 0, 1, 1, 0, 0, 0]), .code (sub c81 [1, 1, 1, 1, 0, 1, 0, 0, 1, 1, 0, 0, 1]), .inBlock 1, .code (sub c81 [1, 1, 1, 1, 0, 1, 0, 0, 1, 1, 1]), .inLoop (sub c81 [1, 1, 1, 1, 0, 1, 0, 0]), .inBlock 0, .code (sub c81 [1, 1, 1, 1, 1])]
noncomputable def K81_8 : List Item := [.code (sub c81 [1, 1, 1, 1, 1, 0]), .code (sub c81 [1, 1, 1, 1, 1, 1])]
noncomputable def K81_9 : List Item := [.code (sub c81 [1, 1, 1, 1, 0, 1, 0, 0, 1, 1, 0, 0, 1, 0]), .code (sub c81 [1, 1, 1, 1, 0, 1, 0, 0, 1, 1, 0, 0, 1, 1]), .inBlock 1, .code (sub c81 [1, 1, 1, 1, 0, 1, 0, 0, 1, 1, 1]), .inLoop (sub c81 [1, 1, 1, 1, 0, 1, 0, 0]), .inBlock 0, .code (sub c81 [1, 1, 1, 1, 1])]
noncomputable def K81_10 : List Item := [.code (sub c81 [1, 1, 1, 1, 1, 1, 0]), .code (sub c81 [1, 1, 1, 1, 1, 1, 1])]
noncomputable def K81_11 : List Item := [.code (sub c81 [1, 1, 1, 1, 0, 1, 0, 0, 1, 1, 0, 0, 1, 1, 0, 0, 0]), .code (sub c81 [1, 1, 1, 1, 0, 1, 0, 0, 1, 1, 0, 0, 1, 1, 0, 0, 1]), .inLoop (sub c81 [1, 1, 1, 1, 0, 1, 0, 0, 1, 1, 0, 0, 1, 1, 0, 0]), .inBlock 2, .inBlock 1, .code (sub c81 [1, 1, 1, 1, 0, 1, 0, 0, 1, 1, 1]), .inLoop (sub c81 [1, 1, 1, 1, 0, 1, 0, 0]), .inBlock 0, .code (sub c81 [1, 1, 1, 1, 1])]
noncomputable def K81_13 : List Item := [.code (sub c81 [1, 1, 1, 1, 0, 1, 0, 0, 1, 1, 0, 0, 1, 1, 0, 0, 1, 0]), .code (sub c81 [1, 1, 1, 1, 0, 1, 0, 0, 1, 1, 0, 0, 1, 1, 0, 0, 1, 1]), .inLoop (sub c81 [1, 1, 1, 1, 0, 1, 0, 0, 1, 1, 0, 0, 1, 1, 0, 0]), .inBlock 2, .inBlock 1, .code (sub c81 [1, 1, 1, 1, 0, 1, 0, 0, 1, 1, 1]), .inLoop (sub c81 [1, 1, 1, 1, 0, 1, 0, 0]), .inBlock 0, .code (sub c81 [1, 1, 1, 1, 1])]
noncomputable def K81_14 : List Item := [.code (sub c81 [1, 1, 1, 1, 0, 1, 0, 0, 1, 1, 0, 0, 1, 1, 0, 0, 1, 1, 0, 0, 0]), .code (sub c81 [1, 1, 1, 1, 0, 1, 0, 0, 1, 1, 0, 0, 1, 1, 0, 0, 1, 1, 0, 0, 1]), .inBlock 3, .code (sub c81 [1, 1, 1, 1, 0, 1, 0, 0, 1, 1, 0, 0, 1, 1, 0, 0, 1, 1, 1]), .inLoop (sub c81 [1, 1, 1, 1, 0, 1, 0, 0, 1, 1, 0, 0, 1, 1, 0, 0]), .inBlock 2, .inBlock 1, .code (sub c81 [1, 1, 1, 1, 0, 1, 0, 0, 1, 1, 1]), .inLoop (sub c81 [1, 1, 1, 1, 0, 1, 0, 0]), .inBlock 0, .code (sub c81 [1, 1, 1, 1, 1])]
noncomputable def K81_15 : List Item := [.code (sub c81 [1, 1, 1, 1, 0, 1, 0, 0, 1, 1, 1]), .inLoop (sub c81 [1, 1, 1, 1, 0, 1, 0, 0]), .inBlock 0, .code (sub c81 [1, 1, 1, 1, 1])]
noncomputable def K81_16 : List Item := [.code (sub c81 [1, 1, 1, 1, 0, 1, 0, 0, 1, 1, 0, 0, 1, 1, 0, 0, 1, 1, 0, 0, 1]), .inBlock 3, .code (sub c81 [1, 1, 1, 1, 0, 1, 0, 0, 1, 1, 0, 0, 1, 1, 0, 0, 1, 1, 1]), .inLoop (sub c81 [1, 1, 1, 1, 0, 1, 0, 0, 1, 1, 0, 0, 1, 1, 0, 0]), .inBlock 2, .inBlock 1, .code (sub c81 [1, 1, 1, 1, 0, 1, 0, 0, 1, 1, 1]), .inLoop (sub c81 [1, 1, 1, 1, 0, 1, 0, 0]), .inBlock 0, .code (sub c81 [1, 1, 1, 1, 1])]
noncomputable def K81_17 : List Item := [.code (sub c81 [1, 1, 1, 1, 0, 1, 0, 0, 1, 1, 0, 0, 1, 1, 0, 0, 1, 1, 1]), .inLoop (sub c81 [1, 1, 1, 1, 0, 1, 0, 0, 1, 1, 0, 0, 1, 1, 0, 0]), .inBlock 2, .inBlock 1, .code (sub c81 [1, 1, 1, 1, 0, 1, 0, 0, 1, 1, 1]), .inLoop (sub c81 [1, 1, 1, 1, 0, 1, 0, 0]), .inBlock 0, .code (sub c81 [1, 1, 1, 1, 1])]

/-- What is there when rows have been cloned. -/
structure Cloned (w0 w : World) (bl : Nat) (l : List (List Int)) (rest vs : List Value) (ty : TypeId) : Prop where
  len : vs.length = l.length
  upd : Upd [bl] w0 w
  blk : Blk w bl (vs ++ rest) ty
  row : ∀ j, j < l.length → CR w w0.heap.size (l.getD j []) (vs.getD j undef)
  inc : ∀ i j, i < j → j < l.length → blkN (vs.getD i undef) < blkN (vs.getD j undef)
set_option maxHeartbeats 1000000 in
theorem known_rows {X : Ctx} {df : List Deferred} {M : Nat → Option Obj} (a2 a3 : Option Addr) (n2 c2 n3 c3 b0 b1 bl c : Nat) (fo tr va m45 : Int) (l : List (List Int)) (vs0 rest : List Value) (ty : TypeId) (w0 : World)
    (hM : ∀ b o, M b = some o → b ≠ bl ∧ w0.heap[b]? = some o) (hn : l.length ≤ 1000000) (hl : ∀ r ∈ l, r ≠ [] ∧ r.length ≤ 1000000) (hB : Blk w0 bl (vs0 ++ rest) ty) (hR : RepL M (.sl (.int .i64)) l vs0)
    (hk : ∀ vs w, Cloned w0 w bl l rest vs ty → St Try.prog X 72 K81_15 [(1, (.int .i64 fo)), (2, (.int .i64 tr)), (3, (.int .i64 va)), (8, (.pointer (some ⟨b0, 0, none⟩))), (9, (.pointer (some ⟨b1, 0, none⟩))), (44, (.agg #[.slice a2 n2 c2, .slice a3 n3 c3])), (45, (.int .i64 m45))] df w) :
    St Try.prog X 72 K81_11 [(50, (.int .i64 0)), (1, (.int .i64 fo)), (2, (.int .i64 tr)), (3, (.int .i64 va)), (8, (.pointer (some ⟨b0, 0, none⟩))), (9, (.pointer (some ⟨b1, 0, none⟩))), (44, (.agg #[.slice a2 n2 c2, .slice a3 n3 c3])), (45, (.int .i64 m45)), (49, (.int .i64 (↑l.length : Int))), (11, (.slice (some ⟨bl, 0, none⟩) l.length c))] df w0 := by
  obtain ⟨hv0, hrow⟩ := rows_at hR
  have loop : ∀ (N i : Nat) (vs : List Value) (w : World), i ≤ l.length → N = l.length - i → vs.length = l.length → Upd [bl] w0 w → Blk w bl (vs ++ rest) ty →
      (∀ j, j < i → CR w w0.heap.size (l.getD j []) (vs.getD j undef)) → (∀ j k, j < k → k < i → blkN (vs.getD j undef) < blkN (vs.getD k undef)) → (∀ j, i ≤ j → vs[j]? = vs0[j]?) →
      St Try.prog X 72 K81_11 [(50, (.int .i64 (↑i : Int))), (1, (.int .i64 fo)), (2, (.int .i64 tr)), (3, (.int .i64 va)), (8, (.pointer (some ⟨b0, 0, none⟩))), (9, (.pointer (some ⟨b1, 0, none⟩))), (44, (.agg #[.slice a2 n2 c2, .slice a3 n3 c3])), (45, (.int .i64 m45)), (49, (.int .i64 (↑l.length : Int))), (11, (.slice (some ⟨bl, 0, none⟩) l.length c))] df w := by
    intro N
    induction N using Nat.strongRecOn with
    | ind N ih => ?_
    intro i vs w hi hN hlen hu hb hrw hinc hsame
    refine St.reg K81_13 [(0, true)] (by kernel_rfl) (by kernel_rfl) ?_
    refine RX.q 1 [] [(51, (.bool (decide ((↑i : Int) < (↑l.length : Int))))), (50, (.int .i64 (↑i : Int))), (1, (.int .i64 fo)), (2, (.int .i64 tr)), (3, (.int .i64 va)), (8, (.pointer (some ⟨b0, 0, none⟩))), (9, (.pointer (some ⟨b1, 0, none⟩))), (44, (.agg #[.slice a2 n2 c2, .slice a3 n3 c3])), (45, (.int .i64 m45)), (49, (.int .i64 (↑l.length : Int))), (11, (.slice (some ⟨bl, 0, none⟩) l.length c))] [] (by kernel_rfl) trivial ?_
    refine RX.done [(51, (.bool (decide ((↑i : Int) < (↑l.length : Int))))), (50, (.int .i64 (↑i : Int))), (1, (.int .i64 fo)), (2, (.int .i64 tr)), (3, (.int .i64 va)), (8, (.pointer (some ⟨b0, 0, none⟩))), (9, (.pointer (some ⟨b1, 0, none⟩))), (44, (.agg #[.slice a2 n2 c2, .slice a3 n3 c3])), (45, (.int .i64 m45)), (49, (.int .i64 (↑l.length : Int))), (11, (.slice (some ⟨bl, 0, none⟩) l.length c))] (by kernel_rfl) (by kernel_rfl) ?_
    refine St.cond (k1 := K81_14) (k2 := K81_15) (decide ((↑i : Int) < (↑l.length : Int))) (by kernel_rfl) (fun hc => ?_) (fun hc => ?_)
    rotate_left
    · have hh : (↑l.length : Int) ≤ (↑i : Int) := by simpa using hc
      clear hc
      obtain rfl : i = l.length := by omega
      exact St.weak (L' := [(1, (.int .i64 fo)), (2, (.int .i64 tr)), (3, (.int .i64 va)), (8, (.pointer (some ⟨b0, 0, none⟩))), (9, (.pointer (some ⟨b1, 0, none⟩))), (44, (.agg #[.slice a2 n2 c2, .slice a3 n3 c3])), (45, (.int .i64 m45))]) (by kernel_rfl) (hk vs w ⟨hlen, hu, hb, hrw, hinc⟩)
    have hh : (↑i : Int) < (↑l.length : Int) := by simpa using hc
    clear hc
    have hil : i < l.length := by omega
    refine St.weak (L' := [(50, (.int .i64 (↑i : Int))), (1, (.int .i64 fo)), (2, (.int .i64 tr)), (3, (.int .i64 va)), (8, (.pointer (some ⟨b0, 0, none⟩))), (9, (.pointer (some ⟨b1, 0, none⟩))), (44, (.agg #[.slice a2 n2 c2, .slice a3 n3 c3])), (45, (.int .i64 m45)), (49, (.int .i64 (↑l.length : Int))), (11, (.slice (some ⟨bl, 0, none⟩) l.length c))]) (by kernel_rfl) ?_
    refine St.reg K81_16 [(0, true), (1, true)] (by kernel_rfl) (by kernel_rfl) ?_
    refine RX.q 2 [] [(12, (.int .i64 (↑i : Int))), (50, (.int .i64 (↑i : Int))), (1, (.int .i64 fo)), (2, (.int .i64 tr)), (3, (.int .i64 va)), (8, (.pointer (some ⟨b0, 0, none⟩))), (9, (.pointer (some ⟨b1, 0, none⟩))), (44, (.agg #[.slice a2 n2 c2, .slice a3 n3 c3])), (45, (.int .i64 m45)), (49, (.int .i64 (↑l.length : Int))), (11, (.slice (some ⟨bl, 0, none⟩) l.length c))] [] (by kernel_rfl) trivial ?_
    refine RX.done [(12, (.int .i64 (↑i : Int))), (50, (.int .i64 (↑i : Int))), (1, (.int .i64 fo)), (2, (.int .i64 tr)), (3, (.int .i64 va)), (8, (.pointer (some ⟨b0, 0, none⟩))), (9, (.pointer (some ⟨b1, 0, none⟩))), (44, (.agg #[.slice a2 n2 c2, .slice a3 n3 c3])), (45, (.int .i64 m45)), (49, (.int .i64 (↑l.length : Int))), (11, (.slice (some ⟨bl, 0, none⟩) l.length c))] (by kernel_rfl) (by kernel_rfl) ?_
    obtain ⟨ra, rc, hra, hrs⟩ := hrow i hil
    have hcell : vs[i]? = some (.slice ra (l.getD i []).length rc) := by rw [hsame i (Nat.le_refl _)]; exact hra
    have hmem : l.getD i [] ∈ l := by rw [List.getD_eq_getElem?_getD, List.getElem?_eq_getElem hil]; exact List.getElem_mem hil
    refine St.reg K81_17 [(0, true), (1, true), (2, true), (3, true), (4, true), (5, true), (6, false), (7, true), (8, false)] (by kernel_rfl) (by kernel_rfl) ?_
    refine RX.q 6 [(4, true, (.pointer (some ⟨bl, 0 + i * 1, none⟩))), (5, true, (.slice ra (l.getD i []).length rc))] [(53, (.slice (some ⟨bl, 0, none⟩) l.length c)), (54, (.int .i64 (↑i : Int))), (58, (.slice ra (l.getD i []).length rc)), (50, (.int .i64 (↑i : Int))), (1, (.int .i64 fo)), (2, (.int .i64 tr)), (3, (.int .i64 va)), (8, (.pointer (some ⟨b0, 0, none⟩))), (9, (.pointer (some ⟨b1, 0, none⟩))), (44, (.agg #[.slice a2 n2 c2, .slice a3 n3 c3])), (45, (.int .i64 m45)), (49, (.int .i64 (↑l.length : Int))), (11, (.slice (some ⟨bl, 0, none⟩) l.length c))] [.raw (Instr.indexAt 24 (.slice (some ⟨bl, 0, none⟩) l.length c) (.int .i64 (↑i : Int))) (.pointer (some ⟨bl, 0 + i * 1, none⟩)), .cell ⟨bl, 0 + i * 1, none⟩ (.slice ra (l.getD i []).length rc)] (by kernel_rfl) ⟨idx_sl (e := 23) (sz := 1) (by kernel_rfl) (by kernel_rfl) bl 0 l.length c i hil _, by rw [show 0 + i * 1 = i by omega]; exact Blk.cell hb (by rw [List.getElem?_append_left (by omega)]; exact hcell)⟩ ?_
    refine RX.call 59 118 #[(.slice ra (l.getD i []).length rc)] [(53, (.slice (some ⟨bl, 0, none⟩) l.length c)), (54, (.int .i64 (↑i : Int))), (58, (.slice ra (l.getD i []).length rc)), (50, (.int .i64 (↑i : Int))), (1, (.int .i64 fo)), (2, (.int .i64 tr)), (3, (.int .i64 va)), (8, (.pointer (some ⟨b0, 0, none⟩))), (9, (.pointer (some ⟨b1, 0, none⟩))), (44, (.agg #[.slice a2 n2 c2, .slice a3 n3 c3])), (45, (.int .i64 m45)), (49, (.int .i64 (↑l.length : Int))), (11, (.slice (some ⟨bl, 0, none⟩) l.length c))] (fun _ => by kernel_rfl) (by kernel_rfl) ?_
    refine Fn.mono (clone_fn (fun b o h => hu.blk (hM b o h).2 (by simp [(hM b o h).1])) hrs (hl _ hmem).1 (hl _ hmem).2) ?_
    rintro v1 w1 ⟨hx, hc1⟩
    have hcl := hc1.lt
    obtain ⟨rb, rcc, rrest, rty, rfl, -⟩ := id hc1
    have hbl := lt_of_blk hb
    have hne : rb ≠ bl := by intro e; subst e; simp only [blkN] at hcl; omega
    refine RX.q 1 [(7, true, (.pointer (some ⟨bl, 0 + i * 1, none⟩)))] [(59, (.slice (some ⟨rb, 0, none⟩) (l.getD i []).length rcc)), (60, (.pointer (some ⟨bl, 0 + i * 1, none⟩))), (50, (.int .i64 (↑i : Int))), (1, (.int .i64 fo)), (2, (.int .i64 tr)), (3, (.int .i64 va)), (8, (.pointer (some ⟨b0, 0, none⟩))), (9, (.pointer (some ⟨b1, 0, none⟩))), (44, (.agg #[.slice a2 n2 c2, .slice a3 n3 c3])), (45, (.int .i64 m45)), (49, (.int .i64 (↑l.length : Int))), (11, (.slice (some ⟨bl, 0, none⟩) l.length c))] [.raw (Instr.indexAt 24 (.slice (some ⟨bl, 0, none⟩) l.length c) (.int .i64 (↑i : Int))) (.pointer (some ⟨bl, 0 + i * 1, none⟩))] (by kernel_rfl) (idx_sl (e := 23) (sz := 1) (by kernel_rfl) (by kernel_rfl) bl 0 l.length c i hil _) ?_
    rw [show 0 + i * 1 = i by omega]
    refine RX.store1 bl i (.slice (some ⟨rb, 0, none⟩) (l.getD i []).length rcc) (vs ++ rest) ty (by kernel_rfl) rfl (hx.blk hb) (by rw [List.length_append]; omega) ?_
    intro w2 hp
    refine RX.done [(50, (.int .i64 (↑i : Int))), (1, (.int .i64 fo)), (2, (.int .i64 tr)), (3, (.int .i64 va)), (8, (.pointer (some ⟨b0, 0, none⟩))), (9, (.pointer (some ⟨b1, 0, none⟩))), (44, (.agg #[.slice a2 n2 c2, .slice a3 n3 c3])), (45, (.int .i64 m45)), (49, (.int .i64 (↑l.length : Int))), (11, (.slice (some ⟨bl, 0, none⟩) l.length c))] (by kernel_rfl) (by kernel_rfl) ?_
    refine St.reg K81_11 [(0, true), (1, true)] (by kernel_rfl) (by kernel_rfl) ?_
    refine RX.q 2 [(0, false, (.int .i64 ((↑i : Int) + 1)))] [(50, (.int .i64 ((↑i : Int) + 1))), (1, (.int .i64 fo)), (2, (.int .i64 tr)), (3, (.int .i64 va)), (8, (.pointer (some ⟨b0, 0, none⟩))), (9, (.pointer (some ⟨b1, 0, none⟩))), (44, (.agg #[.slice a2 n2 c2, .slice a3 n3 c3])), (45, (.int .i64 m45)), (49, (.int .i64 (↑l.length : Int))), (11, (.slice (some ⟨bl, 0, none⟩) l.length c))] [.eq (.int .i64 (IntKind.i64.wrap ((↑i : Int) + 1))) (.int .i64 ((↑i : Int) + 1))] (by kernel_rfl) (int64 (by omega)) ?_
    refine RX.done [(50, (.int .i64 ((↑i : Int) + 1))), (1, (.int .i64 fo)), (2, (.int .i64 tr)), (3, (.int .i64 va)), (8, (.pointer (some ⟨b0, 0, none⟩))), (9, (.pointer (some ⟨b1, 0, none⟩))), (44, (.agg #[.slice a2 n2 c2, .slice a3 n3 c3])), (45, (.int .i64 m45)), (49, (.int .i64 (↑l.length : Int))), (11, (.slice (some ⟨bl, 0, none⟩) l.length c))] (by kernel_rfl) (by kernel_rfl) ?_
    have hu1 : Upd [bl] w0 w1 := Upd.ext hu hx
    have hget : ∀ j, j ≠ i → (vs.set i (.slice (some ⟨rb, 0, none⟩) (l.getD i []).length rcc)).getD j undef = vs.getD j undef := fun j hj => by
      simp only [List.getD_eq_getElem?_getD, List.getElem?_set_ne (Ne.symm hj)]
    have hgi : (vs.set i (.slice (some ⟨rb, 0, none⟩) (l.getD i []).length rcc)).getD i undef = (.slice (some ⟨rb, 0, none⟩) (l.getD i []).length rcc) := by
      simp only [List.getD_eq_getElem?_getD, List.getElem?_set_self (show i < vs.length by omega), Option.getD_some]
    refine St.weak (by kernel_rfl) (ih _ (by omega) (i + 1) (vs.set i (.slice (some ⟨rb, 0, none⟩) (l.getD i []).length rcc)) w2 (by omega) rfl (by simpa using hlen) (hu1.trans hp.upd) (by
        have := hp.blk
        rwa [List.set_append_left _ _ (by omega)] at this) (fun j hj => ?_) (fun j k hjk hk => ?_) (fun j hj => ?_))
    · by_cases e : j = i
      · subst e
        rw [hgi]
        exact (hc1.upd hp.upd (by simp [blkN, hne])).lo hu.size
      · rw [hget j e]
        have h1 := hrw j (by omega)
        have h2 := h1.lt
        refine (h1.upd hx (by simp)).upd hp.upd ?_
        intro h; simp only [List.mem_singleton] at h
        have := lt_of_blk hB; omega
    · rw [hget j (by omega)]
      by_cases e : k = i
      · subst e
        rw [hgi]
        have := (hrw j (by omega)).lt
        omega
      · rw [hget k e]
        exact hinc j k hjk (by omega)
    · rw [List.getElem?_set_ne (by omega)]
      exact hsame j (by omega)
  exact loop _ 0 vs0 w0 (by omega) rfl hv0 (Upd.refl _ _) hB (fun j hj => by omega) (fun j k _ hk => by omega) (fun j _ => rfl)
end Go.Proofs.Ythncjilcflilcaa

namespace Go.Proofs.Ythncjilcflilcaa
set_option linter.all false
open Go

/-- Blocks that are frozen at once. -/
def frzM (M : Nat → Option Obj) (S : List Nat) (n : Nat) (w : World) : Nat → Option Obj := fun b => match M b with
  | some o => some o
  | none => if b ∈ S ∨ n ≤ b then (match w.heap[b]? with | some o => if isCel o then some o else none | none => none) else none
theorem frzM_mono {M : Nat → Option Obj} {S : List Nat} {n : Nat} {w : World} (b : Nat) (o : Obj) (h : M b = some o) : frzM M S n w b = some o := by
  unfold frzM; rw [h]
theorem frzM_new {M : Nat → Option Obj} {S : List Nat} {n : Nat} {w : World} {b : Nat} {cs : Array Value} {ty : TypeId} {z : Nat × Nat} (h : M b = none) (hb : b ∈ S ∨ n ≤ b) (hw : w.heap[b]? = some (.cells cs ty z)) : frzM M S n w b = some (.cells cs ty z) := by
  unfold frzM; rw [h]; simp only [if_pos hb, hw, isCel]; rfl
theorem frzM_inv {M : Nat → Option Obj} {S : List Nat} {n : Nat} {w : World} {b : Nat} {o : Obj} (h : frzM M S n w b = some o) : M b = some o ∨ (M b = none ∧ (b ∈ S ∨ n ≤ b) ∧ w.heap[b]? = some o ∧ isCel o = true) := by
  unfold frzM at h
  cases e : M b with
  | some o' => rw [e] at h; exact .inl h
  | none =>
    rw [e] at h
    dsimp only at h
    split at h
    · rename_i hb
      split at h
      · rename_i o' hw
        split at h
        · rename_i hc
          cases h
          exact .inr ⟨rfl, hb, hw, hc⟩
        · cases h
      · cases h
    · cases h
theorem frzM_none {M : Nat → Option Obj} {S : List Nat} {n : Nat} {w : World} {b : Nat} (h : M b = none) (hb : b ∉ S) (hn : b < n) : frzM M S n w b = none := by
  cases e : frzM M S n w b with
  | none => rfl
  | some o =>
    rcases frzM_inv e with h1 | ⟨_, h1 | h1, _⟩
    · rw [h] at h1; cases h1
    · exact absurd h1 hb
    · omega
/-- Rows, each a block of our own. -/
def RowsOK (w : World) (lo : Nat) (l : List (List Int)) (bl : Nat) : Prop := ∃ vs rest ty, Blk w bl (vs ++ rest) ty ∧ vs.length = l.length ∧ ∀ j, j < l.length → CR w lo (l.getD j []) (vs.getD j undef)
theorem RowsOK.rep {M : Nat → Option Obj} {S : List Nat} {n : Nat} {w : World} {l : List (List Int)} {bl c : Nat} (h : RowsOK w n l bl) (hM : ∀ b o, M b = some o → b < n) (hb : M bl = none) (hS : bl ∈ S ∨ n ≤ bl) (hl : l.length ≤ 1000000) (hc : l.length ≤ c) :
    RepS (frzM M S n w) 1 (RepC (frzM M S n w) (.sl (.int .i64))) l (.slice (some ⟨bl, 0, none⟩) l.length c) := by
  obtain ⟨vs, rest, ty, h1, h2, h3⟩ := h
  refine ⟨by omega, _, c, rfl, hc, .inr ⟨bl, 0, vs ++ rest, (ty, (0, 0)), rfl, frzM_new hb hS h1, fun i x hx => ?_⟩⟩
  obtain ⟨hi, rfl⟩ := List.getElem?_eq_some_iff.1 hx
  have h4 := h3 i hi
  have e : l.getD i [] = l[i] := by simp [List.getD_eq_getElem?_getD, List.getElem?_eq_getElem hi]
  rw [e] at h4
  have ev : vs[i]? = some (vs.getD i undef) := by simp [List.getD_eq_getElem?_getD, List.getElem?_eq_getElem (show i < vs.length by omega)]
  obtain ⟨b, cc, rst, ty', e2, h5, h6, h7, h8, h9⟩ := h4
  refine ⟨[vs.getD i undef], fun j u hj => ?_, vs.getD i undef, rfl, ?_⟩
  · cases j with
    | zero =>
      simp only [List.getElem?_cons_zero, Option.some.injEq] at hj
      subst hj
      simp only [Nat.mul_one, Nat.zero_add, Nat.add_zero]
      rw [List.getElem?_append_left (by omega)]; exact ev
    | succ j => simp at hj
  · rw [e2]
    have hMb : M b = none := by
      cases e3 : M b with
      | none => rfl
      | some o => have := hM b o e3; omega
    refine ⟨by omega, _, cc, rfl, h5, .inr ⟨b, 0, _, (ty', (0, 0)), rfl, frzM_new hMb (.inr h6) h9, fun k x hk => ?_⟩⟩
    refine ⟨[.int .i64 x], fun j u hj => ?_, rfl, h8 x (List.mem_of_getElem? hk)⟩
    cases j with
    | zero =>
      simp only [List.getElem?_cons_zero, Option.some.injEq] at hj
      subst hj
      simp only [Ty.cells, Nat.mul_one, Nat.zero_add, Nat.add_zero]
      rw [List.getElem?_append_left (by have := (List.getElem?_eq_some_iff.1 hk).1; simpa using this)]
      simp [hk]
    | succ j => simp at hj
/-- What is there when rows have been cloned, or there were none. -/
def DoneR (w0 w : World) (l : List (List Int)) (a : Option Addr) (bl : Nat) : Prop := (l = [] ∧ w = w0) ∨ (l ≠ [] ∧ a = some ⟨bl, 0, none⟩ ∧ ∃ vs rest ty, Cloned w0 w bl l rest vs ty)
theorem has_mem {tm : Array Value} : ∀ (L : Tms), (∀ p ∈ L, tm.getD p.1 undef = p.2) → ∀ t v, L.lookup t = some v → tm.getD t undef = v
  | [], _, t, v, h => by simp at h
  | p :: L, hL, t, v, h => by
    rw [List.lookup_cons] at h
    split at h
    · rename_i e
      have := hL p (by simp)
      simp only [beq_iff_eq] at e
      rw [e]
      simp only [Option.some.injEq] at h
      rw [← h]; exact this
    · exact has_mem L (fun q hq => hL q (by simp [hq])) t v h
end Go.Proofs.Ythncjilcflilcaa

namespace Go.Proofs.Ythncjilcflilcaa
set_option linter.all false
open Go

set_option maxHeartbeats 1000000 in
theorem known_rows1 {X : Ctx} {df : List Deferred} {M : Nat → Option Obj} (a a2 a3 : Option Addr) (n2 c2 n3 c3 b0 b1 bl c : Nat) (fo tr va m45 : Int) (l : List (List Int)) (w0 : World)
    (hM : l ≠ [] → ∀ b o, M b = some o → b ≠ bl ∧ w0.heap[b]? = some o) (hn : l.length ≤ 1000000) (hl : ∀ r ∈ l, r ≠ [] ∧ r.length ≤ 1000000) (hB : l ≠ [] → a = some ⟨bl, 0, none⟩ ∧ ∃ vs0 rest ty, Blk w0 bl (vs0 ++ rest) ty ∧ RepL M (.sl (.int .i64)) l vs0)
    (hk : ∀ w, DoneR w0 w l a bl → St Try.prog X 72 K81_15 [(1, (.int .i64 fo)), (2, (.int .i64 tr)), (3, (.int .i64 va)), (8, (.pointer (some ⟨b0, 0, none⟩))), (9, (.pointer (some ⟨b1, 0, none⟩))), (44, (.agg #[.slice a2 n2 c2, .slice a3 n3 c3])), (45, (.int .i64 m45))] df w) :
    St Try.prog X 72 K81_11 [(50, (.int .i64 0)), (1, (.int .i64 fo)), (2, (.int .i64 tr)), (3, (.int .i64 va)), (8, (.pointer (some ⟨b0, 0, none⟩))), (9, (.pointer (some ⟨b1, 0, none⟩))), (44, (.agg #[.slice a2 n2 c2, .slice a3 n3 c3])), (45, (.int .i64 m45)), (49, (.int .i64 (↑l.length : Int))), (11, (.slice a l.length c))] df w0 := by
  by_cases hl0 : l = []
  rotate_left
  · obtain ⟨rfl, vs0, rest, ty, hB1, hR⟩ := hB hl0
    exact known_rows (M := M) a2 a3 n2 c2 n3 c3 b0 b1 bl c fo tr va m45 l vs0 rest ty w0 (hM hl0) hn hl hB1 hR (fun vs w h => hk w (.inr ⟨hl0, rfl, vs, rest, ty, h⟩))
  subst hl0
  refine St.weak (L' := [(50, (.int .i64 0)), (1, (.int .i64 fo)), (2, (.int .i64 tr)), (3, (.int .i64 va)), (8, (.pointer (some ⟨b0, 0, none⟩))), (9, (.pointer (some ⟨b1, 0, none⟩))), (44, (.agg #[.slice a2 n2 c2, .slice a3 n3 c3])), (45, (.int .i64 m45)), (49, (.int .i64 0)), (11, (.slice a 0 c))]) (by kernel_rfl) ?_
  refine St.reg K81_13 [(0, true)] (by kernel_rfl) (by kernel_rfl) ?_
  refine RX.q 1 [] [(51, (.bool false)), (1, (.int .i64 fo)), (2, (.int .i64 tr)), (3, (.int .i64 va)), (8, (.pointer (some ⟨b0, 0, none⟩))), (9, (.pointer (some ⟨b1, 0, none⟩))), (44, (.agg #[.slice a2 n2 c2, .slice a3 n3 c3])), (45, (.int .i64 m45))] [] (by kernel_rfl) trivial ?_
  refine RX.done [(51, (.bool false)), (1, (.int .i64 fo)), (2, (.int .i64 tr)), (3, (.int .i64 va)), (8, (.pointer (some ⟨b0, 0, none⟩))), (9, (.pointer (some ⟨b1, 0, none⟩))), (44, (.agg #[.slice a2 n2 c2, .slice a3 n3 c3])), (45, (.int .i64 m45))] (by kernel_rfl) (by kernel_rfl) ?_
  refine St.cond (k1 := K81_14) (k2 := K81_15) false (by kernel_rfl) (fun hc => by cases hc) (fun hc => ?_)
  exact St.weak (L' := [(1, (.int .i64 fo)), (2, (.int .i64 tr)), (3, (.int .i64 va)), (8, (.pointer (some ⟨b0, 0, none⟩))), (9, (.pointer (some ⟨b1, 0, none⟩))), (44, (.agg #[.slice a2 n2 c2, .slice a3 n3 c3])), (45, (.int .i64 m45))]) (by kernel_rfl) (hk w0 (.inl ⟨rfl, rfl⟩))
theorem getD_set_self {α : Type} (l : List α) (i : Nat) (x d : α) (h : i < l.length) : (l.set i x).getD i d = x := by
  simp [List.getD_eq_getElem?_getD, h]
theorem getD_set_ne {α : Type} (l : List α) (i j : Nat) (x d : α) (h : i ≠ j) : (l.set i x).getD j d = l.getD j d := by
  simp [List.getD_eq_getElem?_getD, List.getElem?_set_ne h]
theorem Upd.trans_old {S T : List Nat} {a b c : World} (h : Upd S a b) (k : Upd T b c) (hT : ∀ x ∈ T, a.heap.size ≤ x) : Upd S a c :=
  ⟨k.os.trans h.os, k.tape.trans h.tape, k.output.trans h.output, Nat.le_trans h.size k.size, fun i hi hs => (k.same i (Nat.lt_of_lt_of_le hi h.size) (fun hk => by have := hT i hk; omega)).trans (h.same i hi hs)⟩
set_option maxHeartbeats 1000000 in
theorem known_walk {X : Ctx} {df : List Deferred} {M : Nat → Option Obj} (a2 : Option Addr) (c2 c3 b0 b1 b2 b3 f t : Nat) (va : Int) (L F : List (List Int)) (vs3 rest3 : List Value) (ty3 : TypeId) (S2 : List Nat) (w : World)
    (hM : ∀ b o, M b = some o → b ∉ S2 ++ [b3] ∧ w.heap[b]? = some o) (h12 : b1 ∉ S2 ++ [b3]) (hb1 : b1 < w.heap.size) (h2 : L ≠ [] → S2 = [b2] ∧ b2 ≠ b3 ∧ a2 = some ⟨b2, 0, none⟩ ∧ ∃ vs0 rest ty, Blk w b2 (vs0 ++ rest) ty ∧ RepL M (.sl (.int .i64)) L vs0) (h2n : L = [] → S2 = [])
    (hb3 : Blk w b3 (vs3 ++ rest3) ty3) (hR3 : RepL M (.sl (.int .i64)) F vs3) (hLn : L.length ≤ 1000000) (hFn : F.length ≤ 1000000) (hL : ∀ r ∈ L, r ≠ [] ∧ r.length ≤ 1000000) (hF : ∀ r ∈ F, r ≠ [] ∧ r.length ≤ 1000000)
    (hf : f < F.length) (ht : t < (F.getD f []).length) (hva : inR .i64 va) (hc2 : w.cell? ⟨b1, 2, none⟩ = some (.slice a2 L.length c2)) (hc3 : w.cell? ⟨b1, 3, none⟩ = some (.slice (some ⟨b3, 0, none⟩) F.length c3))
    (hk : ∀ w', Upd (S2 ++ [b3]) w w' → (L ≠ [] → RowsOK w' w.heap.size L b2) → RowsOK w' w.heap.size (F.set f ((F.getD f []).set t va)) b3 → St Try.prog X 72 K81_10 [(8, (.pointer (some ⟨b0, 0, none⟩))), (9, (.pointer (some ⟨b1, 0, none⟩)))] df w') :
    St Try.prog X 72 K81_4 [(1, (.int .i64 (↑f : Int))), (2, (.int .i64 (↑t : Int))), (3, (.int .i64 va)), (8, (.pointer (some ⟨b0, 0, none⟩))), (9, (.pointer (some ⟨b1, 0, none⟩)))] df w := by
  have hMb : ∀ b o, M b = some o → b < w.heap.size := fun b o h => lt_of_blk (hM b o h).2
  refine St.reg K81_5 [(0, true), (1, true), (2, true), (3, true), (4, true), (5, true)] (by kernel_rfl) (by kernel_rfl) ?_
  refine RX.q 6 [(1, true, (.slice a2 L.length c2)), (3, true, (.slice (some ⟨b3, 0, none⟩) F.length c3))] [(1, (.int .i64 (↑f : Int))), (2, (.int .i64 (↑t : Int))), (3, (.int .i64 va)), (8, (.pointer (some ⟨b0, 0, none⟩))), (9, (.pointer (some ⟨b1, 0, none⟩))), (44, (.agg #[(.slice a2 L.length c2), (.slice (some ⟨b3, 0, none⟩) F.length c3)])), (45, (.int .i64 0))] [.cell ⟨b1, 2, none⟩ (.slice a2 L.length c2), .cell ⟨b1, 3, none⟩ (.slice (some ⟨b3, 0, none⟩) F.length c3)] (by kernel_rfl) ⟨hc2, hc3⟩ ?_
  refine RX.done [(1, (.int .i64 (↑f : Int))), (2, (.int .i64 (↑t : Int))), (3, (.int .i64 va)), (8, (.pointer (some ⟨b0, 0, none⟩))), (9, (.pointer (some ⟨b1, 0, none⟩))), (44, (.agg #[(.slice a2 L.length c2), (.slice (some ⟨b3, 0, none⟩) F.length c3)])), (45, (.int .i64 0))] (by kernel_rfl) (by kernel_rfl) ?_
  refine St.reg K81_6 [(0, true)] (by kernel_rfl) (by kernel_rfl) ?_
  refine RX.q 1 [] [(46, (.bool true)), (1, (.int .i64 (↑f : Int))), (2, (.int .i64 (↑t : Int))), (3, (.int .i64 va)), (8, (.pointer (some ⟨b0, 0, none⟩))), (9, (.pointer (some ⟨b1, 0, none⟩))), (44, (.agg #[(.slice a2 L.length c2), (.slice (some ⟨b3, 0, none⟩) F.length c3)])), (45, (.int .i64 0))] [] (by kernel_rfl) trivial ?_
  refine RX.done [(46, (.bool true)), (1, (.int .i64 (↑f : Int))), (2, (.int .i64 (↑t : Int))), (3, (.int .i64 va)), (8, (.pointer (some ⟨b0, 0, none⟩))), (9, (.pointer (some ⟨b1, 0, none⟩))), (44, (.agg #[(.slice a2 L.length c2), (.slice (some ⟨b3, 0, none⟩) F.length c3)])), (45, (.int .i64 0))] (by kernel_rfl) (by kernel_rfl) ?_
  refine St.cond (k1 := K81_7) (k2 := K81_8) true (by kernel_rfl) (fun hc => ?_) (fun hc => by cases hc)
  refine St.weak (L' := [(1, (.int .i64 (↑f : Int))), (2, (.int .i64 (↑t : Int))), (3, (.int .i64 va)), (8, (.pointer (some ⟨b0, 0, none⟩))), (9, (.pointer (some ⟨b1, 0, none⟩))), (44, (.agg #[(.slice a2 L.length c2), (.slice (some ⟨b3, 0, none⟩) F.length c3)])), (45, (.int .i64 0))]) (by kernel_rfl) ?_
  refine St.reg K81_9 [(0, true), (1, true)] (by kernel_rfl) (by kernel_rfl) ?_
  refine RX.q 2 [] [(11, (.slice a2 L.length c2)), (1, (.int .i64 (↑f : Int))), (2, (.int .i64 (↑t : Int))), (3, (.int .i64 va)), (8, (.pointer (some ⟨b0, 0, none⟩))), (9, (.pointer (some ⟨b1, 0, none⟩))), (44, (.agg #[(.slice a2 L.length c2), (.slice (some ⟨b3, 0, none⟩) F.length c3)])), (45, (.int .i64 0))] [] (by kernel_rfl) trivial ?_
  refine RX.done [(11, (.slice a2 L.length c2)), (1, (.int .i64 (↑f : Int))), (2, (.int .i64 (↑t : Int))), (3, (.int .i64 va)), (8, (.pointer (some ⟨b0, 0, none⟩))), (9, (.pointer (some ⟨b1, 0, none⟩))), (44, (.agg #[(.slice a2 L.length c2), (.slice (some ⟨b3, 0, none⟩) F.length c3)])), (45, (.int .i64 0))] (by kernel_rfl) (by kernel_rfl) ?_
  refine St.reg K81_11 [(0, true), (1, true), (2, true)] (by kernel_rfl) (by kernel_rfl) ?_
  refine RX.q 3 [] [(50, (.int .i64 0)), (1, (.int .i64 (↑f : Int))), (2, (.int .i64 (↑t : Int))), (3, (.int .i64 va)), (8, (.pointer (some ⟨b0, 0, none⟩))), (9, (.pointer (some ⟨b1, 0, none⟩))), (44, (.agg #[(.slice a2 L.length c2), (.slice (some ⟨b3, 0, none⟩) F.length c3)])), (45, (.int .i64 0)), (49, (.int .i64 (↑L.length : Int))), (11, (.slice a2 L.length c2))] [] (by kernel_rfl) trivial ?_
  refine RX.done [(50, (.int .i64 0)), (1, (.int .i64 (↑f : Int))), (2, (.int .i64 (↑t : Int))), (3, (.int .i64 va)), (8, (.pointer (some ⟨b0, 0, none⟩))), (9, (.pointer (some ⟨b1, 0, none⟩))), (44, (.agg #[(.slice a2 L.length c2), (.slice (some ⟨b3, 0, none⟩) F.length c3)])), (45, (.int .i64 0)), (49, (.int .i64 (↑L.length : Int))), (11, (.slice a2 L.length c2))] (by kernel_rfl) (by kernel_rfl) ?_
  refine known_rows1 (M := M) a2 a2 (some ⟨b3, 0, none⟩) L.length c2 F.length c3 b0 b1 b2 c2 (↑f : Int) (↑t : Int) va 0 L w ?_ hLn hL (fun h => (h2 h).2.2) ?_
  · intro hL0 b o h
    have := (hM b o h).1
    rw [(h2 hL0).1] at this
    exact ⟨fun e => this (by simp [e]), (hM b o h).2⟩
  intro w1 hd1
  have hu1 : Upd S2 w w1 := by
    rcases hd1 with ⟨_, rfl⟩ | ⟨hL0, _, vs, rest, ty, hd⟩
    · exact Upd.refl _ _
    · rw [(h2 hL0).1]; exact hd.upd
  have h3S : b3 ∉ S2 := by
    intro h
    by_cases hL0 : L = []
    · rw [h2n hL0] at h; cases h
    · rw [(h2 hL0).1] at h; simp at h; exact (h2 hL0).2.1 h.symm
  have h1S : b1 ∉ S2 := fun h => h12 (by simp [h])
  have h13 : b1 ≠ b3 := fun h => h12 (by simp [h])
  refine St.reg K81_5 [(0, true), (1, true)] (by kernel_rfl) (by kernel_rfl) ?_
  refine RX.q 2 [] [(1, (.int .i64 (↑f : Int))), (2, (.int .i64 (↑t : Int))), (3, (.int .i64 va)), (8, (.pointer (some ⟨b0, 0, none⟩))), (9, (.pointer (some ⟨b1, 0, none⟩))), (44, (.agg #[(.slice a2 L.length c2), (.slice (some ⟨b3, 0, none⟩) F.length c3)])), (45, (.int .i64 1))] [] (by kernel_rfl) trivial ?_
  refine RX.done [(1, (.int .i64 (↑f : Int))), (2, (.int .i64 (↑t : Int))), (3, (.int .i64 va)), (8, (.pointer (some ⟨b0, 0, none⟩))), (9, (.pointer (some ⟨b1, 0, none⟩))), (44, (.agg #[(.slice a2 L.length c2), (.slice (some ⟨b3, 0, none⟩) F.length c3)])), (45, (.int .i64 1))] (by kernel_rfl) (by kernel_rfl) ?_
  refine St.reg K81_6 [(0, true)] (by kernel_rfl) (by kernel_rfl) ?_
  refine RX.q 1 [] [(46, (.bool true)), (1, (.int .i64 (↑f : Int))), (2, (.int .i64 (↑t : Int))), (3, (.int .i64 va)), (8, (.pointer (some ⟨b0, 0, none⟩))), (9, (.pointer (some ⟨b1, 0, none⟩))), (44, (.agg #[(.slice a2 L.length c2), (.slice (some ⟨b3, 0, none⟩) F.length c3)])), (45, (.int .i64 1))] [] (by kernel_rfl) trivial ?_
  refine RX.done [(46, (.bool true)), (1, (.int .i64 (↑f : Int))), (2, (.int .i64 (↑t : Int))), (3, (.int .i64 va)), (8, (.pointer (some ⟨b0, 0, none⟩))), (9, (.pointer (some ⟨b1, 0, none⟩))), (44, (.agg #[(.slice a2 L.length c2), (.slice (some ⟨b3, 0, none⟩) F.length c3)])), (45, (.int .i64 1))] (by kernel_rfl) (by kernel_rfl) ?_
  refine St.cond (k1 := K81_7) (k2 := K81_8) true (by kernel_rfl) (fun hc => ?_) (fun hc => by cases hc)
  refine St.weak (L' := [(1, (.int .i64 (↑f : Int))), (2, (.int .i64 (↑t : Int))), (3, (.int .i64 va)), (8, (.pointer (some ⟨b0, 0, none⟩))), (9, (.pointer (some ⟨b1, 0, none⟩))), (44, (.agg #[(.slice a2 L.length c2), (.slice (some ⟨b3, 0, none⟩) F.length c3)])), (45, (.int .i64 1))]) (by kernel_rfl) ?_
  refine St.reg K81_9 [(0, true), (1, true)] (by kernel_rfl) (by kernel_rfl) ?_
  refine RX.q 2 [] [(11, (.slice (some ⟨b3, 0, none⟩) F.length c3)), (1, (.int .i64 (↑f : Int))), (2, (.int .i64 (↑t : Int))), (3, (.int .i64 va)), (8, (.pointer (some ⟨b0, 0, none⟩))), (9, (.pointer (some ⟨b1, 0, none⟩))), (44, (.agg #[(.slice a2 L.length c2), (.slice (some ⟨b3, 0, none⟩) F.length c3)])), (45, (.int .i64 1))] [] (by kernel_rfl) trivial ?_
  refine RX.done [(11, (.slice (some ⟨b3, 0, none⟩) F.length c3)), (1, (.int .i64 (↑f : Int))), (2, (.int .i64 (↑t : Int))), (3, (.int .i64 va)), (8, (.pointer (some ⟨b0, 0, none⟩))), (9, (.pointer (some ⟨b1, 0, none⟩))), (44, (.agg #[(.slice a2 L.length c2), (.slice (some ⟨b3, 0, none⟩) F.length c3)])), (45, (.int .i64 1))] (by kernel_rfl) (by kernel_rfl) ?_
  refine St.reg K81_11 [(0, true), (1, true), (2, true)] (by kernel_rfl) (by kernel_rfl) ?_
  refine RX.q 3 [] [(50, (.int .i64 0)), (1, (.int .i64 (↑f : Int))), (2, (.int .i64 (↑t : Int))), (3, (.int .i64 va)), (8, (.pointer (some ⟨b0, 0, none⟩))), (9, (.pointer (some ⟨b1, 0, none⟩))), (44, (.agg #[(.slice a2 L.length c2), (.slice (some ⟨b3, 0, none⟩) F.length c3)])), (45, (.int .i64 1)), (49, (.int .i64 (↑F.length : Int))), (11, (.slice (some ⟨b3, 0, none⟩) F.length c3))] [] (by kernel_rfl) trivial ?_
  refine RX.done [(50, (.int .i64 0)), (1, (.int .i64 (↑f : Int))), (2, (.int .i64 (↑t : Int))), (3, (.int .i64 va)), (8, (.pointer (some ⟨b0, 0, none⟩))), (9, (.pointer (some ⟨b1, 0, none⟩))), (44, (.agg #[(.slice a2 L.length c2), (.slice (some ⟨b3, 0, none⟩) F.length c3)])), (45, (.int .i64 1)), (49, (.int .i64 (↑F.length : Int))), (11, (.slice (some ⟨b3, 0, none⟩) F.length c3))] (by kernel_rfl) (by kernel_rfl) ?_
  refine known_rows1 (M := M) (some ⟨b3, 0, none⟩) a2 (some ⟨b3, 0, none⟩) L.length c2 F.length c3 b0 b1 b3 c3 (↑f : Int) (↑t : Int) va 1 F w1 ?_ hFn hF (fun h => ⟨rfl, vs3, rest3, ty3, hu1.blk hb3 h3S, hR3⟩) ?_
  · intro _ b o h
    have := (hM b o h).1
    exact ⟨fun e => this (by simp [e]), hu1.blk (hM b o h).2 (fun e => this (by simp [e]))⟩
  intro w2 hd2
  obtain ⟨hF0, _⟩ | ⟨hF0, -, vs, rest, ty, hd⟩ := hd2
  · rw [hF0] at hf; simp at hf
  have hu2 := hd.upd
  refine St.reg K81_5 [(0, true), (1, true)] (by kernel_rfl) (by kernel_rfl) ?_
  refine RX.q 2 [] [(1, (.int .i64 (↑f : Int))), (2, (.int .i64 (↑t : Int))), (3, (.int .i64 va)), (8, (.pointer (some ⟨b0, 0, none⟩))), (9, (.pointer (some ⟨b1, 0, none⟩))), (44, (.agg #[(.slice a2 L.length c2), (.slice (some ⟨b3, 0, none⟩) F.length c3)])), (45, (.int .i64 2))] [] (by kernel_rfl) trivial ?_
  refine RX.done [(1, (.int .i64 (↑f : Int))), (2, (.int .i64 (↑t : Int))), (3, (.int .i64 va)), (8, (.pointer (some ⟨b0, 0, none⟩))), (9, (.pointer (some ⟨b1, 0, none⟩))), (44, (.agg #[(.slice a2 L.length c2), (.slice (some ⟨b3, 0, none⟩) F.length c3)])), (45, (.int .i64 2))] (by kernel_rfl) (by kernel_rfl) ?_
  refine St.reg K81_6 [(0, true)] (by kernel_rfl) (by kernel_rfl) ?_
  refine RX.q 1 [] [(46, (.bool false)), (1, (.int .i64 (↑f : Int))), (2, (.int .i64 (↑t : Int))), (3, (.int .i64 va)), (8, (.pointer (some ⟨b0, 0, none⟩))), (9, (.pointer (some ⟨b1, 0, none⟩)))] [] (by kernel_rfl) trivial ?_
  refine RX.done [(46, (.bool false)), (1, (.int .i64 (↑f : Int))), (2, (.int .i64 (↑t : Int))), (3, (.int .i64 va)), (8, (.pointer (some ⟨b0, 0, none⟩))), (9, (.pointer (some ⟨b1, 0, none⟩)))] (by kernel_rfl) (by kernel_rfl) ?_
  refine St.cond (k1 := K81_7) (k2 := K81_8) false (by kernel_rfl) (fun hc => by cases hc) (fun hc => ?_)
  refine St.weak (L' := [(1, (.int .i64 (↑f : Int))), (2, (.int .i64 (↑t : Int))), (3, (.int .i64 va)), (8, (.pointer (some ⟨b0, 0, none⟩))), (9, (.pointer (some ⟨b1, 0, none⟩)))]) (by kernel_rfl) ?_
  have hrf := hd.row f hf
  have hrf1 := hrf.lt
  obtain ⟨rb, rcc, rrest, rty, erb, hr1, hr2, hr3, hr4, hr5⟩ := id hrf
  have ev : vs[f]? = some (vs.getD f undef) := by simp [List.getD_eq_getElem?_getD, List.getElem?_eq_getElem (show f < vs.length by rw [hd.len]; exact hf)]
  have ev2 : (vs ++ rest)[f]? = some (.slice (some ⟨rb, 0, none⟩) (F.getD f []).length rcc) := by rw [List.getElem?_append_left (by rw [hd.len]; exact hf), ev, erb]
  refine St.reg K81_10 [(0, true), (1, true), (2, true), (3, true), (4, true), (5, true), (6, true), (7, true), (8, false)] (by kernel_rfl) (by kernel_rfl) ?_
  refine RX.q 8 [(1, true, (.slice (some ⟨b3, 0, none⟩) F.length c3)), (3, true, (.pointer (some ⟨b3, 0 + f * 1, none⟩))), (4, true, (.slice (some ⟨rb, 0, none⟩) (F.getD f []).length rcc)), (7, true, (.pointer (some ⟨rb, 0 + t * 1, none⟩)))] [(69, (.int .i64 va)), (70, (.pointer (some ⟨rb, 0 + t * 1, none⟩))), (1, (.int .i64 (↑f : Int))), (2, (.int .i64 (↑t : Int))), (3, (.int .i64 va)), (8, (.pointer (some ⟨b0, 0, none⟩))), (9, (.pointer (some ⟨b1, 0, none⟩)))] [.cell ⟨b1, 3, none⟩ (.slice (some ⟨b3, 0, none⟩) F.length c3), .raw (Instr.indexAt 24 (.slice (some ⟨b3, 0, none⟩) F.length c3) (.int .i64 (↑f : Int))) (.pointer (some ⟨b3, 0 + f * 1, none⟩)), .cell ⟨b3, 0 + f * 1, none⟩ (.slice (some ⟨rb, 0, none⟩) (F.getD f []).length rcc), .raw (Instr.indexAt 23 (.slice (some ⟨rb, 0, none⟩) (F.getD f []).length rcc) (.int .i64 (↑t : Int))) (.pointer (some ⟨rb, 0 + t * 1, none⟩))] (by kernel_rfl) ⟨hu2.cell (hu1.cell hc3 h1S) (by simp [h13]), idx_sl (e := 23) (sz := 1) (by kernel_rfl) (by kernel_rfl) b3 0 F.length c3 f hf _, by rw [show 0 + f * 1 = f by omega]; exact Blk.cell hd.blk ev2, idx_sl (e := 3) (sz := 1) (by kernel_rfl) (by kernel_rfl) rb 0 (F.getD f []).length rcc t ht _⟩ ?_
  rw [show 0 + t * 1 = t by omega]
  refine RX.store1 rb t (.int .i64 va) ((F.getD f []).map (.int .i64) ++ rrest) rty (by kernel_rfl) rfl hr5 (by rw [List.length_append, List.length_map]; omega) ?_
  intro w3 hp
  refine RX.done [(8, (.pointer (some ⟨b0, 0, none⟩))), (9, (.pointer (some ⟨b1, 0, none⟩)))] (by kernel_rfl) (by kernel_rfl) ?_
  have erb' : blkN (vs.getD f undef) = rb := by rw [erb]; rfl
  have hlow : w.heap.size ≤ w1.heap.size := hu1.size
  have hlt3 := lt_of_blk hb3
  refine hk w3 ?_ (fun hL0 => ?_) ?_
  · exact ((hu1.mono (fun k h => by simp [h])).trans (hu2.mono (fun k h => by simp at h; simp [h]))).trans_old hp.upd (fun k h => by simp at h; subst h; omega)
  · obtain ⟨h, _⟩ | ⟨_, _, vs', rest', ty', hd'⟩ := hd1
    · exact absurd h hL0
    have hlt2 : b2 < w1.heap.size := lt_of_blk hd'.blk
    have hb23 := (h2 hL0).2.1
    refine ⟨vs', rest', ty', hp.upd.blk (hu2.blk hd'.blk (by simp [hb23])) (by simp; omega), hd'.len, fun j hj => ?_⟩
    have h := hd'.row j hj
    have hl := h.lt
    exact (h.upd hu2 (by rw [List.mem_singleton]; omega)).upd hp.upd (by rw [List.mem_singleton]; omega)
  · refine ⟨vs, rest, ty, hp.upd.blk hd.blk (by simp; omega), by rw [hd.len]; simp, fun j hj => ?_⟩
    simp only [List.length_set] at hj
    by_cases e : j = f
    · subst e
      rw [getD_set_self _ _ _ _ hf, erb]
      refine ⟨rb, rcc, rrest, rty, by simp, by simpa using hr1, by omega, by simpa using hr3, fun x hx => ?_, ?_⟩
      · rcases List.mem_or_eq_of_mem_set hx with h | h
        · exact hr4 x h
        · subst h; exact hva
      · have := hp.blk
        rw [List.set_append_left _ _ (by simpa using ht)] at this
        rw [List.map_set]; exact this
    · rw [getD_set_ne _ _ _ _ _ (Ne.symm e)]
      refine ((hd.row j hj).upd hp.upd ?_).lo hlow
      simp only [List.mem_singleton]
      intro h
      rcases Nat.lt_or_ge j f with h1 | h1
      · have := hd.inc j f h1 hf; omega
      · have := hd.inc f j (by omega) hj; omega

end Go.Proofs.Ythncjilcflilcaa

namespace Go.Proofs.Ythncjilcflilcaa
set_option linter.all false
open Go

/-- A list of our own comes out of a call. -/
theorem own_new {y : Ty} {g : Gh} {w w' : World} {l : List y.den} {v : Value} {h0 : Nat → Option Blk'} (hs : Sim g h0 w) (hρ : ∀ i, g.ρ i = none) (hE : Ext w w') (hl : l.length ≤ 1000000)
    (hv : (v = .slice none 0 0 ∧ l = []) ∨ ∃ b c vs rest ty, v = .slice (some ⟨b, 0, none⟩) l.length c ∧ w.heap.size ≤ b ∧ Blk w' b (vs ++ rest) ty ∧ RepL g.M y l vs ∧ (l.length ≤ c ∧ c ≤ 9223372036854775807) ∧ rest.length = (c - l.length) * y.cells) :
    ∃ g', Stp (Sw g h0 (List.range 0)) (fun i => 0 ≤ i ∧ i < 1) g w g' w' ∧ Sim g' (fun i => ([.lst y l] : List Blk')[i]?) w' ∧ RepV g' (.ols 0) v := by
  have hlt : ∀ b o, g.M b = some o → b < w.heap.size := fun b o h => lt_of_blk (hs.mem b o h)
  have hsame : ∀ i, i < w.heap.size → w'.heap[i]? = w.heap[i]? := fun i hi => hE.same i hi (by simp)
  have key : ∀ x : Option (Nat × Nat × Nat), (∀ b c n, x = some (b, c, n) → w.heap.size ≤ b) → RepBlk (newG g 0 x) w' 0 (.lst y l) → RepV (newG g 0 x) (.ols 0) v →
      ∃ g', Stp (Sw g h0 (List.range 0)) (fun i => 0 ≤ i ∧ i < 1) g w g' w' ∧ Sim g' (fun i => ([.lst y l] : List Blk')[i]?) w' ∧ RepV g' (.ols 0) v := by
    intro x hx hB hV
    refine ⟨newG g 0 x, ⟨hE.os, hE.tape, hE.output, hE.size, fun i hi _ => hsame i hi, newG_ge (hρ 0), fun i h2 h3 => ?_, fun i b' c' n' h2 h3 => ?_, fun b' o h2 => .inl h2⟩, ⟨fun b' o h2 => ?_, fun i k hk => ?_, fun i j ki kj b ci ni cj nj hi hj mi mj ei ej => ?_⟩, hV⟩
    · by_cases e : i = 0
      · omega
      · simp only [newG, if_neg e] at h3
        exact absurd h2 h3
    · by_cases e : i = 0
      · subst e
        rw [newG_self] at h3
        exact .inl (hx _ _ _ (Option.some.inj h3))
      · simp only [newG, if_neg e] at h3
        rw [h2] at h3; cases h3
    · have h2' : g.M b' = some o := h2
      rw [hsame b' (hlt b' o h2')]
      exact hs.mem b' o h2'
    · match i, hk with
      | 0, hk => simp at hk; subst hk; exact hB
      | i + 1, hk => simp at hk
    · match i, j, hi, hj with
      | 0, 0, _, _ => rfl
      | i + 1, _, hi, _ => simp at hi
      | _, j + 1, _, hj => simp at hj
  rcases hv with ⟨rfl, rfl⟩ | ⟨b, c, vs, rest, ty, rfl, hb, hB, hR, hc, hr⟩
  · exact key none (fun _ _ _ h => by cases h) ⟨by simp, .inl ⟨newG_self _ _ _, rfl⟩⟩ (.inl ⟨newG_self _ _ _, rfl⟩)
  · have hMb : g.M b = none := by
      cases e : g.M b with
      | none => rfl
      | some o => have := hlt b o e; omega
    refine key (some (b, c, l.length)) (fun b' c' n' h => ?_) ⟨hl, .inr ⟨b, c, vs, rest, ty, newG_self _ _ _, hB, hR, hc, hr, hMb⟩⟩ (.inr ⟨b, c, l.length, newG_self _ _ _, rfl⟩)
    simp only [Option.some.injEq, Prod.mk.injEq] at h
    omega

/-! ### Clone -/
noncomputable def c118 : Code := (Try.f118.body).getD .skip
noncomputable def K118_0 : List Item := [.code (sub c118 [0]), .code (sub c118 [1])]
noncomputable def K118_1 : List Item := [.code (sub c118 [1, 0, 0]), .code (sub c118 [1, 0, 1]), .code (sub c118 [1, 1])]
noncomputable def K118_2 : List Item := [.code (sub c118 [1, 0, 1]), .code (sub c118 [1, 1])]
noncomputable def K118_3 : List Item := [.code (sub c118 [1, 0, 1, 0, 0]), .code (sub c118 [1, 0, 1, 0, 1]), .code (sub c118 [1, 1])]
noncomputable def K118_4 : List Item := [.code (sub c118 [1, 1, 0]), .code (sub c118 [1, 1, 1])]
noncomputable def K118_5 : List Item := [.code (sub c118 [1, 0, 1, 0, 1]), .code (sub c118 [1, 1])]
noncomputable def K118_6 : List Item := [.code (sub c118 [1, 1, 1])]
theorem clone_nil (a : Option Addr) (c : Nat) (w : World) : Fn Try.prog 118 #[.slice a 0 c] w (fun v w' => Ext w w' ∧ ∃ a' c', v = .slice a' 0 c') := by
  refine Fn.ofSt (c := c118) 8 K118_0 [(0, .slice a 0 c)] Try.func118 (by kernel_rfl) ⟨⟨rfl, by kernel_rfl⟩, by kernel_rfl⟩ (by kernel_rfl) ?_
  intro cs
  refine St.reg K118_1 [(0, true)] (by kernel_rfl) (by kernel_rfl) ?_
  refine RX.q 1 [] [(0, .slice a 0 c)] [] (by kernel_rfl) trivial ?_
  refine RX.done [(0, .slice a 0 c)] (by kernel_rfl) (by kernel_rfl) ?_
  cases a with
  | none =>
    refine St.reg K118_2 [(0, true), (1, true)] (by kernel_rfl) (by kernel_rfl) ?_
    refine RX.q 2 [] [(4, .bool true)] [] (by kernel_rfl) trivial ?_
    refine RX.done [(4, .bool true)] (by kernel_rfl) (by kernel_rfl) ?_
    refine St.cond (k1 := K118_3) (k2 := K118_4) true (by kernel_rfl) (fun _ => ?_) (fun hc => by cases hc)
    refine St.weak (L' := []) (by kernel_rfl) ?_
    refine St.reg K118_5 [(0, true)] (by kernel_rfl) (by kernel_rfl) ?_
    refine RX.q 1 [] [(2, .slice none 0 0)] [] (by kernel_rfl) trivial ?_
    refine RX.done [(2, .slice none 0 0)] (by kernel_rfl) (by kernel_rfl) ?_
    refine St.ret [.tmp 2] [.slice none 0 0] (by kernel_rfl) Try.func118 (by kernel_rfl) (.cons (.tmp (by kernel_rfl)) .nil) ?_
    exact ⟨Upd.refl _ _, none, 0, rfl⟩
  | some p =>
    refine St.reg K118_2 [(0, true), (1, true)] (by kernel_rfl) (by kernel_rfl) ?_
    refine RX.q 2 [] [(4, .bool false), (0, .slice (some p) 0 c)] [] (by kernel_rfl) trivial ?_
    refine RX.done [(4, .bool false), (0, .slice (some p) 0 c)] (by kernel_rfl) (by kernel_rfl) ?_
    refine St.cond (k1 := K118_3) (k2 := K118_4) false (by kernel_rfl) (fun hc => by cases hc) (fun _ => ?_)
    refine St.weak (L' := [(0, .slice (some p) 0 c)]) (by kernel_rfl) ?_
    obtain ⟨hue, hel, by_, zv, hT, hZ⟩ := elemT_of (P := Try.prog) (t := 23) (e := 3) (y := .int .i64) (by kernel_rfl)
    have hT : ElemT Try.prog 23 3 1 by_ zv := hT
    refine St.reg K118_6 [(0, false), (1, true), (2, false), (3, true)] (by kernel_rfl) (by kernel_rfl) ?_
    refine RX.new 5 (.cells #[] 3) (.sl 0) [(0, .slice (some p) 0 c)] (by kernel_rfl) ?_
    intro b w1 hn
    have hsz := hn.size; have hat := hn.at_
    have hb : Blk w1 b [] 3 := hn.blk
    refine RX.q 1 [] [(5, .slice (some ⟨b, 0, none⟩) 0 0), (6, .slice (some p) 0 c)] [] (by kernel_rfl) trivial ?_
    obtain ⟨v', w2, ab', hr, hA, hU, -, -⟩ := append_run (P := Try.prog) (u := 23) (ty := 23) (lo := b) (lo2 := 0) (w := w1) (v := .slice (some ⟨b, 0, none⟩) 0 0) (x := .slice (some p) 0 c) (n := 0) (m := 0) (cs := []) (xs := []) (ab := [b]) hT (by kernel_rfl) ⟨rfl, .inr ⟨b, 0, [], rfl, rfl, Nat.le_refl _, ⟨Nat.le_refl _, by omega⟩, rfl, 3, hb⟩⟩ ⟨some p, c, rfl, Nat.zero_le _, rfl, .inl rfl⟩ (fun _ h => by cases h) (by omega) (by omega)
    refine RX.run 7 (Builtin.append_ #[23, 23] 23 #[.slice (some ⟨b, 0, none⟩) 0 0, .slice (some p) 0 c]) [(5, .slice (some ⟨b, 0, none⟩) 0 0), (6, .slice (some p) 0 c)] (by kernel_rfl) hr ?_
    refine RX.q 1 [] [(2, v')] [] (by kernel_rfl) trivial ?_
    refine RX.done [(2, v')] (by kernel_rfl) (by kernel_rfl) ?_
    refine St.ret [.tmp 2] [v'] (by kernel_rfl) Try.func118 (by kernel_rfl) (.cons (.tmp (by kernel_rfl)) .nil) ?_
    obtain ⟨a', c', e⟩ := hA.shape
    refine ⟨?_, a', c', e⟩
    exact (hn.ext.trans_old hU (fun k hk => by simp at hk; subst hk; omega))
def clone_S (_N : Nat) (s : Li) : Option Li := lim s.length (some s)
noncomputable def sp_clone (N : Nat) : Spec := { f := 118, ins := ⟨[shL], []⟩, outs := [⟨[shL], []⟩], run := fun p k => (clone_S N p.1.1).bind fun r => k ((r, ()), ()) }
theorem sp_clone_ok (N : Nat) : SpecOK Try.prog (sp_clone N) := by
  refine ⟨fun Z p κ => ?_, fun args w => Sem.pv_run _ _ _ (by kernel_rfl) w, fun p r hpr g w vs hv hs hρ => ?_⟩
  · show ((clone_S N p.1.1).bind _) = ((clone_S N p.1.1).bind _).bind κ
    cases clone_S N p.1.1 <;> rfl
  · obtain ⟨⟨(l : Li), ⟨⟩⟩, ⟨⟩⟩ := p
    have hpr' : (lim l.length (some l)).bind (fun r : Li => some (((r, ()), ()) : (Li × Unit) × Unit)) = some r := hpr
    by_cases h : l = []
    · subst h
      simp only [encs, enc, RepVs, RepV] at hv
      have e : ((([] : Li), ()), ()) = r := Option.some.inj hpr'
      subst e
      obtain ⟨v, us, rfl, hv, rfl⟩ := hv
      obtain ⟨_, a, c, rfl, _⟩ := hv
      refine Fn.mono (clone_nil a c w) ?_
      rintro v' w' ⟨hE, a', c', rfl⟩
      have hlt : ∀ b o, g.M b = some o → b < w.heap.size := fun b o h => lt_of_blk (hs.mem b o h)
      refine ⟨g, ⟨hE.os, hE.tape, hE.output, hE.size, fun i hi _ => hE.same i hi (fun h => by cases h), GE.refl g, fun _ h h' => absurd h h', fun _ _ _ _ h h' => (by rw [h] at h'; cases h'), fun _ _ h => .inl h⟩, ⟨fun b o h => ?_, fun i k hk => ?_, fun i j ki kj b ci ni cj nj hi => ?_⟩, ?_⟩
      · exact (hE.same b (hlt b o h) (fun h => by cases h)).trans (hs.mem b o h)
      · have hk : ([] : List Blk')[i]? = some k := hk
        rw [List.getElem?_nil] at hk; cases hk
      · have hk : ([] : List Blk')[i]? = some ki := hi
        rw [List.getElem?_nil] at hk; cases hk
      · exact ⟨Nat.zero_le _, a', c', rfl, Nat.zero_le _, .inl rfl⟩
    · refine (sp_clonee_ok N).fn ((l, ()), ()) r ?_ g w vs hv hs hρ
      show ((clonee_S N l).bind fun r => some ((r, ()), ())) = some r
      unfold clonee_S
      rw [grd_eq (by simp [h])]
      simpa using hpr'

/-! ### Grow -/
end Go.Proofs.Ythncjilcflilcaa

namespace Go.Proofs.Ythncjilcflilcaa
set_option linter.all false
open Go

def known_j2 (N : Nat) (g : Int) (out : Li) (out2 : Int) (out3 : Ll) (out4 : Ll) (out5 : Li) : Option (Li × Int × Ll × Ll × Li) :=
  some (out, out2, out3, out4, out5)
def known_j1 (N : Nat) (found : Int) (trait : Int) (value : Int) (g : Int) (out : Li) (out2 : Int) (out3 : Li) (out4 : Ll) (out5 : Ll) : Option (Li × Int × Ll × Ll × Li) :=
  if ((0 ≤ found ∧ found < out5.length) ∧ 0 ≤ trait ∧ trait < (out5.getD found.toNat []).length) ∧ (∀ r ∈ out4, r ≠ [] ∧ r.length ≤ 1000000) ∧ ∀ r ∈ out5, r ≠ [] ∧ r.length ≤ 1000000 then
    known_j2 N g out out2 out4 (out5.set found.toNat ((out5.getD found.toNat []).set trait.toNat value)) out3
  else none
def known_S (N : Nat) (d : Li) (d2 : Int) (d3 : Ll) (d4 : Ll) (d5 : Li) (found : Int) (trait : Int) (value : Int) : Option (Li × Int × Ll × Ll × Li) :=
  (clone_S N d).bind fun x_1 =>
  grd (lmI (d3.length : Int)) <|
  grd (lmI (d4.length : Int)) <|
  (clone_S N d5).bind fun x_2 =>
  known_j1 N found trait value 0 x_1 d2 x_2 (d3.take (min d3.length (List.replicate (d3.length : Int).toNat ([] : Li)).length) ++ (List.replicate (d3.length : Int).toNat ([] : Li)).drop (min d3.length (List.replicate (d3.length : Int).toNat ([] : Li)).length)) (d4.take (min d4.length (List.replicate (d4.length : Int).toNat ([] : Li)).length) ++ (List.replicate (d4.length : Int).toNat ([] : Li)).drop (min d4.length (List.replicate (d4.length : Int).toNat ([] : Li)).length))
noncomputable def known_sp (N : Nat) : List Spec := [sp_clone N]
theorem known_all (N : Nat) : AllP (SpecOK Try.prog) (known_sp N) := ⟨sp_clone_ok N, trivial⟩
noncomputable def known_c : Code := (Try.f81.body).getD .skip
noncomputable abbrev known_B : Body := { c := known_c, n := 72, res := [.cell 8 26], outs := [⟨[shG], []⟩], m0 := 0 }
abbrev known_rt : altD known_B.outs → Option (Li × Int × Ll × Ll × Li) := fun r => some (r.1.1.1, r.1.1.2.1, r.1.1.2.2.1, r.1.1.2.2.2.1, r.1.1.2.2.2.2.1)
abbrev known_j2_at : List PI := [.c [1, 1, 1, 1, 1, 1, 0], .c [1, 1, 1, 1, 1, 1, 1]]
abbrev known_j2_st : Sta := ⟨[8, 9], ⟨[.own 0 0, .own 1 0], [.segs [.nils, shI, .nils, .nils, .nils], .segs [shL, shI, shQ, shQ, shL], .dead, .dead]⟩⟩
abbrev known_j2_k (N : Nat) : Leaf (Li × Int × Ll × Ll × Li) := ⟨known_j2_at, known_j2_st, fun p => known_j2 N p.2.1.2.1 p.2.2.1.1 p.2.2.1.2.1 p.2.2.1.2.2.1 p.2.2.1.2.2.2.1 p.2.2.1.2.2.2.2.1⟩
theorem known_j2_eq (N : Nat) (g : Int) (out : Li) (out2 : Int) (out3 : Ll) (out4 : Ll) (out5 : Li) : ev (Z := Li × Int × Ll × Ll × Li) Try.prog (known_sp N) known_B [] [] (some known_rt) 400 true known_j2_at (stL known_j2_st (((), (), ()), (((), g, (), (), (), ()), (out, out2, out3, out4, out5, ()), (), (), ()))) (stH known_j2_st (((), (), ()), (((), g, (), (), (), ()), (out, out2, out3, out4, out5, ()), (), (), ()))) = known_j2 N g out out2 out3 out4 out5 := by kernel_rfl
theorem known_j2_lf (N : Nat) {z : Li × Int × Ll × Ll × Li} {E : EE} {Xc : Ctx} (hE : EOK known_B.m0 E) (hX : CxOK true Xc) (hret : RetOK Try.prog known_B E Xc z (some known_rt)) : LeafOK Try.prog known_B.c known_B.n known_B.m0 E Xc z (known_j2_k N) := leaf_of_ev (B := known_B) (loops := []) (leaves := []) (known_all N) mixed trivial hE hX trivial hret (fun p => known_j2_eq N p.2.1.2.1 p.2.2.1.1 p.2.2.1.2.1 p.2.2.1.2.2.1 p.2.2.1.2.2.2.1 p.2.2.1.2.2.2.2.1)
abbrev known_j1_at : List PI := [.c [1, 1, 1, 1, 0, 0], .c [1, 1, 1, 1, 0, 1], .c [1, 1, 1, 1, 1]]
abbrev known_j1_st : Sta := ⟨[1, 2, 3, 8, 9], ⟨[shI, shI, shI, .own 0 0, .own 1 0], [.segs [.nils, shI, .nils, .nils, .nils], .segs [shL, shI, .ols 2, .ols 3, shL], .lst (.sl (.int .i64)), .lst (.sl (.int .i64))]⟩⟩
abbrev known_j1_k (N : Nat) : Leaf (Li × Int × Ll × Ll × Li) := ⟨known_j1_at, known_j1_st, fun p => known_j1 N p.1.1 p.1.2.1 p.1.2.2.1 p.2.1.2.1 p.2.2.1.1 p.2.2.1.2.1 p.2.2.1.2.2.2.2.1 p.2.2.2.1 p.2.2.2.2.1⟩
theorem known_j1_lf (N : Nat) {z : Li × Int × Ll × Ll × Li} {E : EE} {Xc : Ctx} (hE : EOK known_B.m0 E) (hX : CxOK true Xc) (hret : RetOK Try.prog known_B E Xc z (some known_rt)) : LeafOK Try.prog known_B.c known_B.n known_B.m0 E Xc z (known_j1_k N) := by
  rintro ⟨⟨fo, tr, va, u1, u2, u3⟩, ⟨u4, g0, u5, u6, u7, u8⟩, ⟨W, s, u9, u10, R, u11⟩, L, F, u12⟩ hfn a w hS
  have hfn : known_j1 N fo tr va g0 W s R L F = some z := hfn
  unfold known_j1 at hfn
  split at hfn
  rotate_left
  · cases hfn
  rename_i hc
  obtain ⟨⟨⟨hf0, hf1⟩, ht0, ht1⟩, hL, hF⟩ := hc
  obtain ⟨f, rfl⟩ : ∃ f : Nat, fo = f := ⟨fo.toNat, (Int.toNat_of_nonneg hf0).symm⟩
  obtain ⟨t, rfl⟩ : ∃ t : Nat, tr = t := ⟨tr.toNat, (Int.toNat_of_nonneg ht0).symm⟩
  simp only [Int.toNat_natCast] at hfn ht1
  have hf : f < F.length := by omega
  have ht : t < (F.getD f []).length := by omega
  obtain ⟨⟨g, hs, htm, hi, he⟩, hsz, hm⟩ := hS
  have h1 : RepV g (.i .i64 f) (a.tmps.getD 1 undef) := htm 1 _ rfl
  have h2 : RepV g (.i .i64 t) (a.tmps.getD 2 undef) := htm 2 _ rfl
  have h3 : RepV g (.i .i64 va) (a.tmps.getD 3 undef) := htm 3 _ rfl
  have h8 : RepV g (.own 0 0) (a.tmps.getD 8 undef) := htm 8 _ rfl
  have h9 : RepV g (.own 1 0) (a.tmps.getD 9 undef) := htm 9 _ rfl
  have hB0 : RepBlk g w 0 (.segs [.nils, .i .i64 g0, .nils, .nils, .nils]) := hs.blk 0 _ rfl
  have hB1 : RepBlk g w 1 (.segs [.sl (.int .i64) W, .i .i64 s, .ols 2, .ols 3, .sl (.int .i64) R]) := hs.blk 1 _ rfl
  have hB2 : RepBlk g w 2 (.lst (.sl (.int .i64)) L) := hs.blk 2 _ rfl
  have hB3 : RepBlk g w 3 (.lst (.sl (.int .i64)) F) := hs.blk 3 _ rfl
  have hdis : ∀ i j b ci ni cj nj, i < 4 → j < 4 → g.ρ i = some (some (b, ci, ni)) → g.ρ j = some (some (b, cj, nj)) → i = j := fun i j b ci ni cj nj hi hj e1 e2 => by
    have hk : ∀ i, i < 4 → ∃ k, (stH known_j1_st (((↑f : Int), (↑t : Int), va, u1, u2, u3), (u4, g0, u5, u6, u7, u8), (W, s, u9, u10, R, u11), L, F, u12))[i]? = some k ∧ k.mut = true := fun i hi => by
      match i, hi with
      | 0, _ => exact ⟨_, rfl, rfl⟩
      | 1, _ => exact ⟨_, rfl, rfl⟩
      | 2, _ => exact ⟨_, rfl, rfl⟩
      | 3, _ => exact ⟨_, rfl, rfl⟩
    obtain ⟨ki, x1, x2⟩ := hk i hi
    obtain ⟨kj, y1, y2⟩ := hk j hj
    exact hs.inj i j ki kj b ci ni cj nj x1 y1 x2 y2 e1 e2
  simp only [RepV] at h1 h2 h3 h8 h9
  obtain ⟨b0, c0, n0, us0, ty0, e0, hb0, hp0, hm0⟩ := hB0
  obtain ⟨b1, c1, n1, us1, ty1, e1, hb1, hp1, hm1⟩ := hB1
  obtain ⟨_, _, _, e8, h8⟩ := h8
  rw [e0] at e8; cases e8
  obtain ⟨_, _, _, e9, h9⟩ := h9
  rw [e1] at e9; cases e9
  simp only [RepPs, PartOf, RepV] at hp1
  obtain ⟨_, _, rfl, ⟨vW, rfl, hW⟩, _, _, rfl, ⟨vs_, rfl, hs_⟩, _, _, rfl, ⟨v2, rfl, hv2⟩, _, _, rfl, ⟨v3, rfl, hv3⟩, _, _, rfl, ⟨vR, rfl, hR⟩, rfl⟩ := hp1
  obtain ⟨hLn, hB2⟩ := hB2
  obtain ⟨hFn, hB3⟩ := hB3
  obtain ⟨e3, hF0⟩ | ⟨b3, c3, vs3, rest3, ty3, e3, hb3, hR3, ⟨hc3, hc3'⟩, hrl3, hm3⟩ := hB3
  · rw [hF0] at hf; simp at hf
  rw [e3] at hv3
  obtain ⟨h, _⟩ | ⟨_, _, _, h, rfl⟩ := hv3
  · cases h
  cases h
  obtain ⟨a2, c2, b2, S2, rfl, hL2, hL2n, hS2, hL2c⟩ : ∃ (a2 : Option Addr) (c2 b2 : Nat) (S2 : List Nat), v2 = .slice a2 L.length c2 ∧ (L ≠ [] → S2 = [b2] ∧ b2 ≠ b3 ∧ a2 = some ⟨b2, 0, none⟩ ∧ ∃ vs0 rest ty, Blk w b2 (vs0 ++ rest) ty ∧ RepL g.M (.sl (.int .i64)) L vs0) ∧ (L = [] → S2 = []) ∧
      (∀ b ∈ S2, g.M b = none ∧ ∃ c n, g.ρ 2 = some (some (b, c, n))) ∧ L.length ≤ c2 := by
    obtain ⟨e2, hL0⟩ | ⟨b2, c2, vs2, rest2, ty2, e2, hb2, hR2, ⟨hc2, hc2'⟩, hrl2, hm2⟩ := hB2
    · rw [e2] at hv2
      subst hL0
      obtain ⟨_, rfl⟩ | ⟨_, _, _, h, _⟩ := hv2
      · exact ⟨none, 0, 0, [], rfl, fun h => absurd rfl h, fun _ => rfl, fun b hb => (by cases hb), Nat.le_refl _⟩
      · cases h
    · rw [e2] at hv2
      obtain ⟨h, _⟩ | ⟨_, _, _, h, rfl⟩ := hv2
      · cases h
      cases h
      by_cases hL0 : L = []
      · exact ⟨_, c2, 0, [], rfl, fun h => absurd hL0 h, fun _ => rfl, fun b hb => (by cases hb), hc2⟩
      · refine ⟨_, c2, b2, [b2], rfl, fun _ => ⟨rfl, fun e => ?_, rfl, vs2, rest2, ty2, hb2, hR2⟩, fun h => absurd h hL0, fun b hb => ?_, hc2⟩
        · subst e
          have := hdis 2 3 _ _ _ _ _ (by omega) (by omega) e2 e3
          omega
        · simp only [List.mem_singleton] at hb
          subst hb
          exact ⟨hm2, _, _, e2⟩
  have hlt0 := lt_of_blk hb0
  have hlt1 := lt_of_blk hb1
  have hlt3 := lt_of_blk hb3
  have hSid : ∀ b ∈ S2 ++ [b3], g.M b = none ∧ ∃ i c n, (i = 2 ∨ i = 3) ∧ g.ρ i = some (some (b, c, n)) := fun b hb => by
    rcases List.mem_append.1 hb with h | h
    · obtain ⟨x, c, n, y⟩ := hS2 b h
      exact ⟨x, 2, c, n, .inl rfl, y⟩
    · simp only [List.mem_singleton] at h
      subst h
      exact ⟨hm3, 3, _, _, .inr rfl, e3⟩
  have h0S : b0 ∉ S2 ++ [b3] := fun h => by
    obtain ⟨_, i, c, n, hi, e⟩ := hSid _ h
    have := hdis 0 i _ _ _ _ _ (by omega) (by omega) e0 e
    omega
  have h1S : b1 ∉ S2 ++ [b3] := fun h => by
    obtain ⟨_, i, c, n, hi, e⟩ := hSid _ h
    have := hdis 1 i _ _ _ _ _ (by omega) (by omega) e1 e
    omega
  have hMw : ∀ b o, g.M b = some o → b ∉ S2 ++ [b3] ∧ w.heap[b]? = some o := fun b o h => ⟨fun hb => (by rw [(hSid b hb).1] at h; cases h), hs.mem b o h⟩
  have hwalk := known_walk (X := Xc) (df := a.defers) (M := g.M) a2 c2 _ b0 b1 b2 b3 f t va L F vs3 rest3 ty3 S2 w hMw h1S hlt1 hL2 hL2n hb3 hR3 hLn hFn hL hF hf ht h3.2 (Blk.cell hb1 rfl) (Blk.cell hb1 rfl) (fun w' hu hRL hRF => ?_)
  · have e : (known_j1_k N).at_.map (itm known_B.c) = K81_4 := by kernel_rfl
    rw [e]
    refine St.toAt (tm := a.tmps) hwalk ⟨hsz, has_mem _ (fun x hx => ?_)⟩
    simp only [List.mem_cons, List.not_mem_nil, or_false] at hx
    rcases hx with rfl | rfl | rfl | rfl | rfl
    · exact h1.1
    · exact h2.1
    · exact h3.1
    · exact h8
    · exact h9
  · intro tm htm'
    have e : (known_j2_k N).at_.map (itm known_B.c) = K81_10 := by kernel_rfl
    rw [← e]
    have hge : GE g ⟨g.ρ, frzM g.M (S2 ++ [b3]) w.heap.size w'⟩ := ⟨fun _ _ h => h, frzM_mono⟩
    have hMlt : ∀ b o, g.M b = some o → b < w.heap.size := fun b o h => lt_of_blk (hs.mem b o h)
    have hrepL : RepS (frzM g.M (S2 ++ [b3]) w.heap.size w') 1 (RepC (frzM g.M (S2 ++ [b3]) w.heap.size w') (.sl (.int .i64))) L (.slice a2 L.length c2) := by
      by_cases hL0 : L = []
      · exact ⟨by omega, a2, c2, rfl, hL2c, .inl hL0⟩
      · obtain ⟨x1, x2, rfl, _⟩ := hL2 hL0
        exact RowsOK.rep (hRL hL0) hMlt (hS2 b2 (by rw [x1]; simp)).1 (.inl (by rw [x1]; simp)) hLn hL2c
    have hrepF := RowsOK.rep (S := S2 ++ [b3]) (c := c3) hRF hMlt hm3 (.inl (by simp)) (by simpa using hFn) (by simpa using hc3)
    rw [List.length_set] at hrepF
    refine known_j2_lf N hE hX hret (((), (), ()), ((), g0, (), (), (), ()), (W, s, L, F.set f ((F.getD f []).set t va), R, ()), (), (), ()) hfn _ _ ⟨⟨⟨g.ρ, frzM g.M (S2 ++ [b3]) w.heap.size w'⟩, ⟨fun b o h => ?_, fun id k hk => ?_, fun i j ki kj b ci ni cj nj x1 y1 x2 y2 z1 z2 => ?_⟩, ?_, fun i hi' => hi i hi', ?_⟩, htm'.1, hm⟩
    · rcases frzM_inv h with h | ⟨_, _, h, _⟩
      · exact hu.blk (hs.mem b o h) (hMw b o h).1
      · exact h
    · match id, hk with
      | 0, hk =>
        cases hk
        exact ⟨b0, c0, n0, us0, ty0, e0, hu.blk hb0 h0S, RepPs.mono hge _ _ hp0, frzM_none hm0 h0S hlt0⟩
      | 1, hk =>
        cases hk
        exact ⟨b1, c1, n1, _, ty1, e1, hu.blk hb1 h1S, ⟨_, _, rfl, ⟨_, rfl, RepS.mono hW frzM_mono (fun _ _ h => h)⟩, _, _, rfl, ⟨_, rfl, hs_⟩, _, _, rfl, ⟨_, rfl, hrepL⟩, _, _, rfl, ⟨_, rfl, hrepF⟩, _, _, rfl, ⟨_, rfl, RepS.mono hR frzM_mono (fun _ _ h => h)⟩, rfl⟩, frzM_none hm1 h1S hlt1⟩
      | 2, hk => cases hk; trivial
      | 3, hk => cases hk; trivial
      | n + 4, hk => cases hk
    · have hlt : ∀ i k, (stH known_j2_st (((), (), ()), ((), g0, (), (), (), ()), (W, s, L, F.set f ((F.getD f []).set t va), R, ()), (), (), ()))[i]? = some k → k.mut = true → i < 4 := fun i k h1 h2 => by
        match i, h1 with
        | 0, _ => omega
        | 1, _ => omega
        | 2, _ => omega
        | 3, _ => omega
        | n + 4, h => cases h
      exact hdis i j _ _ _ _ _ (hlt i ki x1 x2) (hlt j kj y1 y2) z1 z2
    · exact zip_tmF [8, 9] _ ⟨_, _, rfl, ⟨b0, c0, n0, e0, htm'.2 8 _ rfl⟩, _, _, rfl, ⟨b1, c1, n1, e1, htm'.2 9 _ rfl⟩, rfl⟩
    · have hSw : ∀ b ∈ S2 ++ [b3], Sw g (fun i => (stH known_j1_st (((↑f : Int), (↑t : Int), va, u1, u2, u3), (u4, g0, u5, u6, u7, u8), (W, s, u9, u10, R, u11), L, F, u12))[i]?) [2, 3] b := fun b hb => by
        obtain ⟨_, i, c, n, rfl | rfl, e⟩ := hSid b hb
        · exact ⟨2, by simp, _, c, n, rfl, rfl, e⟩
        · exact ⟨3, by simp, _, c, n, rfl, rfl, e⟩
      refine hE.step (nw := fun _ => False) (wr := [2, 3]) (fun _ h => h.elim) hs ⟨hu.os, hu.tape, hu.output, hu.size, fun b hb hn => hu.same b hb (fun h => hn (hSw b h)), hge, fun id h0 h1 => absurd h0 h1, fun id b c n h0 h1 => (by rw [h0] at h1; cases h1), fun b o h => ?_⟩ he
      rcases frzM_inv h with h | ⟨x1, x2, x3, x4⟩
      · exact .inl h
      · exact .inr ⟨x1, x2.symm.imp (fun h => h) (hSw b), x4⟩

abbrev known_st : Sta := ⟨[0, 1, 2, 3], ⟨[shG, shI, shI, shI], []⟩⟩
theorem known_eq (N : Nat) (d : Li) (d2 : Int) (d3 : Ll) (d4 : Ll) (d5 : Li) (found : Int) (trait : Int) (value : Int) : ev (Z := Li × Int × Ll × Ll × Li) Try.prog (known_sp N) known_B [] [known_j1_k N] (some known_rt) 400 false [.c [0], .c [1]] (stL known_st (((d, d2, d3, d4, d5, ()), found, trait, value, ()), ())) (stH known_st (((d, d2, d3, d4, d5, ()), found, trait, value, ()), ())) = known_S N d d2 d3 d4 d5 found trait value := by kernel_rfl
noncomputable def sp_known (N : Nat) : Spec := { f := 81, ins := ⟨[shG, shI, shI, shI], []⟩, outs := [⟨[shG], []⟩], run := fun p k => (known_S N p.1.1.1 p.1.1.2.1 p.1.1.2.2.1 p.1.1.2.2.2.1 p.1.1.2.2.2.2.1 p.1.2.1 p.1.2.2.1 p.1.2.2.2.1).bind fun r => k (((r.1, r.2.1, r.2.2.1, r.2.2.2.1, r.2.2.2.2, ()), ()), ()) }
theorem sp_known_ok (N : Nat) : SpecOK Try.prog (sp_known N) := fn_sound (B := known_B) (loops := []) (leaves := [known_j1_k N]) (fun p => known_S N p.1.1.1 p.1.1.2.1 p.1.1.2.2.1 p.1.1.2.2.2.1 p.1.1.2.2.2.2.1 p.1.2.1 p.1.2.2.1 p.1.2.2.2.1) (fun r => (((r.1, r.2.1, r.2.2.1, r.2.2.2.1, r.2.2.2.2, ()), ()), ())) known_rt (fun _ _ _ => rfl) (fun r z h => by cases h; rfl) Try.func81 (by kernel_rfl) (by kernel_rfl) (by kernel_rfl) rfl rfl (by kernel_rfl) (fun args w => Sem.pv_run _ _ _ (by kernel_rfl) w) (known_all N) mixed trivial (fun z E Xc hE hX hret => ⟨known_j1_lf N hE hX hret, trivial⟩) (fun p => known_eq N p.1.1.1 p.1.1.2.1 p.1.1.2.2.1 p.1.1.2.2.2.1 p.1.1.2.2.2.2.1 p.1.2.1 p.1.2.2.1 p.1.2.2.2.1)

end Go.Proofs.Ythncjilcflilcaa

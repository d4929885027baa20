/-
  Parts of a proof, put together: F6, FW1, F7, FWr, FW2, F8, FW3, FW4, Dl, FW5, FW6, F9, Fm3, FD1, FD2, FD3, FD4, FD5, FD6.
  Conditions: none.
-/
import Derived.Test.YthncjilcflilcaaZd
import Derived.Test.YthncjilcflilcaaZf
namespace Go.Proofs.Ythncjilcflilcaa
set_option linter.all false
open Go

end Go.Proofs.Ythncjilcflilcaa

namespace Go.Proofs.Ythncjilcflilcaa
set_option linter.all false
open Go

/-- What is appended where it doesn't fit stands in a block of its own. -/
theorem append_grow {P : Program} {t e u : TypeId} {sz by_ : Nat} {z : Value} (hT : ElemT P t e sz by_ z) (hu : (match Sem.pv P (underlying u) with | some (.slice _) => true | _ => false) = true) {ty : TypeId} {lo lo2 : Nat} {w : World} {v x : Value} {n m : Nat} {cs xs : List Value} {ab : List Nat} (hA : Acc e sz lo w v n cs ab)
    (hx : Sl lo2 w x m sz xs) (hn : n + m ≤ 1000000000) (a : Option Addr) (cap : Nat) (hv : v = .slice a n cap) (hcap : ¬ n + m ≤ cap) :
    ∃ nc w' rest, (Builtin.append_ #[t, u] ty #[v, x]).run P w = .ok (.slice (some ⟨w.heap.size, 0, none⟩) (n + m) nc) w' ∧ (n + m ≤ nc ∧ nc ≤ 9223372036854775807) ∧ Ext w w' ∧ w'.heap.size = w.heap.size + 1 ∧ Blk w' w.heap.size ((cs ++ xs) ++ rest) e ∧ rest.length = (nc - (n + m)) * sz := by
  obtain ⟨i, hi, hby⟩ := hT.infoE
  have hty := typeInfo_run (P := P) hi
  have hund := Sem.pv_run P _ _ hT.und
  have hsz := Sem.pv_run P _ _ hT.size
  have hz := Sem.pv_run P _ _ hT.zero
  have hu' : ∃ e', ∀ w, (underlying u).run P w = .ok (.slice e') w := by
    split at hu
    · rename_i e' he; exact ⟨e', fun w => Sem.pv_run P _ _ he w⟩
    · cases hu
  obtain ⟨e', hu'⟩ := hu'
  have hxl : xs.length = m * sz := by obtain ⟨_, _, _, _, h, _⟩ := hx; exact h
  have hlen : ∀ w, (Builtin.lenOf x).run P w = .ok m w := by obtain ⟨a, c, rfl, _⟩ := hx; intro w; rfl
  have hfx : ∀ w', Ext w w' → (Builtin.firstCells sz m x).run P w' = .ok xs.toArray w' := by
    intro w' he
    have := firstCells_run (P := P) (hx.ext he) m (Nat.le_refl _)
    rwa [List.take_of_length_le (by omega)] at this
  have hcl := hA.1
  have hfs : ∀ w', Ext w w' → (Builtin.firstCells sz n v).run P w' = .ok cs.toArray w' := by
    intro w' he
    have := firstCells_run (P := P) (hA.sl.ext he) n (Nat.le_refl _)
    rwa [List.take_of_length_le (by omega)] at this
  have hnc := nextcap_le (n + m) cap (by omega)
  have hfit := hT.fits
  have hbig : ¬ (Builtin.nextslicecap (n + m) cap * by_ > 2 ^ 48) := by
    have : Builtin.nextslicecap (n + m) cap * by_ ≤ (2 * 1000000000 + 1000) * 64 := Nat.mul_le_mul (by omega) hfit
    omega
  have hmax : ¬ (((n + m : Nat) : Int) > IntKind.i64.max ∧ by_ = 0) := by
    have : IntKind.i64.max = 9223372036854775807 := by decide
    omega
  let q : Question := .appendCap (n + m) cap e
  let nc := q.cut (w.tape w.drawn q)
  have hnc' : n + m ≤ nc := by simp only [nc, q, Question.cut]; omega
  have hnc63 : nc ≤ 9223372036854775807 := by
    have hlt := Nat.mod_lt (w.tape w.drawn q) (show 0 < 2 ^ 63 - (n + m) by omega)
    simp only [nc, q, Question.cut] at hlt ⊢
    omega
  let w1 := bump w
  have hask : (askRoom (nc * by_)).run P w1 = .ok () w1 := by
    unfold askRoom mark
    split <;> rfl
  let rest := Builtin.zeroCells z.cells (nc - (n + m))
  refine ⟨nc, { w1 with heap := w1.heap.push (.cells (cs.toArray ++ xs.toArray ++ rest) e (0, 0)) }, rest.toList, ?_, ⟨hnc', hnc63⟩, (bump_ext w).trans (New.mk' (.cells (cs.toArray ++ xs.toArray ++ rest) e (0, 0)) w1).ext, by show (w.heap.push _).size = _; simp, ?_, by simp only [rest, Array.length_toList, zeroCells_size, hT.zsz]⟩
  · have hch : ∀ k : Nat → Sem Value, (choose q >>= k).run P w = (k nc).run P w1 := by
      intro k
      simp only [choose, bind, Sem.bind, Sem.run, q, Question.forced]
      rfl
    have h1 := hfs w1 (bump_ext w)
    have h2 := hfx w1 (bump_ext w)
    rw [hv] at h1 ⊢
    simp only [Builtin.append_, List.getElem?_toArray, List.getElem?_cons_zero, List.getElem?_cons_succ, Sem.run_bind, hund, Result.andThen_ok, hsz, hu', Sem.run_pure, hlen, if_neg hcap, hty, hby]
    simp only [Bool.false_eq_true, if_false, Sem.run_bind, Result.andThen_ok, hty, hby, hbig, Sem.run_pure, false_or, hmax, Sem.run_ite]
    simp only [hlen, Result.andThen_ok, hcap, if_false, hty, hby, hbig, hmax]
    rw [show (choose (.appendCap (n + m) cap e)).run P w = .ok nc w1 from rfl]
    simp only [Result.andThen_ok, hty, hby, hask, h1, h2, hz, newRow, newObj, Sem.run_bind, Sem.run_pure, Sem.run]
    rfl
  · show (w1.heap.push (.cells (cs.toArray ++ xs.toArray ++ rest) e (0, 0)))[w.heap.size]? = _
    have hb : (w1.heap.push (.cells (cs.toArray ++ xs.toArray ++ rest) e (0, 0)))[w.heap.size]? = some (.cells (cs.toArray ++ xs.toArray ++ rest) e (0, 0)) := by
      show (w.heap.push _)[w.heap.size]? = _
      simp
    rw [hb]
    congr 2
    apply Array.ext'
    simp
noncomputable def c33 : Code := (Try.f33.body).getD .skip
noncomputable def K33_20 : List Item := [.code (sub c33 [1, 1, 1, 1, 1, 1, 1, 0, 0]), .code (sub c33 [1, 1, 1, 1, 1, 1, 1, 0, 1]), .code (sub c33 [1, 1, 1, 1, 1, 1, 1, 1])]
noncomputable def K33_21 : List Item := [.code (sub c33 [1, 1, 1, 1, 1, 1, 1, 0, 1, 0, 0, 0, 0]), .code (sub c33 [1, 1, 1, 1, 1, 1, 1, 0, 1, 0, 0, 0, 1]), .code (sub c33 [1, 1, 1, 1, 1, 1, 1, 0, 1, 0, 0, 1]), .inLoop (sub c33 [1, 1, 1, 1, 1, 1, 1, 0, 1, 0, 0]), .inBlock 0, .code (sub c33 [1, 1, 1, 1, 1, 1, 1, 1])]
noncomputable def K33_22 : List Item := [.code (sub c33 [1, 1, 1, 1, 1, 1, 1, 0, 1, 0, 0, 0, 1]), .code (sub c33 [1, 1, 1, 1, 1, 1, 1, 0, 1, 0, 0, 1]), .inLoop (sub c33 [1, 1, 1, 1, 1, 1, 1, 0, 1, 0, 0]), .inBlock 0, .code (sub c33 [1, 1, 1, 1, 1, 1, 1, 1])]
noncomputable def K33_23 : List Item := [.code (sub c33 [1, 1, 1, 1, 1, 1, 1, 0, 1, 0, 0, 1, 0, 0]), .inBlock 1, .code (sub c33 [1, 1, 1, 1, 1, 1, 1, 0, 1, 0, 0, 1, 1]), .inLoop (sub c33 [1, 1, 1, 1, 1, 1, 1, 0, 1, 0, 0]), .inBlock 0, .code (sub c33 [1, 1, 1, 1, 1, 1, 1, 1])]
noncomputable def K33_24 : List Item := [.code (sub c33 [1, 1, 1, 1, 1, 1, 1, 1, 0]), .code (sub c33 [1, 1, 1, 1, 1, 1, 1, 1, 1])]
noncomputable def K33_25 : List Item := [.code (sub c33 [1, 1, 1, 1, 1, 1, 1, 0, 1, 0, 0, 1, 1]), .inLoop (sub c33 [1, 1, 1, 1, 1, 1, 1, 0, 1, 0, 0]), .inBlock 0, .code (sub c33 [1, 1, 1, 1, 1, 1, 1, 1])]
noncomputable def K33_26 : List Item := [.code (sub c33 [1, 1, 1, 1, 1, 1, 1, 1, 1, 0]), .code (sub c33 [1, 1, 1, 1, 1, 1, 1, 1, 1, 1])]
/-- Rows of our own, each in a block of its own, behind those before it; none is one of some blocks. -/
structure Rws (w : World) (lo : Nat) (l : List (List Int)) (vs : List Value) (n : Nat) (ab : List Nat) : Prop where
  len : vs.length = n
  row : ∀ j, j < n → CR w lo (l.getD j []) (vs.getD j undef)
  inc : ∀ i j, i < j → j < n → blkN (vs.getD i undef) < blkN (vs.getD j undef)
  off : ∀ j, j < n → blkN (vs.getD j undef) ∉ ab
theorem getD_snoc {α : Type} (l : List α) (x d : α) (j : Nat) : (l ++ [x]).getD j d = if j = l.length then x else l.getD j d := by
  simp only [List.getD_eq_getElem?_getD, List.getElem?_append]
  by_cases e : j < l.length
  · rw [if_pos e, if_neg (by omega)]
  · rw [if_neg e]
    by_cases e2 : j = l.length
    · rw [if_pos e2, e2, Nat.sub_self]; rfl
    · rw [if_neg e2, List.getElem?_eq_none (by simp; omega), List.getElem?_eq_none (by omega)]
set_option maxHeartbeats 2000000 in
theorem with_rows {X : Ctx} {df : List Deferred} {M : Nat → Option Obj} (b0 b1 b2 f t : Nat) (va : Int) (F : List (List Int)) (vW vS vL vR uW uS uL uR : Value) (aF : Option Addr) (cF : Nat) (ty0 ty2 : TypeId) (w0 : World)
    (hM : ∀ b o, M b = some o → b ≠ b2 ∧ w0.heap[b]? = some o) (h02 : b0 ≠ b2) (hB0 : Blk w0 b0 [vW, vS, vL, (.slice aF F.length cF), vR] ty0) (hB2 : Blk w0 b2 [uW, uS, uL, .slice none 0 0, uR] ty2)
    (hR : RepS M 1 (RepC M (.sl (.int .i64))) F (.slice aF F.length cF)) (hFn : F.length ≤ 1000000) (hF : ∀ r ∈ F, r ≠ [] ∧ r.length ≤ 1000000)
    (hk : ∀ v vs ab w, Upd [b2] w0 w → Blk w b2 [uW, uS, uL, v, uR] ty2 → Acc 23 1 w0.heap.size w v F.length vs ab → Rws w w0.heap.size F vs F.length ab → St Try.prog X 77 K33_24 [(1, .int .i64 (f : Int)), (2, .int .i64 (t : Int)), (3, .int .i64 va), (4, .pointer (some ⟨b0, 0, none⟩)), (8, .pointer (some ⟨b1, 0, none⟩)), (11, .pointer (some ⟨b2, 0, none⟩))] df w) :
    St Try.prog X 77 K33_21 [(12, .int .i64 0), (1, .int .i64 (f : Int)), (2, .int .i64 (t : Int)), (3, .int .i64 va), (4, .pointer (some ⟨b0, 0, none⟩)), (8, .pointer (some ⟨b1, 0, none⟩)), (11, .pointer (some ⟨b2, 0, none⟩))] df w0 := by
  have hb0 := lt_of_blk hB0; have hb2 := lt_of_blk hB2
  have hMb : ∀ b o, M b = some o → b < w0.heap.size := fun b o h => lt_of_blk (hM b o h).2
  obtain ⟨-, -, by1, zv1, hT1, -⟩ := elemT_of (P := Try.prog) (t := 23) (e := 3) (y := .int .i64) (by kernel_rfl)
  have hT1 : ElemT Try.prog 23 3 1 by1 zv1 := hT1
  obtain ⟨-, -, by2, zv2, hT2, -⟩ := elemT_of (P := Try.prog) (t := 24) (e := 23) (y := .sl (.int .i64)) (by kernel_rfl)
  have hT2 : ElemT Try.prog 24 23 1 by2 zv2 := hT2
  have loop : ∀ (N i : Nat) (v : Value) (vs : List Value) (ab : List Nat) (w : World), i ≤ F.length → N = F.length - i → Upd [b2] w0 w → Blk w b2 [uW, uS, uL, v, uR] ty2 → Acc 23 1 w0.heap.size w v i vs ab → Rws w w0.heap.size F vs i ab →
      St Try.prog X 77 K33_21 [(12, .int .i64 (i : Int)), (1, .int .i64 (f : Int)), (2, .int .i64 (t : Int)), (3, .int .i64 va), (4, .pointer (some ⟨b0, 0, none⟩)), (8, .pointer (some ⟨b1, 0, none⟩)), (11, .pointer (some ⟨b2, 0, none⟩))] df w := by
    intro N
    induction N using Nat.strongRecOn with
    | ind N ih => ?_
    intro i v vs ab w hi hN hu hb hA hrw
    have hsz := hu.size
    have habl := hA.lt
    have hb0w : Blk w b0 [vW, vS, vL, (.slice aF F.length cF), vR] ty0 := hu.blk hB0 (by simp [h02])
    refine St.reg K33_22 [(0, true), (1, true), (2, true), (3, true), (4, true)] (by kernel_rfl) (by kernel_rfl) ?_
    refine RX.q 5 [(2, true, (.slice aF F.length cF))] [(53, .bool (decide ((i : Int) < (F.length : Int)))), (12, .int .i64 (i : Int)), (1, .int .i64 (f : Int)), (2, .int .i64 (t : Int)), (3, .int .i64 va), (4, .pointer (some ⟨b0, 0, none⟩)), (8, .pointer (some ⟨b1, 0, none⟩)), (11, .pointer (some ⟨b2, 0, none⟩))] [.cell ⟨b0, 3, none⟩ (.slice aF F.length cF)] (by kernel_rfl) (Blk.cell hb0w rfl) ?_
    refine RX.done [(53, .bool (decide ((i : Int) < (F.length : Int)))), (12, .int .i64 (i : Int)), (1, .int .i64 (f : Int)), (2, .int .i64 (t : Int)), (3, .int .i64 va), (4, .pointer (some ⟨b0, 0, none⟩)), (8, .pointer (some ⟨b1, 0, none⟩)), (11, .pointer (some ⟨b2, 0, none⟩))] (by kernel_rfl) (by kernel_rfl) ?_
    refine St.cond (k1 := K33_23) (k2 := K33_24) (decide ((i : Int) < (F.length : Int))) (by kernel_rfl) (fun hc => ?_) (fun hc => ?_)
    rotate_left
    · have hh : (F.length : Int) ≤ (i : Int) := by simpa using hc
      clear hc
      obtain rfl : i = F.length := by omega
      exact St.weak (L' := [(1, .int .i64 (f : Int)), (2, .int .i64 (t : Int)), (3, .int .i64 va), (4, .pointer (some ⟨b0, 0, none⟩)), (8, .pointer (some ⟨b1, 0, none⟩)), (11, .pointer (some ⟨b2, 0, none⟩))]) (by kernel_rfl) (hk v vs ab w hu hb hA hrw)
    have hh : (i : Int) < (F.length : Int) := by simpa using hc
    clear hc
    have hil : i < F.length := by omega
    have hx0 : F[i]? = some (F.getD i []) := by simp [List.getD_eq_getElem?_getD, List.getElem?_eq_getElem hil]
    obtain ⟨-, a', c', e1, -, e2⟩ := hR
    have hmem : F.getD i [] ∈ F := List.mem_of_getElem? hx0
    obtain ⟨hne, hrl⟩ := hF _ hmem
    have hm0 : 0 < (F.getD i []).length := List.length_pos_iff.2 hne
    rcases e2 with e2 | ⟨bF, oF, ws, tyF, rfl, hMF, hseg⟩
    · rw [e2] at hil; simp at hil
    cases e1
    obtain ⟨us, hus, rv, rfl, hrs⟩ := hseg i _ hx0
    obtain ⟨ra, rc, rfl⟩ : ∃ ra rc, rv = (.slice ra (F.getD i []).length rc) := by
      obtain ⟨-, ra, rc, e, -⟩ := hrs
      exact ⟨ra, rc, e⟩
    have hcellF : ∀ w', Upd [b2] w0 w' → w'.cell? ⟨bF, oF + i * 1, none⟩ = some (.slice ra (F.getD i []).length rc) := fun w' hu' => by
      have h1 := hu'.blk (hM bF _ hMF).2 (by simp [(hM bF _ hMF).1])
      exact Cl.cell (Cl.of_seg h1 hus) (i := 0) rfl
    refine St.weak (L' := [(12, .int .i64 (i : Int)), (1, .int .i64 (f : Int)), (2, .int .i64 (t : Int)), (3, .int .i64 va), (4, .pointer (some ⟨b0, 0, none⟩)), (8, .pointer (some ⟨b1, 0, none⟩)), (11, .pointer (some ⟨b2, 0, none⟩))]) (by kernel_rfl) ?_
    refine St.drw K33_25 ab [(0, true), (1, true), (3, true), (4, true), (5, true), (6, true), (7, true), (2, false), (8, false), (9, false), (10, false), (11, true), (12, false)] mixed (by kernel_rfl) (by kernel_rfl) ?_
    intro w1 hd hds
    have hu1 : Upd [b2] w0 w1 := Upd.ext hu hd
    have h2ab : b2 ∉ ab := fun h => by have := (habl _ h).1; omega
    have h0ab : b0 ∉ ab := fun h => by have := (habl _ h).1; omega
    have hFab : bF ∉ ab := fun h => by have := (habl _ h).1; have := hMb _ _ hMF; omega
    have hix : ∀ w', (Instr.indexAt 24 (.slice (some ⟨bF, oF, none⟩) F.length cF) (.int .i64 (i : Int))).run Try.prog w' = .ok (.pointer (some ⟨bF, oF + i * 1, none⟩)) w' := fun w' => idx_sl (e := 23) (sz := 1) (by kernel_rfl) (by kernel_rfl) bF oF F.length cF i hil _
    refine RX.qd 7 [(1, true, v), (4, true, (.slice (some ⟨bF, oF, none⟩) F.length cF)), (6, true, (.pointer (some ⟨bF, oF + i * 1, none⟩))), (7, true, (.slice ra (F.getD i []).length rc))] [(63, (.slice ra (F.getD i []).length rc)), (57, v), (12, .int .i64 (i : Int)), (1, .int .i64 (f : Int)), (2, .int .i64 (t : Int)), (3, .int .i64 va), (4, .pointer (some ⟨b0, 0, none⟩)), (8, .pointer (some ⟨b1, 0, none⟩)), (11, .pointer (some ⟨b2, 0, none⟩))] [.cell ⟨b2, 3, none⟩ v, .cell ⟨b0, 3, none⟩ (.slice (some ⟨bF, oF, none⟩) F.length cF), .raw (Instr.indexAt 24 (.slice (some ⟨bF, oF, none⟩) F.length cF) (.int .i64 (i : Int))) (.pointer (some ⟨bF, oF + i * 1, none⟩)), .cell ⟨bF, oF + i * 1, none⟩ (.slice ra (F.getD i []).length rc)] (by kernel_rfl) ⟨Blk.cell (Ext.blk hd hb) rfl, Blk.cell (hu1.blk hB0 (by simp [h02])) rfl, hix _, hcellF w1 hu1⟩ ⟨h2ab, h0ab, fun w' _ => hix w', hFab⟩ ?_
    refine RX.newD 58 (.cells #[] 3) (.sl 0) [(63, (.slice ra (F.getD i []).length rc)), (57, v), (12, .int .i64 (i : Int)), (1, .int .i64 (f : Int)), (2, .int .i64 (t : Int)), (3, .int .i64 va), (4, .pointer (some ⟨b0, 0, none⟩)), (8, .pointer (some ⟨b1, 0, none⟩)), (11, .pointer (some ⟨b2, 0, none⟩))] (by kernel_rfl) ?_
    intro bz w2 hn2
    have hs2 := hn2.size; have ha2 := hn2.at_
    have hBz : Blk w2 bz [] 3 := hn2.blk
    have hu2 : Upd [b2] w0 w2 := Upd.ext hu1 hn2.ext
    obtain ⟨cs, hcs, hsl⟩ := sl_sl (g := ⟨fun _ => none, M⟩) (t := .int .i64) (w := w2) (fun b o h => hu2.blk (hM b o h).2 (by simp [(hM b o h).1])) hrs
    obtain ⟨rfl, hin⟩ := (repL_i2 _ _).1 hcs
    obtain ⟨nc, w3, rr, hr3, hnc, hx3, hs3, hB3, hrr⟩ := append_grow (P := Try.prog) (u := 23) (ty := 23) (lo := bz) (v := (.slice (some ⟨bz, 0, none⟩) 0 0)) (n := 0) (cs := []) (ab := [bz]) hT1 (by kernel_rfl) ⟨rfl, .inr ⟨bz, 0, [], rfl, rfl, Nat.le_refl _, ⟨Nat.le_refl _, by omega⟩, rfl, 3, hBz⟩⟩ hsl (by omega) _ 0 rfl (by omega)
    obtain ⟨br, hbr⟩ : ∃ br, br = w2.heap.size := ⟨_, rfl⟩
    rw [← hbr] at hr3 hB3
    refine RX.runD 64 (Builtin.append_ #[23, 23] 23 #[(.slice (some ⟨bz, 0, none⟩) 0 0), (.slice ra (F.getD i []).length rc)]) [(58, (.slice (some ⟨bz, 0, none⟩) 0 0)), (63, (.slice ra (F.getD i []).length rc)), (57, v), (12, .int .i64 (i : Int)), (1, .int .i64 (f : Int)), (2, .int .i64 (t : Int)), (3, .int .i64 va), (4, .pointer (some ⟨b0, 0, none⟩)), (8, .pointer (some ⟨b1, 0, none⟩)), (11, .pointer (some ⟨b2, 0, none⟩))] (by kernel_rfl) hr3 hx3.up ?_
    refine RX.newD 65 (.cells #[(.slice (some ⟨br, 0, none⟩) (0 + (F.getD i []).length) nc)] 23) (.sl 1) [(64, (.slice (some ⟨br, 0, none⟩) (0 + (F.getD i []).length) nc)), (58, (.slice (some ⟨bz, 0, none⟩) 0 0)), (63, (.slice ra (F.getD i []).length rc)), (57, v), (12, .int .i64 (i : Int)), (1, .int .i64 (f : Int)), (2, .int .i64 (t : Int)), (3, .int .i64 va), (4, .pointer (some ⟨b0, 0, none⟩)), (8, .pointer (some ⟨b1, 0, none⟩)), (11, .pointer (some ⟨b2, 0, none⟩))] (by kernel_rfl) ?_
    intro bx w4 hn4
    have hs4 := hn4.size; have ha4 := hn4.at_
    have hBx : Blk w4 bx [(.slice (some ⟨br, 0, none⟩) (0 + (F.getD i []).length) nc)] 23 := hn4.blk
    have hx4 : Ext w w4 := ((hd.trans hn2.ext).trans hx3).trans hn4.ext
    have hA4 := hA.ext hx4
    have hsx : Sl 0 w4 (.slice (some ⟨bx, 0, none⟩) 1 1) 1 1 [(.slice (some ⟨br, 0, none⟩) (0 + (F.getD i []).length) nc)] := ⟨_, 1, rfl, Nat.le_refl _, rfl, .inr ⟨bx, 0, rfl, Nat.zero_le _, lt_of_blk hBx, fun j u hj => by rw [addr_add, Nat.zero_add]; exact Blk.cell hBx hj⟩⟩
    obtain ⟨v', w5, ab', hr5, hA5, hU5, hab', hs5⟩ := append_run (P := Try.prog) (u := 24) (ty := 24) hT2 (by kernel_rfl) hA4 hsx (fun c hc => by simp at hc; subst hc; rfl) (by omega) (by omega)
    obtain ⟨av, cv, rfl⟩ := hA5.shape
    refine RX.runD 66 (Builtin.append_ #[24, 24] 24 #[v, (.slice (some ⟨bx, 0, none⟩) 1 1)]) [(65, (.slice (some ⟨bx, 0, none⟩) 1 1)), (64, (.slice (some ⟨br, 0, none⟩) (0 + (F.getD i []).length) nc)), (58, (.slice (some ⟨bz, 0, none⟩) 0 0)), (63, (.slice ra (F.getD i []).length rc)), (57, v), (12, .int .i64 (i : Int)), (1, .int .i64 (f : Int)), (2, .int .i64 (t : Int)), (3, .int .i64 va), (4, .pointer (some ⟨b0, 0, none⟩)), (8, .pointer (some ⟨b1, 0, none⟩)), (11, .pointer (some ⟨b2, 0, none⟩))] (by kernel_rfl) hr5 hU5 ?_
    refine RX.qd 1 [] [(66, .slice av (i + 1) cv), (67, .pointer (some ⟨b2, 3, none⟩)), (12, .int .i64 (i : Int)), (1, .int .i64 (f : Int)), (2, .int .i64 (t : Int)), (3, .int .i64 va), (4, .pointer (some ⟨b0, 0, none⟩)), (8, .pointer (some ⟨b1, 0, none⟩)), (11, .pointer (some ⟨b2, 0, none⟩))] [] (by kernel_rfl) trivial trivial ?_
    have hb5 : Blk w5 b2 [uW, uS, uL, v, uR] ty2 := hU5.blk (Ext.blk hx4 hb) h2ab
    refine RX.store1L b2 3 (.slice av (i + 1) cv) [uW, uS, uL, v, uR] ty2 (by kernel_rfl) rfl hb5 (by simp) (by kernel_rfl) ?_
    intro w6 hp
    have hs6 := hp.size
    refine RX.done [(12, .int .i64 (i : Int)), (1, .int .i64 (f : Int)), (2, .int .i64 (t : Int)), (3, .int .i64 va), (4, .pointer (some ⟨b0, 0, none⟩)), (8, .pointer (some ⟨b1, 0, none⟩)), (11, .pointer (some ⟨b2, 0, none⟩))] (by kernel_rfl) (by kernel_rfl) ?_
    refine St.reg K33_21 [(0, true), (1, true), (2, true)] (by kernel_rfl) (by kernel_rfl) ?_
    refine RX.q 3 [(1, false, .int .i64 ((i : Int) + 1))] [(12, .int .i64 ((i : Int) + 1)), (1, .int .i64 (f : Int)), (2, .int .i64 (t : Int)), (3, .int .i64 va), (4, .pointer (some ⟨b0, 0, none⟩)), (8, .pointer (some ⟨b1, 0, none⟩)), (11, .pointer (some ⟨b2, 0, none⟩))] [.eq (.int .i64 (IntKind.i64.wrap ((i : Int) + 1))) (.int .i64 ((i : Int) + 1))] (by kernel_rfl) (int64 (by omega)) ?_
    refine RX.done [(12, .int .i64 ((i : Int) + 1)), (1, .int .i64 (f : Int)), (2, .int .i64 (t : Int)), (3, .int .i64 va), (4, .pointer (some ⟨b0, 0, none⟩)), (8, .pointer (some ⟨b1, 0, none⟩)), (11, .pointer (some ⟨b2, 0, none⟩))] (by kernel_rfl) (by kernel_rfl) ?_
    have hs5' := hU5.size
    have hab5 : ∀ k ∈ ab', w0.heap.size ≤ k := fun k hk => (hA5.lt k hk).1
    have hU6 : Upd [b2] w0 w6 := ((Upd.ext hu hx4).trans_old hU5 (fun k hk => (habl k hk).1)).trans hp.upd
    have hszw := hx4.size
    have hr6 : CR w6 w0.heap.size (F.getD i []) (.slice (some ⟨br, 0, none⟩) (0 + (F.getD i []).length) nc) := by
      refine ⟨br, nc, rr, 3, by rw [Nat.zero_add], by omega, by omega, hrl, hin, ?_⟩
      have h1 : Blk w3 br ((F.getD i []).map (.int .i64) ++ rr) 3 := by simpa using hB3
      exact hp.upd.blk (hU5.blk (Ext.blk hn4.ext h1) (fun h => by have := (habl _ h).2; omega)) (by simp; omega)
    refine St.weak (by kernel_rfl) (ih _ (by omega) (i + 1) (.slice av (i + 1) cv) (vs ++ [(.slice (some ⟨br, 0, none⟩) (0 + (F.getD i []).length) nc)]) ab' w6 (by omega) rfl hU6 hp.blk (hA5.put hp (fun h => by have := hab5 _ h; omega)) ⟨by simp [hrw.len], fun j hj => ?_, fun j k hjk hk => ?_, fun j hj hja => ?_⟩)
    · rw [getD_snoc, hrw.len]
      by_cases e : j = i
      · subst e; rw [if_pos rfl]; exact hr6
      · rw [if_neg e]
        have h1 := hrw.row j (by omega)
        have h2 := h1.lt
        exact ((h1.upd hx4 (by simp)).upd hU5 (hrw.off j (by omega))).upd hp.upd (fun h => by rw [List.mem_singleton] at h; omega)
    · rw [getD_snoc, getD_snoc, hrw.len, if_neg (by omega)]
      by_cases e : k = i
      · subst e
        rw [if_pos rfl]
        have := (hrw.row j (by omega)).lt
        show blkN _ < br
        omega
      · rw [if_neg e]
        exact hrw.inc j k hjk (by omega)
    · rw [getD_snoc, hrw.len] at hja
      have h3 := hab' _ hja
      by_cases e : j = i
      · subst e
        rw [if_pos rfl] at h3 hja
        simp only [blkN] at h3
        rcases h3 with h3 | h3
        · have := (habl _ h3).2; omega
        · omega
      · rw [if_neg e] at h3 hja
        have h4 := (hrw.row j (by omega)).lt
        rcases h3 with h3 | h3
        · exact hrw.off j (by omega) h3
        · omega
  exact St.weak (by kernel_rfl) (loop _ 0 (.slice none 0 0) [] [] w0 (by omega) rfl (Upd.refl _ _) hB2 (Acc.nil _ _ _ _) ⟨rfl, fun j hj => by omega, fun _ _ _ hj => by omega, fun j hj => by omega⟩)
theorem with_walk {X : Ctx} {df : List Deferred} {M : Nat → Option Obj} (b0 b1 b2 f t : Nat) (va : Int) (F : List (List Int)) (vW vS vL vR uW uS uL uR : Value) (aF : Option Addr) (cF : Nat) (ty0 ty2 : TypeId) (w0 : World)
    (hM : ∀ b o, M b = some o → b ≠ b2 ∧ w0.heap[b]? = some o) (h02 : b0 ≠ b2) (hB0 : Blk w0 b0 [vW, vS, vL, (.slice aF F.length cF), vR] ty0) (hB2 : Blk w0 b2 [uW, uS, uL, .slice none 0 0, uR] ty2)
    (hR : RepS M 1 (RepC M (.sl (.int .i64))) F (.slice aF F.length cF)) (hFn : F.length ≤ 1000000) (hF : ∀ r ∈ F, r ≠ [] ∧ r.length ≤ 1000000) (hf : f < F.length) (ht : t < (F.getD f []).length) (hva : inR .i64 va)
    (hk : ∀ bl c w, Upd [b2] w0 w → Blk w b2 [uW, uS, uL, (.slice (some ⟨bl, 0, none⟩) F.length c), uR] ty2 → F.length ≤ c → w0.heap.size ≤ bl → RowsOK w w0.heap.size (F.set f ((F.getD f []).set t va)) bl → St Try.prog X 77 K33_26 [(8, .pointer (some ⟨b1, 0, none⟩)), (11, .pointer (some ⟨b2, 0, none⟩))] df w) :
    St Try.prog X 77 K33_20 [(1, .int .i64 (f : Int)), (2, .int .i64 (t : Int)), (3, .int .i64 va), (4, .pointer (some ⟨b0, 0, none⟩)), (8, .pointer (some ⟨b1, 0, none⟩)), (11, .pointer (some ⟨b2, 0, none⟩))] df w0 := by
  refine St.reg K33_21 [(0, true)] (by kernel_rfl) (by kernel_rfl) ?_
  refine RX.q 1 [] [(12, .int .i64 0), (1, .int .i64 (f : Int)), (2, .int .i64 (t : Int)), (3, .int .i64 va), (4, .pointer (some ⟨b0, 0, none⟩)), (8, .pointer (some ⟨b1, 0, none⟩)), (11, .pointer (some ⟨b2, 0, none⟩))] [] (by kernel_rfl) trivial ?_
  refine RX.done [(12, .int .i64 0), (1, .int .i64 (f : Int)), (2, .int .i64 (t : Int)), (3, .int .i64 va), (4, .pointer (some ⟨b0, 0, none⟩)), (8, .pointer (some ⟨b1, 0, none⟩)), (11, .pointer (some ⟨b2, 0, none⟩))] (by kernel_rfl) (by kernel_rfl) ?_
  refine with_rows b0 b1 b2 f t va F vW vS vL vR uW uS uL uR aF cF ty0 ty2 w0 hM h02 hB0 hB2 hR hFn hF ?_
  intro v vs ab w hu hb hA hrw
  have hb2 := lt_of_blk hB2
  obtain ⟨h1, ⟨_, h2, _⟩ | ⟨bl, c, rest, rfl, rfl, hlo, hc, hrest, ty, hB⟩⟩ := hA
  · omega
  have hrf := hrw.row f hf
  have hrf1 := hrf.lt
  obtain ⟨rb, rcc, rrest, rty, erb, hr1, hr2, hr3, hr4, hr5⟩ := id hrf
  have hlen := hrw.len
  have ev : vs[f]? = some (vs.getD f undef) := by simp [List.getD_eq_getElem?_getD, List.getElem?_eq_getElem (show f < vs.length by omega)]
  have ev2 : (vs ++ rest)[f]? = some (.slice (some ⟨rb, 0, none⟩) (F.getD f []).length rcc) := by rw [List.getElem?_append_left (by omega), ev, erb]
  refine St.reg K33_26 [(0, true), (1, true), (2, true), (3, true), (4, true), (5, true), (6, true), (7, true), (8, false)] (by kernel_rfl) (by kernel_rfl) ?_
  refine RX.q 8 [(1, true, (.slice (some ⟨bl, 0, none⟩) F.length c)), (3, true, (.pointer (some ⟨bl, 0 + f * 1, none⟩))), (4, true, (.slice (some ⟨rb, 0, none⟩) (F.getD f []).length rcc)), (7, true, (.pointer (some ⟨rb, 0 + t * 1, none⟩)))] [(74, .int .i64 va), (75, (.pointer (some ⟨rb, 0 + t * 1, none⟩))), (8, .pointer (some ⟨b1, 0, none⟩)), (11, .pointer (some ⟨b2, 0, none⟩))] [.cell ⟨b2, 3, none⟩ (.slice (some ⟨bl, 0, none⟩) F.length c), .raw (Instr.indexAt 24 (.slice (some ⟨bl, 0, none⟩) F.length c) (.int .i64 (f : Int))) (.pointer (some ⟨bl, 0 + f * 1, none⟩)), .cell ⟨bl, 0 + f * 1, none⟩ (.slice (some ⟨rb, 0, none⟩) (F.getD f []).length rcc), .raw (Instr.indexAt 23 (.slice (some ⟨rb, 0, none⟩) (F.getD f []).length rcc) (.int .i64 (t : Int))) (.pointer (some ⟨rb, 0 + t * 1, none⟩))] (by kernel_rfl)
    ⟨Blk.cell hb rfl, idx_sl (e := 23) (sz := 1) (by kernel_rfl) (by kernel_rfl) bl 0 F.length c f hf _, by rw [show 0 + f * 1 = f by omega]; exact Blk.cell hB ev2, idx_sl (e := 3) (sz := 1) (by kernel_rfl) (by kernel_rfl) rb 0 (F.getD f []).length rcc t ht _⟩ ?_
  rw [show 0 + t * 1 = t by omega]
  refine RX.store1 rb t (.int .i64 va) ((F.getD f []).map (.int .i64) ++ rrest) rty (by kernel_rfl) rfl hr5 (by rw [List.length_append, List.length_map]; omega) ?_
  intro w3 hp
  refine RX.done [(8, .pointer (some ⟨b1, 0, none⟩)), (11, .pointer (some ⟨b2, 0, none⟩))] (by kernel_rfl) (by kernel_rfl) ?_
  have erb' : blkN (vs.getD f undef) = rb := by rw [erb]; rfl
  have hlow : w0.heap.size ≤ w.heap.size := hu.size
  have hoff := hrw.off f hf
  rw [erb'] at hoff
  have hne : bl ≠ rb := fun e => hoff (by rw [e]; simp)
  refine hk bl c w3 (hu.trans_old hp.upd (fun k h => by simp at h; subst h; omega)) (hp.upd.blk hb (by simp; omega)) hc.1 hlo ⟨vs, rest, ty, hp.upd.blk hB (by simp; exact hne), by rw [hlen]; simp, fun j hj => ?_⟩
  simp only [List.length_set] at hj
  by_cases e : j = f
  · subst e
    rw [getD_set_self _ _ _ _ hf, erb]
    refine ⟨rb, rcc, rrest, rty, by simp, by simpa using hr1, by omega, by simpa using hr3, fun x hx => ?_, ?_⟩
    · rcases List.mem_or_eq_of_mem_set hx with h | h
      · exact hr4 x h
      · subst h; exact hva
    · have := hp.blk
      rw [List.set_append_left _ _ (by simpa using ht)] at this
      rw [List.map_set]; exact this
  · rw [getD_set_ne _ _ _ _ _ (Ne.symm e)]
    refine (hrw.row j hj).upd hp.upd ?_
    simp only [List.mem_singleton]
    intro h
    rcases Nat.lt_or_ge j f with h1 | h1
    · have := hrw.inc j f h1 hf; omega
    · have := hrw.inc f j (by omega) hj; omega
end Go.Proofs.Ythncjilcflilcaa

namespace Go.Proofs.Ythncjilcflilcaa
set_option linter.all false
open Go

def rwith_j2 (N : Nat) (g : Int) (out : Li) (out2 : Int) (out3 : Ll) (out4 : Ll) (out5 : Li) : Option (Li × Int × Ll × Ll × Li × Int) :=
  some (out, out2, out3, out4, out5, 0)
def rwith_j1 (N : Nat) (found : Int) (trait : Int) (value : Int) (d : Li) (d2 : Int) (d3 : Ll) (d4 : Ll) (d5 : Li) (g : Int) (out : Li) (out2 : Int) (out3 : Ll) (out4 : Li) : Option (Li × Int × Ll × Ll × Li × Int) :=
  if ((0 ≤ found ∧ found < d4.length) ∧ 0 ≤ trait ∧ trait < (d4.getD found.toNat []).length) ∧ d4.length ≤ 1000000 ∧ ∀ r ∈ d4, r ≠ [] ∧ r.length ≤ 1000000 then
    rwith_j2 N g out out2 out3 (d4.set found.toNat ((d4.getD found.toNat []).set trait.toNat value)) out4
  else none
def rwith_S (N : Nat) (d : Li) (d2 : Int) (d3 : Ll) (d4 : Ll) (d5 : Li) (found : Int) (trait : Int) (value : Int) : Option (Li × Int × Ll × Ll × Li × Int) :=
  (rcheck_S N d d2 d3 d4 d5).bind fun x_1 =>
  br (!decide (x_1 = 0))
    (some ([], 0, [], [], [], x_1))
    (chk ((d4.length : Int) - 1) <|
    (off_S N found 0 ((d4.length : Int) - 1)).bind fun x_2 =>
    br x_2
      (some ([], 0, [], [], [], 1))
      (chk ((d.length : Int) - 1) <|
      (off_S N trait 0 ((d.length : Int) - 1)).bind fun x_3 =>
      br x_3
        (some ([], 0, [], [], [], 1))
        (idx d4 found fun x_4 =>
        idx x_4 trait fun x_5 =>
        br (decide (0 ≤ x_5))
          (some ([], 0, [], [], [], 5))
          ((off_S N value 0 5).bind fun x_6 =>
          br x_6
            (some ([], 0, [], [], [], 3))
            (rwith_j1 N found trait value d d2 d3 d4 d5 0 d d2 d3 d5)))))
noncomputable def rwith_sp (N : Nat) : List Spec := [sp_off N, sp_rcheck N]
theorem rwith_all (N : Nat) : AllP (SpecOK Try.prog) (rwith_sp N) := ⟨sp_off_ok N, sp_rcheck_ok N, trivial⟩
noncomputable def rwith_c : Code := (Try.f33.body).getD .skip
noncomputable abbrev rwith_B : Body := { c := rwith_c, n := 77, res := [.cell 8 47, .tmp 9], outs := [⟨[shG, shI], []⟩], m0 := 0 }
abbrev rwith_rt : altD rwith_B.outs → Option (Li × Int × Ll × Ll × Li × Int) := fun r => some (r.1.1.1, r.1.1.2.1, r.1.1.2.2.1, r.1.1.2.2.2.1, r.1.1.2.2.2.2.1, r.1.2.1)
abbrev rwith_j2_at : List PI := [.c [1, 1, 1, 1, 1, 1, 1, 1, 1, 0], .c [1, 1, 1, 1, 1, 1, 1, 1, 1, 1]]
abbrev rwith_j2_st : Sta := ⟨[8, 11], ⟨[.own 1 0, .own 2 0], [.dead, .segs [.nils, shI, .nils, .nils, .nils], .segs [shL, shI, shQ, shQ, shL]]⟩⟩
abbrev rwith_j2_k (N : Nat) : Leaf (Li × Int × Ll × Ll × Li × Int) := ⟨rwith_j2_at, rwith_j2_st, fun p => rwith_j2 N p.2.2.1.2.1 p.2.2.2.1.1 p.2.2.2.1.2.1 p.2.2.2.1.2.2.1 p.2.2.2.1.2.2.2.1 p.2.2.2.1.2.2.2.2.1⟩
theorem rwith_j2_eq (N : Nat) (g : Int) (out : Li) (out2 : Int) (out3 : Ll) (out4 : Ll) (out5 : Li) : ev (Z := Li × Int × Ll × Ll × Li × Int) Try.prog (rwith_sp N) rwith_B [] [] (some rwith_rt) 400 true rwith_j2_at (stL rwith_j2_st (((), (), ()), ((), ((), g, (), (), (), ()), (out, out2, out3, out4, out5, ()), ()))) (stH rwith_j2_st (((), (), ()), ((), ((), g, (), (), (), ()), (out, out2, out3, out4, out5, ()), ()))) = rwith_j2 N g out out2 out3 out4 out5 := by kernel_rfl
theorem rwith_j2_lf (N : Nat) {z : Li × Int × Ll × Ll × Li × Int} {E : EE} {Xc : Ctx} (hE : EOK rwith_B.m0 E) (hX : CxOK true Xc) (hret : RetOK Try.prog rwith_B E Xc z (some rwith_rt)) : LeafOK Try.prog rwith_B.c rwith_B.n rwith_B.m0 E Xc z (rwith_j2_k N) := leaf_of_ev (B := rwith_B) (loops := []) (leaves := []) (rwith_all N) mixed trivial hE hX trivial hret (fun p => rwith_j2_eq N p.2.2.1.2.1 p.2.2.2.1.1 p.2.2.2.1.2.1 p.2.2.2.1.2.2.1 p.2.2.2.1.2.2.2.1 p.2.2.2.1.2.2.2.2.1)
abbrev rwith_j1_at : List PI := [.c [1, 1, 1, 1, 1, 1, 1, 0, 0], .c [1, 1, 1, 1, 1, 1, 1, 0, 1], .c [1, 1, 1, 1, 1, 1, 1, 1]]
abbrev rwith_j1_st : Sta := ⟨[1, 2, 3, 4, 8, 11], ⟨[shI, shI, shI, .own 0 0, .own 1 0, .own 2 0], [.segs [shL, shI, shQ, shQ, shL], .segs [.nils, shI, .nils, .nils, .nils], .segs [shL, shI, shQ, .nils, shL]]⟩⟩
abbrev rwith_j1_k (N : Nat) : Leaf (Li × Int × Ll × Ll × Li × Int) := ⟨rwith_j1_at, rwith_j1_st, fun p => rwith_j1 N p.1.1 p.1.2.1 p.1.2.2.1 p.2.1.1 p.2.1.2.1 p.2.1.2.2.1 p.2.1.2.2.2.1 p.2.1.2.2.2.2.1 p.2.2.1.2.1 p.2.2.2.1.1 p.2.2.2.1.2.1 p.2.2.2.1.2.2.1 p.2.2.2.1.2.2.2.2.1⟩
theorem rwith_j1_lf (N : Nat) {z : Li × Int × Ll × Ll × Li × Int} {E : EE} {Xc : Ctx} (hE : EOK rwith_B.m0 E) (hX : CxOK true Xc) (hret : RetOK Try.prog rwith_B E Xc z (some rwith_rt)) : LeafOK Try.prog rwith_B.c rwith_B.n rwith_B.m0 E Xc z (rwith_j1_k N) := by
  rintro ⟨⟨fo, tr, va, u1, u2, u3, u4⟩, ⟨dW, ds, dL, F, dR, u5⟩, ⟨v1, g0, v2, v3, v4, v5⟩, ⟨W, s, L, v6, R, v7⟩, v8⟩ hfn a w hS
  have hfn : rwith_j1 N fo tr va dW ds dL F dR g0 W s L R = some z := hfn
  unfold rwith_j1 at hfn
  split at hfn
  rotate_left
  · cases hfn
  rename_i hc
  obtain ⟨⟨⟨hf0, hf1⟩, ht0, ht1⟩, hFn, hF⟩ := hc
  obtain ⟨f, rfl⟩ : ∃ f : Nat, fo = f := ⟨fo.toNat, (Int.toNat_of_nonneg hf0).symm⟩
  obtain ⟨t, rfl⟩ : ∃ t : Nat, tr = t := ⟨tr.toNat, (Int.toNat_of_nonneg ht0).symm⟩
  simp only [Int.toNat_natCast] at hfn ht1
  have hf : f < F.length := by omega
  have ht : t < (F.getD f []).length := by omega
  obtain ⟨⟨g, hs, htm, hi, he⟩, hsz, hm⟩ := hS
  have h1 : RepV g (.i .i64 f) (a.tmps.getD 1 undef) := htm 1 _ rfl
  have h2 : RepV g (.i .i64 t) (a.tmps.getD 2 undef) := htm 2 _ rfl
  have h3 : RepV g (.i .i64 va) (a.tmps.getD 3 undef) := htm 3 _ rfl
  have h4 : RepV g (.own 0 0) (a.tmps.getD 4 undef) := htm 4 _ rfl
  have h8 : RepV g (.own 1 0) (a.tmps.getD 8 undef) := htm 8 _ rfl
  have h9 : RepV g (.own 2 0) (a.tmps.getD 11 undef) := htm 11 _ rfl
  have hB0 : RepBlk g w 0 (.segs [.sl (.int .i64) dW, .i .i64 ds, .sl (.sl (.int .i64)) dL, .sl (.sl (.int .i64)) F, .sl (.int .i64) dR]) := hs.blk 0 _ rfl
  have hB1 : RepBlk g w 1 (.segs [.nils, .i .i64 g0, .nils, .nils, .nils]) := hs.blk 1 _ rfl
  have hB2 : RepBlk g w 2 (.segs [.sl (.int .i64) W, .i .i64 s, .sl (.sl (.int .i64)) L, .nils, .sl (.int .i64) R]) := hs.blk 2 _ rfl
  have hdis : ∀ i j b ci ni cj nj, i < 3 → j < 3 → g.ρ i = some (some (b, ci, ni)) → g.ρ j = some (some (b, cj, nj)) → i = j := fun i j b ci ni cj nj hi hj e1 e2 => by
    have hk : ∀ i, i < 3 → ∃ k, (stH rwith_j1_st (((↑f : Int), (↑t : Int), va, u1, u2, u3, u4), (dW, ds, dL, F, dR, u5), (v1, g0, v2, v3, v4, v5), (W, s, L, v6, R, v7), v8))[i]? = some k ∧ k.mut = true := fun i hi => by
      match i, hi with
      | 0, _ => exact ⟨_, rfl, rfl⟩
      | 1, _ => exact ⟨_, rfl, rfl⟩
      | 2, _ => exact ⟨_, rfl, rfl⟩
    obtain ⟨ki, x1, x2⟩ := hk i hi
    obtain ⟨kj, y1, y2⟩ := hk j hj
    exact hs.inj i j ki kj b ci ni cj nj x1 y1 x2 y2 e1 e2
  simp only [RepV] at h1 h2 h3 h4 h8 h9
  obtain ⟨b0, c0, n0, us0, ty0, e0, hb0, hp0, hm0⟩ := hB0
  obtain ⟨b1, c1, n1, us1, ty1, e1, hb1, hp1, hm1⟩ := hB1
  obtain ⟨b2, c2, n2, us2, ty2, e2, hb2, hp2, hm2⟩ := hB2
  obtain ⟨_, _, _, e4, h4⟩ := h4
  rw [e0] at e4; cases e4
  obtain ⟨_, _, _, e8, h8⟩ := h8
  rw [e1] at e8; cases e8
  obtain ⟨_, _, _, e9, h9⟩ := h9
  rw [e2] at e9; cases e9
  simp only [RepPs, PartOf, RepV] at hp0 hp2
  obtain ⟨_, _, rfl, ⟨xW, rfl, hxW⟩, _, _, rfl, ⟨xs, rfl, hxs⟩, _, _, rfl, ⟨xL, rfl, hxL⟩, _, _, rfl, ⟨xF, rfl, hxF⟩, _, _, rfl, ⟨xR, rfl, hxR⟩, rfl⟩ := hp0
  obtain ⟨_, _, rfl, ⟨yW, rfl, hW⟩, _, _, rfl, ⟨ys, rfl, hs_⟩, _, _, rfl, ⟨yL, rfl, hL⟩, _, _, rfl, ⟨yF, rfl, hyF⟩, _, _, rfl, ⟨yR, rfl, hR⟩, rfl⟩ := hp2
  subst hyF
  obtain ⟨aF, cF, rfl⟩ : ∃ aF cF, xF = .slice aF F.length cF := by
    obtain ⟨-, x, y, e, -⟩ := hxF
    exact ⟨x, y, e⟩
  have hlt0 := lt_of_blk hb0
  have hlt1 := lt_of_blk hb1
  have hlt2 := lt_of_blk hb2
  have h02 : b0 ≠ b2 := fun e => by
    subst e
    have := hdis 0 2 _ _ _ _ _ (by omega) (by omega) e0 e2
    omega
  have h12 : b1 ≠ b2 := fun e => by
    subst e
    have := hdis 1 2 _ _ _ _ _ (by omega) (by omega) e1 e2
    omega
  have hMw : ∀ b o, g.M b = some o → b ≠ b2 ∧ w.heap[b]? = some o := fun b o h => ⟨fun e => (by rw [e, hm2] at h; cases h), hs.mem b o h⟩
  have hwalk := with_walk (X := Xc) (df := a.defers) (M := g.M) b0 b1 b2 f t va F xW xs xL xR yW ys yL yR aF cF ty0 ty2 w hMw h02 hb0 hb2 hxF hFn hF hf ht h3.2 (fun bl c w' hu hb hc hlo hRF => ?_)
  · have e : (rwith_j1_k N).at_.map (itm rwith_B.c) = K33_20 := by kernel_rfl
    rw [e]
    refine St.toAt (tm := a.tmps) hwalk ⟨hsz, has_mem _ (fun x hx => ?_)⟩
    simp only [List.mem_cons, List.not_mem_nil, or_false] at hx
    rcases hx with rfl | rfl | rfl | rfl | rfl | rfl
    · exact h1.1
    · exact h2.1
    · exact h3.1
    · exact h4
    · exact h8
    · exact h9
  · intro tm htm'
    have e : (rwith_j2_k N).at_.map (itm rwith_B.c) = K33_26 := by kernel_rfl
    rw [← e]
    have hge : GE g ⟨g.ρ, frzM g.M [] w.heap.size w'⟩ := ⟨fun _ _ h => h, frzM_mono⟩
    have hMlt : ∀ b o, g.M b = some o → b < w.heap.size := fun b o h => lt_of_blk (hs.mem b o h)
    have hMbl : g.M bl = none := by
      cases e : g.M bl with
      | none => rfl
      | some o => have := hMlt bl o e; omega
    have hrepF := RowsOK.rep (S := []) (c := c) hRF hMlt hMbl (.inr hlo) (by simpa using hFn) (by simpa using hc)
    rw [List.length_set] at hrepF
    refine rwith_j2_lf N hE hX hret (((), (), ()), ((), ((), g0, (), (), (), ()), (W, s, L, F.set f ((F.getD f []).set t va), R, ()), ())) hfn _ _ ⟨⟨⟨g.ρ, frzM g.M [] w.heap.size w'⟩, ⟨fun b o h => ?_, fun id k hk => ?_, fun i j ki kj b ci ni cj nj x1 y1 x2 y2 z1 z2 => ?_⟩, ?_, fun i hi' => hi i hi', ?_⟩, htm'.1, hm⟩
    · rcases frzM_inv h with h | ⟨_, _, h, _⟩
      · exact hu.blk (hs.mem b o h) (by simp [(hMw b o h).1])
      · exact h
    · match id, hk with
      | 0, hk => cases hk; trivial
      | 1, hk =>
        cases hk
        exact ⟨b1, c1, n1, us1, ty1, e1, hu.blk hb1 (by simp [h12]), RepPs.mono hge _ _ hp1, frzM_none hm1 (by simp) hlt1⟩
      | 2, hk =>
        cases hk
        exact ⟨b2, c2, n2, _, ty2, e2, hb, ⟨_, _, rfl, ⟨_, rfl, RepS.mono hW frzM_mono (fun _ _ h => h)⟩, _, _, rfl, ⟨_, rfl, hs_⟩, _, _, rfl, ⟨_, rfl, RepV.mono hge (.sl (.sl (.int .i64)) L) _ hL⟩, _, _, rfl, ⟨_, rfl, hrepF⟩, _, _, rfl, ⟨_, rfl, RepS.mono hR frzM_mono (fun _ _ h => h)⟩, rfl⟩, frzM_none hm2 (by simp) hlt2⟩
      | n + 3, hk => cases hk
    · have hlt : ∀ i k, (stH rwith_j2_st (((), (), ()), ((), ((), g0, (), (), (), ()), (W, s, L, F.set f ((F.getD f []).set t va), R, ()), ())))[i]? = some k → k.mut = true → i < 3 := fun i k h1 h2 => by
        match i, h1 with
        | 0, _ => omega
        | 1, _ => omega
        | 2, _ => omega
        | n + 3, h => cases h
      exact hdis i j _ _ _ _ _ (hlt i ki x1 x2) (hlt j kj y1 y2) z1 z2
    · exact zip_tmF [8, 11] _ ⟨_, _, rfl, ⟨b1, c1, n1, e1, htm'.2 8 _ rfl⟩, _, _, rfl, ⟨b2, c2, n2, e2, htm'.2 11 _ rfl⟩, rfl⟩
    · have hSw : ∀ b ∈ [b2], Sw g (fun i => (stH rwith_j1_st (((↑f : Int), (↑t : Int), va, u1, u2, u3, u4), (dW, ds, dL, F, dR, u5), (v1, g0, v2, v3, v4, v5), (W, s, L, v6, R, v7), v8))[i]?) [2] b := fun b hb => by
        simp only [List.mem_singleton] at hb
        subst hb
        exact ⟨2, by simp, _, c2, n2, rfl, rfl, e2⟩
      refine hE.step (nw := fun _ => False) (wr := [2]) (fun _ h => h.elim) hs ⟨hu.os, hu.tape, hu.output, hu.size, fun b hb hn => hu.same b hb (fun h => hn (hSw b h)), hge, fun id h0 h1 => absurd h0 h1, fun id b c n h0 h1 => (by rw [h0] at h1; cases h1), fun b o h => ?_⟩ he
      rcases frzM_inv h with h | ⟨x1, x2, x3, x4⟩
      · exact .inl h
      · exact .inr ⟨x1, .inl (by rcases x2 with h | h; cases h; exact h), x4⟩

abbrev rwith_st : Sta := ⟨[0, 1, 2, 3], ⟨[shG, shI, shI, shI], []⟩⟩
theorem rwith_eq (N : Nat) (d : Li) (d2 : Int) (d3 : Ll) (d4 : Ll) (d5 : Li) (found : Int) (trait : Int) (value : Int) : ev (Z := Li × Int × Ll × Ll × Li × Int) Try.prog (rwith_sp N) rwith_B [] [rwith_j1_k N] (some rwith_rt) 400 false [.c [0], .c [1]] (stL rwith_st (((d, d2, d3, d4, d5, ()), found, trait, value, ()), ())) (stH rwith_st (((d, d2, d3, d4, d5, ()), found, trait, value, ()), ())) = rwith_S N d d2 d3 d4 d5 found trait value := by kernel_rfl
noncomputable def sp_rwith (N : Nat) : Spec := { f := 33, ins := ⟨[shG, shI, shI, shI], []⟩, outs := [⟨[shG, shI], []⟩], run := fun p k => (rwith_S N p.1.1.1 p.1.1.2.1 p.1.1.2.2.1 p.1.1.2.2.2.1 p.1.1.2.2.2.2.1 p.1.2.1 p.1.2.2.1 p.1.2.2.2.1).bind fun r => k (((r.1, r.2.1, r.2.2.1, r.2.2.2.1, r.2.2.2.2.1, ()), r.2.2.2.2.2, ()), ()) }
theorem sp_rwith_ok (N : Nat) : SpecOK Try.prog (sp_rwith N) := fn_sound (B := rwith_B) (loops := []) (leaves := [rwith_j1_k N]) (fun p => rwith_S N p.1.1.1 p.1.1.2.1 p.1.1.2.2.1 p.1.1.2.2.2.1 p.1.1.2.2.2.2.1 p.1.2.1 p.1.2.2.1 p.1.2.2.2.1) (fun r => (((r.1, r.2.1, r.2.2.1, r.2.2.2.1, r.2.2.2.2.1, ()), r.2.2.2.2.2, ()), ())) rwith_rt (fun _ _ _ => rfl) (fun r z h => by cases h; rfl) Try.func33 (by kernel_rfl) (by kernel_rfl) (by kernel_rfl) rfl rfl (by kernel_rfl) (fun args w => Sem.pv_run _ _ _ (by kernel_rfl) w) (rwith_all N) mixed trivial (fun z E Xc hE hX hret => ⟨rwith_j1_lf N hE hX hret, trivial⟩) (fun p => rwith_eq N p.1.1.1 p.1.1.2.1 p.1.1.2.2.1 p.1.1.2.2.2.1 p.1.1.2.2.2.2.1 p.1.2.1 p.1.2.2.1 p.1.2.2.2.1)

end Go.Proofs.Ythncjilcflilcaa

namespace Go.Proofs.Ythncjilcflilcaa
set_option linter.all false
open Go

/-- What is known at the point. -/
structure RunTo (n : Nat) (g : Gh) (w : World) (L : LL) (H : HH) (g' : Gh) (a : Act) (w' : World) : Prop where
  ext : Ext w w'
  M : ∀ b o, g.M b = some o → g'.M b = some o
  Mn : ∀ b o, g'.M b = some o → g.M b = some o ∨ w.heap.size ≤ b
  oth : ∀ i b c k, g'.ρ i = some (some (b, c, k)) → w.heap.size ≤ b
  sim : Sim g' (fun i => H[i]?) w'
  tm : TmF g' (fun t => L.lookup t) a.tmps
  sz : n ≤ a.tmps.size
  marks : ∃ Ds : List Nat, a.defers = Ds.map (fun D => { target := .collected D, args := #[] }) ∧ Ds.Nodup ∧ ∀ D ∈ Ds, w.heap.size ≤ D ∧ w'.heap[D]? = some (.deferred (some []))
theorem run_to {P : Program} {specs : List Spec} {B : Body} {f : FuncId} {ins : StSh} {fn : Func} {Z : Type} {x : Leaf Z} (F : ins.den → Option Z) (rt0 : altD B.outs → Option Z) {tmps : List Tmp} {fu : Nat} {k0 : List PI}
    (hrt : ∀ r, rt0 r = none) (hf : P.funcs[f]? = some fn) (hb : fn.body = some B.c) (hm : B.m0 = 0) (hnb : ins.blks = []) (htm : tmps = List.range' 0 ins.avs.length) (hk : nrm B.c 99 [.c []] = k0)
    (hall : AllP (SpecOK P) specs) (hmix : P.follows .mixedOrders = true) (hn : fn.ntmps = B.n)
    (hev : ∀ p, ev P specs B [] [x] (some rt0) fu false k0 (stL ⟨tmps, ins⟩ p) (stH ⟨tmps, ins⟩ p) = F p)
    (p : ins.den) (z : Z) (hz : F p = some z) (g : Gh) (w : World) (vs : List Value) (hv : RepVs g (encs id ins.avs p.1) vs) (hM : ∀ b o, g.M b = some o → w.heap[b]? = some o) (hρ : ∀ i, g.ρ i = none) (R : Value → World → Prop)
    (hK : ∀ cs q, x.fn q = some z → ∀ g' a w', RunTo B.n g w (stL x.sta q) (stH x.sta q) g' a w' → At P (fctx P f R cs) (x.at_.map (itm B.c)) a w') : Fn P f vs.toArray w R := by
  have hh : ∀ i, hOf p.2 i = none := fun i => by
    unfold hOf
    rw [List.getElem?_eq_none]
    rw [encBs_len, hnb]; exact Nat.zero_le _
  have hs : Sim g (hOf p.2) w := ⟨hM, fun i k hk => (by rw [hh i] at hk; cases hk), fun i j ki kj b ci ni cj nj h1 => (by rw [hh i] at h1; cases h1)⟩
  have hE0 : EOK0 B.m0 (fun _ => Ent (fun _ => False) B.m0 g w) := Ent.ok (fun i b c k hi e => by rw [hρ i] at e; cases e) (fun i hi => by omega)
  let E : EE := fun ds g' w' => Ent (fun _ => False) B.m0 g w g' w' ∧ MarkOK w.heap.size ds g' w'
  have hE : EOK B.m0 E := ⟨⟨fun hn hs st he => ⟨hE0.step (ds := []) hn hs st he.1, he.2.step hs st⟩, fun ds g w he => ⟨hE0.bump ds g w he.1, he.2⟩, fun ds g w σ he h1 h2 => ⟨hE0.reb ds g w σ he.1 h1 h2, he.2⟩⟩, ⟨w.heap.size, fun ds g w' he => he.1.size, fun ds g w' D he hD => by
      obtain ⟨Ds, rfl, _, hDs⟩ := he.2
      obtain ⟨D', h1, h2⟩ := List.mem_map.1 hD
      cases h2
      exact lt_of_blk (hDs D h1).2.1, fun ds g w1 w2 T he hu hT => ⟨he.1.upd hu (fun k hk => .inl (hT k hk).1), by
      obtain ⟨Ds, rfl, hn, hDs⟩ := he.2
      refine ⟨Ds, rfl, hn, fun D hD => ⟨(hDs D hD).1, hu.blk (hDs D hD).2.1 (fun hk => (hT D hk).2 (List.mem_map.2 ⟨D, hD, rfl⟩)), (hDs D hD).2.2⟩⟩⟩⟩, fun ds g w1 w2 he hu hb hM => ⟨he.1.upd hu (fun k hk => by cases hk), by
      obtain ⟨Ds, rfl, hn, hDs⟩ := he.2
      refine ⟨w1.heap.size :: Ds, rfl, List.nodup_cons.2 ⟨fun hk => ?_, hn⟩, fun D hD => ?_⟩
      · have := lt_of_blk (hDs _ hk).2.1; omega
      · rcases List.mem_cons.1 hD with rfl | hD
        · exact ⟨he.1.size, hb, hM⟩
        · exact ⟨(hDs D hD).1, hu.blk (hDs D hD).2.1, (hDs D hD).2.2⟩⟩⟩
  have hent : E [] g w := ⟨⟨rfl, rfl, rfl, Nat.le_refl _, fun _ _ _ => rfl, fun _ _ h => h, fun _ _ h => .inl h, fun _ _ => rfl, fun i b c k hi e => by
    rw [hρ i] at e; cases e⟩, [], rfl, List.nodup_nil, by simp⟩
  refine Fn.of hf hb fun cs => ?_
  have hX : CxOK true (fctx P f R cs) := fun _ => rfl
  have hret : RetOK P B E (fctx P f R cs) z (some rt0) := by
    rintro f' hf' r hrz
    cases hf'
    rw [hrt r] at hrz; cases hrz
  have hleaf : LeafOK P B.c B.n B.m0 E (fctx P f R cs) z x := by
    intro q hq a w' hS
    obtain ⟨⟨g', hs', ht', hi', he⟩, hsz, _⟩ := hS
    refine hK cs q hq g' a w' ⟨⟨he.1.os, he.1.tape, he.1.output, he.1.size, fun b hb _ => he.1.same b hb (fun h => h)⟩, he.1.M, fun b o h => ?_, fun i b c k h => ?_, hs', ht', hsz, ?_⟩
    · rcases he.1.Mn b o h with h1 | ⟨_, h1, _⟩
      · exact .inl h1
      · exact .inr (h1.resolve_right (fun h => h))
    · exact (he.1.oth i b c k (by omega) h).resolve_right (fun h => h)
    · obtain ⟨Ds, e, h1, h2⟩ := he.2
      exact ⟨Ds, e, h1, fun D hD => ⟨(h2 D hD).1, (h2 D hD).2.1⟩⟩
  have hsound := ev_sound hall hmix (loops := []) trivial hE hX (leaves := [x]) ⟨hleaf, trivial⟩ hret fu false k0 _ _ (by rw [hev p]; exact hz)
  have hlen : vs.length = ins.avs.length := by rw [(repVs_get hv).1, encs_len]
  have hstart : SR B.n B.m0 E (stL ⟨tmps, ins⟩ p) (stH ⟨tmps, ins⟩ p) { tmps := vs.toArray ++ Array.replicate (fn.ntmps - vs.toArray.size) undef, defers := [] } w := by
    refine ⟨⟨g, hs, fun t a ha => ?_, fun i hi => hρ i, hent⟩, by simp; omega, by rw [hm]; exact Nat.zero_le _⟩
    have ha' : ((List.range' 0 (encs id ins.avs p.1).length).zip (encs id ins.avs p.1)).lookup t = some a := by
      rw [encs_len, ← htm]; exact ha
    obtain ⟨_, h3⟩ := lookup_range _ 0 t a ha'
    obtain ⟨v, h4, h5⟩ := (repVs_get hv).2 t a (by simpa using h3)
    have hlt := (List.getElem?_eq_some_iff.1 h4).1
    have : (vs.toArray ++ Array.replicate (fn.ntmps - vs.toArray.size) undef).getD t undef = v := by
      rw [Array.getD_eq_getD_getElem?, Array.getElem?_append_left (by simpa using hlt)]
      simp [h4]
    rw [this]; exact h5
  have := hsound _ w hstart
  rw [← hk] at this
  have h9 := At.nrmk (c := B.c) 99 (k := [.c []]) this
  have e9 : sub B.c [] = B.c := by cases B.c <;> rfl
  simp only [List.map_cons, List.map_nil, itm, e9] at h9
  exact h9
end Go.Proofs.Ythncjilcflilcaa

namespace Go.Proofs.Ythncjilcflilcaa
set_option linter.all false
open Go

theorem clone_nil2 (a : Option Addr) (c : Nat) (w : World) : Fn Try.prog 118 #[.slice a 0 c] w (fun v w' => Ext w w' ∧ ∃ ab, Acc 3 1 w.heap.size w' v 0 [] ab) := by
  refine Fn.ofSt (c := c118) 8 K118_0 [(0, .slice a 0 c)] Try.func118 (by kernel_rfl) ⟨⟨rfl, by kernel_rfl⟩, by kernel_rfl⟩ (by kernel_rfl) ?_
  intro cs
  refine St.reg K118_1 [(0, true)] (by kernel_rfl) (by kernel_rfl) ?_
  refine RX.q 1 [] [(0, .slice a 0 c)] [] (by kernel_rfl) trivial ?_
  refine RX.done [(0, .slice a 0 c)] (by kernel_rfl) (by kernel_rfl) ?_
  cases a with
  | none =>
    refine St.reg K118_2 [(0, true), (1, true)] (by kernel_rfl) (by kernel_rfl) ?_
    refine RX.q 2 [] [(4, .bool true)] [] (by kernel_rfl) trivial ?_
    refine RX.done [(4, .bool true)] (by kernel_rfl) (by kernel_rfl) ?_
    refine St.cond (k1 := K118_3) (k2 := K118_4) true (by kernel_rfl) (fun _ => ?_) (fun hc => by cases hc)
    refine St.weak (L' := []) (by kernel_rfl) ?_
    refine St.reg K118_5 [(0, true)] (by kernel_rfl) (by kernel_rfl) ?_
    refine RX.q 1 [] [(2, .slice none 0 0)] [] (by kernel_rfl) trivial ?_
    refine RX.done [(2, .slice none 0 0)] (by kernel_rfl) (by kernel_rfl) ?_
    refine St.ret [.tmp 2] [.slice none 0 0] (by kernel_rfl) Try.func118 (by kernel_rfl) (.cons (.tmp (by kernel_rfl)) .nil) ?_
    exact ⟨Upd.refl _ _, [], Acc.nil _ _ _ _⟩
  | some p =>
    refine St.reg K118_2 [(0, true), (1, true)] (by kernel_rfl) (by kernel_rfl) ?_
    refine RX.q 2 [] [(4, .bool false), (0, .slice (some p) 0 c)] [] (by kernel_rfl) trivial ?_
    refine RX.done [(4, .bool false), (0, .slice (some p) 0 c)] (by kernel_rfl) (by kernel_rfl) ?_
    refine St.cond (k1 := K118_3) (k2 := K118_4) false (by kernel_rfl) (fun hc => by cases hc) (fun _ => ?_)
    refine St.weak (L' := [(0, .slice (some p) 0 c)]) (by kernel_rfl) ?_
    obtain ⟨hue, hel, by_, zv, hT, hZ⟩ := elemT_of (P := Try.prog) (t := 23) (e := 3) (y := .int .i64) (by kernel_rfl)
    have hT : ElemT Try.prog 23 3 1 by_ zv := hT
    refine St.reg K118_6 [(0, false), (1, true), (2, false), (3, true)] (by kernel_rfl) (by kernel_rfl) ?_
    refine RX.new 5 (.cells #[] 3) (.sl 0) [(0, .slice (some p) 0 c)] (by kernel_rfl) ?_
    intro b w1 hn
    have hsz := hn.size; have hat := hn.at_
    have hb : Blk w1 b [] 3 := hn.blk
    refine RX.q 1 [] [(5, .slice (some ⟨b, 0, none⟩) 0 0), (6, .slice (some p) 0 c)] [] (by kernel_rfl) trivial ?_
    obtain ⟨v', w2, ab', hr, hA, hU, -, -⟩ := append_run (P := Try.prog) (u := 23) (ty := 23) (lo := b) (lo2 := 0) (w := w1) (v := .slice (some ⟨b, 0, none⟩) 0 0) (x := .slice (some p) 0 c) (n := 0) (m := 0) (cs := []) (xs := []) (ab := [b]) hT (by kernel_rfl) ⟨rfl, .inr ⟨b, 0, [], rfl, rfl, Nat.le_refl _, ⟨Nat.le_refl _, by omega⟩, rfl, 3, hb⟩⟩ ⟨some p, c, rfl, Nat.zero_le _, rfl, .inl rfl⟩ (fun _ h => by cases h) (by omega) (by omega)
    refine RX.run 7 (Builtin.append_ #[23, 23] 23 #[.slice (some ⟨b, 0, none⟩) 0 0, .slice (some p) 0 c]) [(5, .slice (some ⟨b, 0, none⟩) 0 0), (6, .slice (some p) 0 c)] (by kernel_rfl) hr ?_
    refine RX.q 1 [] [(2, v')] [] (by kernel_rfl) trivial ?_
    refine RX.done [(2, v')] (by kernel_rfl) (by kernel_rfl) ?_
    refine St.ret [.tmp 2] [v'] (by kernel_rfl) Try.func118 (by kernel_rfl) (.cons (.tmp (by kernel_rfl)) .nil) ?_
    rw [hat] at hA
    refine ⟨?_, ab', hA⟩
    exact (hn.ext.trans_old hU (fun k hk => by simp at hk; subst hk; omega))
def clonew_S (_N : Nat) (s : Li) : Option Li := lim s.length (some s)
noncomputable def sp_clonew (N : Nat) : Spec := { f := 118, ins := ⟨[shL], []⟩, outs := [⟨[.ols 0], [.lst (.int .i64)]⟩], run := fun p k => (clonew_S N p.1.1).bind fun r => k (((), ()), (r, ())) }
theorem sp_clonew_ok (N : Nat) : SpecOK Try.prog (sp_clonew N) := by
  refine ⟨fun Z p κ => ?_, fun args w => Sem.pv_run _ _ _ (by kernel_rfl) w, fun p r hpr g w vs hv hs hρ => ?_⟩
  · show ((clonew_S N p.1.1).bind _) = ((clonew_S N p.1.1).bind _).bind κ
    cases clonew_S N p.1.1 <;> rfl
  · obtain ⟨⟨(l : Li), ⟨⟩⟩, ⟨⟩⟩ := p
    have hpr' : (lim l.length (some l)).bind (fun r : Li => some ((((), ()), (r, ())) : (Unit × Unit) × (Li × Unit))) = some r := hpr
    by_cases h : l = []
    · subst h
      simp only [encs, enc, RepVs, RepV] at hv
      have e : ((((), ()), (([] : Li), ())) : (Unit × Unit) × (Li × Unit)) = r := Option.some.inj hpr'
      subst e
      obtain ⟨v, us, rfl, hv, rfl⟩ := hv
      obtain ⟨_, a, c, rfl, _⟩ := hv
      refine Fn.mono (clone_nil2 a c w) ?_
      rintro v' w' ⟨hE, ab, h1, h2⟩
      refine own_new (y := .int .i64) (l := []) hs (fun i => hρ i (Nat.zero_le _)) hE (Nat.zero_le _) ?_
      rcases h2 with ⟨rfl, _, _⟩ | ⟨b, cap, rest, rfl, _, h3, h4, h5, ty, h6⟩
      · exact .inl ⟨rfl, rfl⟩
      · exact .inr ⟨b, cap, [], rest, ty, rfl, h3, h6, rfl, h4, h5⟩
    · refine (sp_cloneo_ok N).fn ((l, ()), ()) r ?_ g w vs hv hs hρ
      show ((cloneo_S N l).bind fun r => some (((), ()), (r, ()))) = some r
      unfold cloneo_S
      rw [grd_eq (by simp [h])]
      simpa using hpr'
end Go.Proofs.Ythncjilcflilcaa

namespace Go.Proofs.Ythncjilcflilcaa
set_option linter.all false
open Go

def knownp_j1 (N : Nat) (found : Int) (trait : Int) (value : Int) (g : Int) (out : Int) (out2 : Li) (out3 : Ll) (out4 : Ll) (out5 : Li) : Option (Int × Int × Int × Int × Int × Li × Ll × Ll × Li) :=
  some (found, trait, value, g, out, out2, out3, out4, out5)
def knownp_S (N : Nat) (d : Li) (d2 : Int) (d3 : Ll) (d4 : Ll) (d5 : Li) (found : Int) (trait : Int) (value : Int) : Option (Int × Int × Int × Int × Int × Li × Ll × Ll × Li) :=
  (clonew_S N d).bind fun x_1 =>
  grd (lmI (d3.length : Int)) <|
  grd (lmI (d4.length : Int)) <|
  (clonew_S N d5).bind fun x_2 =>
  knownp_j1 N found trait value 0 d2 x_1 (d3.take (min d3.length (List.replicate (d3.length : Int).toNat ([] : Li)).length) ++ (List.replicate (d3.length : Int).toNat ([] : Li)).drop (min d3.length (List.replicate (d3.length : Int).toNat ([] : Li)).length)) (d4.take (min d4.length (List.replicate (d4.length : Int).toNat ([] : Li)).length) ++ (List.replicate (d4.length : Int).toNat ([] : Li)).drop (min d4.length (List.replicate (d4.length : Int).toNat ([] : Li)).length)) x_2

noncomputable def knownp_sp (N : Nat) : List Spec := [sp_clonew N]
theorem knownp_all (N : Nat) : AllP (SpecOK Try.prog) (knownp_sp N) := ⟨sp_clonew_ok N, trivial⟩
noncomputable def knownp_c : Code := (Try.f81.body).getD .skip
noncomputable abbrev knownp_B : Body := { c := knownp_c, n := 72, res := [.cell 8 26], outs := [⟨[], []⟩], m0 := 0 }
abbrev knownp_rt : altD knownp_B.outs → Option (Int × Int × Int × Int × Int × Li × Ll × Ll × Li) := fun _ => none
abbrev knownp_j1_at : List PI := [.c [1, 1, 1, 1, 0, 0], .c [1, 1, 1, 1, 0, 1], .c [1, 1, 1, 1, 1]]
abbrev knownp_j1_st : Sta := ⟨[1, 2, 3, 8, 9], ⟨[shI, shI, shI, .own 0 0, .own 1 0], [.segs [.nils, shI, .nils, .nils, .nils], .segs [.ols 2, shI, .ols 3, .ols 4, .ols 5], .lst (.int .i64), .lst (.sl (.int .i64)), .lst (.sl (.int .i64)), .lst (.int .i64)]⟩⟩
abbrev knownp_j1_k (N : Nat) : Leaf (Int × Int × Int × Int × Int × Li × Ll × Ll × Li) := ⟨knownp_j1_at, knownp_j1_st, fun p => knownp_j1 N p.1.1 p.1.2.1 p.1.2.2.1 p.2.1.2.1 p.2.2.1.2.1 p.2.2.2.1 p.2.2.2.2.1 p.2.2.2.2.2.1 p.2.2.2.2.2.2.1⟩
abbrev knownp_st : Sta := ⟨[0, 1, 2, 3], ⟨[shG, shI, shI, shI], []⟩⟩
theorem knownp_eq (N : Nat) (d : Li) (d2 : Int) (d3 : Ll) (d4 : Ll) (d5 : Li) (found : Int) (trait : Int) (value : Int) : ev (Z := Int × Int × Int × Int × Int × Li × Ll × Ll × Li) Try.prog (knownp_sp N) knownp_B [] [knownp_j1_k N] (some knownp_rt) 400 false [.c [0], .c [1]] (stL knownp_st (((d, d2, d3, d4, d5, ()), found, trait, value, ()), ())) (stH knownp_st (((d, d2, d3, d4, d5, ()), found, trait, value, ()), ())) = knownp_S N d d2 d3 d4 d5 found trait value := by kernel_rfl

def withp_j1 (N : Nat) (found : Int) (trait : Int) (value : Int) (d : Li) (d2 : Int) (d3 : Ll) (d4 : Ll) (d5 : Li) (g : Int) : Option (Int × Int × Int × Li × Int × Ll × Ll × Li × Int) :=
  some (found, trait, value, d, d2, d3, d4, d5, g)
def withp_S (N : Nat) (d : Li) (d2 : Int) (d3 : Ll) (d4 : Ll) (d5 : Li) (found : Int) (trait : Int) (value : Int) : Option (Int × Int × Int × Li × Int × Ll × Ll × Li × Int) :=
  ((opened_S N d d2 d3 d4 d5).bind fun e => match e with
  | .inl (x_1, y_2) =>
    (br (!decide (y_2 = 0))
      (none)
      ((dfound_S N x_1 found).bind fun x_3 =>
      br (!x_3)
        (none)
        (chk ((d.length : Int) - 1) <|
        (in__S N trait 0 ((d.length : Int) - 1)).bind fun x_4 =>
        br (!x_4)
          (none)
          (idx d4 found fun x_5 =>
          idx x_5 trait fun x_6 =>
          br (!decide (x_6 = -1))
            (none)
            ((in__S N value 0 5).bind fun x_7 =>
            br (!x_7)
              (none)
              (withp_j1 N found trait value d d2 d3 d4 d5 0))))))
  | .inr x_8 =>
    (br (!decide (x_8 = 0))
      (none)
      (none)))

noncomputable def withp_sp (N : Nat) : List Spec := [sp_in_ N, sp_opened N, sp_dfound N]
theorem withp_all (N : Nat) : AllP (SpecOK Try.prog) (withp_sp N) := ⟨sp_in__ok N, sp_opened_ok N, sp_dfound_ok N, trivial⟩
noncomputable def withp_c : Code := (Try.f31.body).getD .skip
noncomputable abbrev withp_B : Body := { c := withp_c, n := 58, res := [.cell 8 26, .tmp 9], outs := [⟨[], []⟩], m0 := 0 }
abbrev withp_rt : altD withp_B.outs → Option (Int × Int × Int × Li × Int × Ll × Ll × Li × Int) := fun _ => none
abbrev withp_j1_at : List PI := [.c [1, 1, 1, 0], .c [1, 1, 1, 1]]
abbrev withp_j1_st : Sta := ⟨[1, 2, 3, 4, 8], ⟨[shI, shI, shI, .own 0 0, .own 1 0], [.segs [shL, shI, shQ, shQ, shL], .segs [.nils, shI, .nils, .nils, .nils]]⟩⟩
abbrev withp_j1_k (N : Nat) : Leaf (Int × Int × Int × Li × Int × Ll × Ll × Li × Int) := ⟨withp_j1_at, withp_j1_st, fun p => withp_j1 N p.1.1 p.1.2.1 p.1.2.2.1 p.2.1.1 p.2.1.2.1 p.2.1.2.2.1 p.2.1.2.2.2.1 p.2.1.2.2.2.2.1 p.2.2.1.2.1⟩
abbrev withp_st : Sta := ⟨[0, 1, 2, 3], ⟨[shG, shI, shI, shI], []⟩⟩
theorem withp_eq (N : Nat) (d : Li) (d2 : Int) (d3 : Ll) (d4 : Ll) (d5 : Li) (found : Int) (trait : Int) (value : Int) : ev (Z := Int × Int × Int × Li × Int × Ll × Ll × Li × Int) Try.prog (withp_sp N) withp_B [] [withp_j1_k N] (some withp_rt) 400 false [.c [0], .c [1]] (stL withp_st (((d, d2, d3, d4, d5, ()), found, trait, value, ()), ())) (stH withp_st (((d, d2, d3, d4, d5, ()), found, trait, value, ()), ())) = withp_S N d d2 d3 d4 d5 found trait value := by kernel_rfl

end Go.Proofs.Ythncjilcflilcaa

namespace Go.Proofs.Ythncjilcflilcaa
set_option linter.all false
open Go

/-- A list of numbers of our own, or nothing. -/
def HI (w : World) (lo mid : Nat) (outs : List Nat) (l : List Int) (v : Value) : Prop := (l = [] ∧ ∃ a c, v = .slice a 0 c) ∨ ∃ b c rest ty, v = .slice (some ⟨b, 0, none⟩) l.length c ∧ l ≠ [] ∧ (lo ≤ b ∧ b < mid) ∧ b ∉ outs ∧ (l.length ≤ c ∧ l.length ≤ 1000000) ∧ (∀ x ∈ l, inR .i64 x) ∧ Blk w b (l.map (.int .i64) ++ rest) ty
/-- Rows of our own, or nothing. -/
def HR (w : World) (lo mid : Nat) (outs : List Nat) (l : List (List Int)) (v : Value) : Prop := (l = [] ∧ ∃ a c, v = .slice a 0 c) ∨ ∃ b c, v = .slice (some ⟨b, 0, none⟩) l.length c ∧ l ≠ [] ∧ (lo ≤ b ∧ b < mid) ∧ b ∈ outs ∧ (l.length ≤ c ∧ l.length ≤ 1000000) ∧ RowsOK w mid l b
structure OwnD (lo : Nat) (w : World) (W : List Int) (s : Int) (L F : List (List Int)) (R : List Int) (vW vL vF vR : Value) : Prop where
  ex : ∃ mid outs, lo ≤ mid ∧ mid ≤ w.heap.size ∧ HI w lo mid outs W vW ∧ HR w lo mid outs L vL ∧ HR w lo mid outs F vF ∧ HI w lo mid outs R vR ∧ (L ≠ [] → F ≠ [] → blkN vL ≠ blkN vF)
  s : inR .i64 s
theorem CR.same {w w' : World} {lo : Nat} {r : List Int} {v : Value} (h : CR w lo r v) (hb : ∀ b cs ty, Blk w b cs ty → Blk w' b cs ty) : CR w' lo r v := by
  obtain ⟨b, c, rest, ty, rfl, h1, h2, h3, h4, h5⟩ := h
  exact ⟨b, c, rest, ty, rfl, h1, h2, h3, h4, hb _ _ _ h5⟩
theorem HI.same {w w' : World} {lo mid : Nat} {outs : List Nat} {l : List Int} {v : Value} (h : HI w lo mid outs l v) (hb : ∀ b cs ty, Blk w b cs ty → Blk w' b cs ty) : HI w' lo mid outs l v := by
  rcases h with h | ⟨b, c, rest, ty, h1, h2, h3, h4, h5, h6, h7⟩
  · exact .inl h
  · exact .inr ⟨b, c, rest, ty, h1, h2, h3, h4, h5, h6, hb _ _ _ h7⟩
theorem HR.same {w w' : World} {lo mid : Nat} {outs : List Nat} {l : List (List Int)} {v : Value} (h : HR w lo mid outs l v) (hb : ∀ b cs ty, Blk w b cs ty → Blk w' b cs ty) : HR w' lo mid outs l v := by
  rcases h with h | ⟨b, c, h1, h2, h3, h4, h5, vs, rest, ty, h6, h7, h8⟩
  · exact .inl h
  · exact .inr ⟨b, c, h1, h2, h3, h4, h5, vs, rest, ty, hb _ _ _ h6, h7, fun j hj => (h8 j hj).same hb⟩
theorem OwnD.same {lo : Nat} {w w' : World} {W : List Int} {s : Int} {L F : List (List Int)} {R : List Int} {vW vL vF vR : Value} (h : OwnD lo w W s L F R vW vL vF vR) (hs : w.heap.size ≤ w'.heap.size) (hb : ∀ b cs ty, Blk w b cs ty → Blk w' b cs ty) : OwnD lo w' W s L F R vW vL vF vR := by
  obtain ⟨⟨mid, outs, h1, h2, h3, h4, h5, h6, h7⟩, h8⟩ := h
  exact ⟨⟨mid, outs, h1, by omega, h3.same hb, h4.same hb, h5.same hb, h6.same hb, h7⟩, h8⟩
theorem HI.upd {w w' : World} {lo mid : Nat} {outs T : List Nat} {l : List Int} {v : Value} (h : HI w lo mid outs l v) (hu : Upd T w w') (hT : ∀ k ∈ T, k ∈ outs ∨ ∀ cs ty, ¬ Blk w k cs ty) : HI w' lo mid outs l v := by
  rcases h with h | ⟨b, c, rest, ty, h1, h2, h3, h4, h5, h6, h7⟩
  · exact .inl h
  · exact .inr ⟨b, c, rest, ty, h1, h2, h3, h4, h5, h6, hu.blk h7 (fun hk => by
      rcases hT b hk with h | h
      · exact h4 h
      · exact h _ _ h7)⟩
theorem HR.upd {w w' : World} {lo mid : Nat} {outs T : List Nat} {l : List (List Int)} {v : Value} (h : HR w lo mid outs l v) (hu : Upd T w w') (hT : ∀ k ∈ T, (k < mid ∧ k ≠ blkN v) ∨ ∀ cs ty, ¬ Blk w k cs ty) : HR w' lo mid outs l v := by
  rcases h with h | ⟨b, c, h1, h2, h3, h4, h5, vs, rest, ty, h6, h7, h8⟩
  · exact .inl h
  · refine .inr ⟨b, c, h1, h2, h3, h4, h5, vs, rest, ty, hu.blk h6 (fun hk => ?_), h7, fun j hj => (h8 j hj).upd hu (fun hk => ?_)⟩
    · rcases hT b hk with h | h
      · exact h.2 (by rw [h1]; rfl)
      · exact h _ _ h6
    · have h9 := (h8 j hj).lt
      rcases hT _ hk with h | h
      · omega
      · obtain ⟨b', c', rest', ty', e, _, _, _, _, hB⟩ := h8 j hj
        rw [e] at h
        exact h _ _ hB
/-- A list of our own, or nothing. -/
theorem ols_L {g : Gh} {w : World} {y : Ty} {i : Nat} {l : List y.den} {v : Value} (hv : RepV g (.ols i) v) (hb : RepBlk g w i (.lst y l)) : l.length ≤ 1000000 ∧ ((l = [] ∧ ∃ a c, v = .slice a 0 c) ∨
    (l ≠ [] ∧ ∃ b c vs rest ty, v = .slice (some ⟨b, 0, none⟩) l.length c ∧ g.ρ i = some (some (b, c, l.length)) ∧ g.M b = none ∧ Blk w b (vs ++ rest) ty ∧ RepL g.M y l vs ∧ l.length ≤ c)) := by
  obtain ⟨hn, ⟨e, h0⟩ | ⟨b, c, vs, rest, ty, e, h1, h2, ⟨h3, _⟩, _, h5⟩⟩ := hb
  · refine ⟨hn, .inl ⟨h0, ?_⟩⟩
    rcases hv with ⟨_, rfl⟩ | ⟨_, _, _, e2, _⟩
    · exact ⟨none, 0, rfl⟩
    · rw [e] at e2; cases e2
  · refine ⟨hn, ?_⟩
    rcases hv with ⟨e2, _⟩ | ⟨_, _, _, e2, rfl⟩
    · rw [e] at e2; cases e2
    · rw [e] at e2; cases e2
      by_cases h0 : l = []
      · exact .inl ⟨h0, _, c, by rw [h0]; rfl⟩
      · exact .inr ⟨h0, b, c, vs, rest, ty, rfl, e, h5, h1, h2, h3⟩
theorem HI.shape {w : World} {lo mid : Nat} {outs : List Nat} {l : List Int} {v : Value} (h : HI w lo mid outs l v) : ∃ a c, v = .slice a l.length c := by
  rcases h with ⟨rfl, a, c, e⟩ | ⟨b, c, _, _, e, _⟩
  · exact ⟨a, c, e⟩
  · exact ⟨_, c, e⟩
theorem blk_ne {w : World} {b D : Nat} {cs : List Value} {ty : TypeId} {x : Option (List Deferred)} (h : Blk w b cs ty) (hD : w.heap[D]? = some (.deferred x)) : b ≠ D := by
  rintro rfl
  have h : w.heap[b]? = some (.cells cs.toArray ty (0, 0)) := h
  rw [hD] at h; cases h
set_option maxHeartbeats 1000000 in
theorem known_own {N : Nat} {W : List Int} {s : Int} {L F : List (List Int)} {R : List Int} {f t : Nat} {va : Int} (hq : knownp_S N W s L F R f t va = some ((f : Int), (t : Int), va, 0, s, W, L, F, R)) (hL : ∀ r ∈ L, r ≠ [] ∧ r.length ≤ 1000000) (hF : ∀ r ∈ F, r ≠ [] ∧ r.length ≤ 1000000)
    (hf : f < F.length) (ht : t < (F.getD f []).length) (g : Gh) (hρ : ∀ i, g.ρ i = none) (w : World) (hM : ∀ b o, g.M b = some o → w.heap[b]? = some o) (vd : Value) (hvd : RepV g (enc id shG (W, s, L, F, R, ())) vd) (hfi : inR .i64 (f : Int)) (hti : inR .i64 (t : Int)) (hva : inR .i64 va) :
    Fn Try.prog 81 #[vd, .int .i64 (f : Int), .int .i64 (t : Int), .int .i64 va] w (fun v w' => Ext w w' ∧ ∃ vW vL vF vR, v = .agg #[vW, .int .i64 s, vL, vF, vR] ∧ OwnD w.heap.size w' W s L (F.set f ((F.getD f []).set t va)) R vW vL vF vR) := by
  refine run_to (B := knownp_B) (x := knownp_j1_k N) (ins := ⟨[shG, shI, shI, shI], []⟩) (specs := knownp_sp N) (tmps := [0, 1, 2, 3]) (fu := 400) (fun p => knownp_S N p.1.1.1 p.1.1.2.1 p.1.1.2.2.1 p.1.1.2.2.2.1 p.1.1.2.2.2.2.1 p.1.2.1 p.1.2.2.1 p.1.2.2.2.1) knownp_rt (fun _ => rfl) Try.func81 (by kernel_rfl) rfl rfl rfl (by kernel_rfl) (knownp_all N) mixed (by kernel_rfl) (fun p => knownp_eq N p.1.1.1 p.1.1.2.1 p.1.1.2.2.1 p.1.1.2.2.2.1 p.1.1.2.2.2.2.1 p.1.2.1 p.1.2.2.1 p.1.2.2.2.1)
    (((W, s, L, F, R, ()), (f : Int), (t : Int), va, ()), ()) _ hq g w [vd, .int .i64 (f : Int), .int .i64 (t : Int), .int .i64 va] ⟨_, _, rfl, hvd, _, _, rfl, ⟨rfl, hfi⟩, _, _, rfl, ⟨rfl, hti⟩, _, _, rfl, ⟨rfl, hva⟩, rfl⟩ hM hρ _ ?_
  rintro cs ⟨⟨fo, tr, va', u1, u2, u3⟩, ⟨u4, g0, u5, u6, u7, u8⟩, ⟨u9, s', u10, u11, u12, u13⟩, W', L', F', R', u14⟩ hq2 g' a w' hr
  have hq2 : some (fo, tr, va', g0, s', W', L', F', R') = some ((f : Int), (t : Int), va, (0 : Int), s, W, L, F, R) := hq2
  cases hq2
  have h1 : RepV g' (.i .i64 f) (a.tmps.getD 1 undef) := hr.tm 1 _ rfl
  have h2 : RepV g' (.i .i64 t) (a.tmps.getD 2 undef) := hr.tm 2 _ rfl
  have h3 : RepV g' (.i .i64 va) (a.tmps.getD 3 undef) := hr.tm 3 _ rfl
  have h8 : RepV g' (.own 0 0) (a.tmps.getD 8 undef) := hr.tm 8 _ rfl
  have h9 : RepV g' (.own 1 0) (a.tmps.getD 9 undef) := hr.tm 9 _ rfl
  have hB0 : RepBlk g' w' 0 (.segs [.nils, .i .i64 0, .nils, .nils, .nils]) := hr.sim.blk 0 _ rfl
  have hB1 : RepBlk g' w' 1 (.segs [.ols 2, .i .i64 s, .ols 3, .ols 4, .ols 5]) := hr.sim.blk 1 _ rfl
  have hB2 : RepBlk g' w' 2 (.lst (.int .i64) W) := hr.sim.blk 2 _ rfl
  have hB3 : RepBlk g' w' 3 (.lst (.sl (.int .i64)) L) := hr.sim.blk 3 _ rfl
  have hB4 : RepBlk g' w' 4 (.lst (.sl (.int .i64)) F) := hr.sim.blk 4 _ rfl
  have hB5 : RepBlk g' w' 5 (.lst (.int .i64) R) := hr.sim.blk 5 _ rfl
  have hdis : ∀ i j b ci ni cj nj, i < 6 → j < 6 → g'.ρ i = some (some (b, ci, ni)) → g'.ρ j = some (some (b, cj, nj)) → i = j := fun i j b ci ni cj nj hi hj e1 e2 => by
    have hk : ∀ i, i < 6 → ∃ k, (stH knownp_j1_st (((f : Int), (t : Int), va, u1, u2, u3), (u4, 0, u5, u6, u7, u8), (u9, s, u10, u11, u12, u13), W, L, F, R, u14))[i]? = some k ∧ k.mut = true := fun i hi => by
      match i, hi with
      | 0, _ => exact ⟨_, rfl, rfl⟩
      | 1, _ => exact ⟨_, rfl, rfl⟩
      | 2, _ => exact ⟨_, rfl, rfl⟩
      | 3, _ => exact ⟨_, rfl, rfl⟩
      | 4, _ => exact ⟨_, rfl, rfl⟩
      | 5, _ => exact ⟨_, rfl, rfl⟩
    obtain ⟨ki, x1, x2⟩ := hk i hi
    obtain ⟨kj, y1, y2⟩ := hk j hj
    exact hr.sim.inj i j ki kj b ci ni cj nj x1 y1 x2 y2 e1 e2
  simp only [RepV] at h1 h2 h3 h8 h9
  obtain ⟨b0, c0, n0, us0, ty0, e0, hb0, hp0, hm0⟩ := hB0
  obtain ⟨b1, c1, n1, us1, ty1, e1, hb1, hp1, hm1⟩ := hB1
  obtain ⟨_, _, _, e8, h8⟩ := h8
  rw [e0] at e8; cases e8
  obtain ⟨_, _, _, e9, h9⟩ := h9
  rw [e1] at e9; cases e9
  simp only [RepPs, PartOf] at hp0 hp1
  obtain ⟨_, _, rfl, ⟨z1, rfl, -⟩, _, _, rfl, ⟨z2, rfl, -⟩, _, _, rfl, ⟨z3, rfl, -⟩, _, _, rfl, ⟨z4, rfl, -⟩, _, _, rfl, ⟨z5, rfl, -⟩, rfl⟩ := hp0
  obtain ⟨_, _, rfl, ⟨vW, rfl, hvW⟩, _, _, rfl, ⟨vs_, rfl, hvs⟩, _, _, rfl, ⟨vL, rfl, hvL⟩, _, _, rfl, ⟨vF, rfl, hvF⟩, _, _, rfl, ⟨vR, rfl, hvR⟩, rfl⟩ := hp1
  simp only [RepV] at hvs
  obtain ⟨rfl, hsi⟩ := hvs
  have hb0 : Blk w' b0 [z1, z2, z3, z4, z5] ty0 := hb0
  have hb1 : Blk w' b1 [vW, .int .i64 s, vL, vF, vR] ty1 := hb1
  obtain ⟨hWn, hW⟩ := ols_L hvW hB2
  obtain ⟨hLn, hLo⟩ := ols_L hvL hB3
  obtain ⟨hFn, hFo⟩ := ols_L hvF hB4
  obtain ⟨hRn, hRo⟩ := ols_L hvR hB5
  obtain ⟨hF0, _⟩ | ⟨hF0, b3, c3, vs3, rest3, ty3, rfl, e4, hm4, hb3, hR3, hc3⟩ := hFo
  · rw [hF0] at hf; simp at hf
  obtain ⟨a2, c2, b2, S2, rfl, hL2, hL2n, hS2, hL2c⟩ : ∃ (a2 : Option Addr) (c2 b2 : Nat) (S2 : List Nat), vL = .slice a2 L.length c2 ∧ (L ≠ [] → S2 = [b2] ∧ b2 ≠ b3 ∧ a2 = some ⟨b2, 0, none⟩ ∧ ∃ vs0 rest ty, Blk w' b2 (vs0 ++ rest) ty ∧ RepL g'.M (.sl (.int .i64)) L vs0) ∧ (L = [] → S2 = []) ∧
      (∀ b ∈ S2, g'.M b = none ∧ ∃ c n, g'.ρ 3 = some (some (b, c, n))) ∧ (L ≠ [] → L.length ≤ c2) := by
    obtain ⟨hL0, a, c, rfl⟩ | ⟨hL0, b2, c2, vs2, rest2, ty2, rfl, e3, hm3, hb2, hR2, hc2⟩ := hLo
    · exact ⟨a, c, 0, [], by rw [hL0]; rfl, fun h => absurd hL0 h, fun _ => rfl, fun b hb => (by cases hb), fun h => absurd hL0 h⟩
    · refine ⟨_, c2, b2, [b2], rfl, fun _ => ⟨rfl, fun e => ?_, rfl, vs2, rest2, ty2, hb2, hR2⟩, fun h => absurd h hL0, fun b hb => ?_, fun _ => hc2⟩
      · subst e
        have := hdis 3 4 _ _ _ _ _ (by omega) (by omega) e3 e4
        omega
      · simp only [List.mem_singleton] at hb
        subst hb
        exact ⟨hm3, _, _, e3⟩
  have hlt1 := lt_of_blk hb1
  have hSid : ∀ b ∈ S2 ++ [b3], g'.M b = none ∧ ∃ i c n, (i = 3 ∨ i = 4) ∧ g'.ρ i = some (some (b, c, n)) := fun b hb => by
    rcases List.mem_append.1 hb with h | h
    · obtain ⟨x, c, n, y⟩ := hS2 b h
      exact ⟨x, 3, c, n, .inl rfl, y⟩
    · simp only [List.mem_singleton] at h
      subst h
      exact ⟨hm4, 4, _, _, .inr rfl, e4⟩
  have hoff : ∀ i b c n, (i < 3 ∨ i = 5) → g'.ρ i = some (some (b, c, n)) → b ∉ S2 ++ [b3] := fun i b c n hi e h => by
    obtain ⟨_, j, c', n', hj, e'⟩ := hSid _ h
    have := hdis i j _ _ _ _ _ (by omega) (by omega) e e'
    omega
  have h0S : b0 ∉ S2 ++ [b3] := hoff 0 _ _ _ (by omega) e0
  have h1S : b1 ∉ S2 ++ [b3] := hoff 1 _ _ _ (by omega) e1
  have h01 : b0 ≠ b1 := fun e => by
    subst e
    have := hdis 0 1 _ _ _ _ _ (by omega) (by omega) e0 e1
    omega
  have hMw : ∀ b o, g'.M b = some o → b ∉ S2 ++ [b3] ∧ w'.heap[b]? = some o := fun b o h => ⟨fun hb => (by rw [(hSid b hb).1] at h; cases h), hr.sim.mem b o h⟩
  have hHI : ∀ {i : Nat} {l : List Int} {v : Value}, (i = 2 ∨ i = 5) → l.length ≤ 1000000 → ((l = [] ∧ ∃ a c, v = .slice a 0 c) ∨ (l ≠ [] ∧ ∃ b c vs rest ty, v = .slice (some ⟨b, 0, none⟩) l.length c ∧ g'.ρ i = some (some (b, c, l.length)) ∧ g'.M b = none ∧ Blk w' b (vs ++ rest) ty ∧ RepL g'.M (.int .i64) l vs ∧ l.length ≤ c)) → HI w' w.heap.size w'.heap.size (b0 :: (S2 ++ [b3])) l v := by
    intro i l v hi hn h
    rcases h with h | ⟨h0, b, c, vs, rest, ty, e, e2, _, hB, hR, hc⟩
    · exact .inl h
    · obtain ⟨rfl, hin⟩ := (repL_i2 _ _).1 hR
      exact .inr ⟨b, c, rest, ty, e, h0, ⟨hr.oth _ _ _ _ e2, lt_of_blk hB⟩, fun hk => by
        rcases List.mem_cons.1 hk with e3 | hk
        · subst e3
          have := hdis i 0 _ _ _ _ _ (by omega) (by omega) e2 e0
          omega
        · exact hoff i _ _ _ (by omega) e2 hk, ⟨hc, hn⟩, hin, hB⟩
  have hHW := hHI (.inl rfl) hWn hW
  have hHR := hHI (.inr rfl) hRn hRo
  obtain ⟨aW, cW, rfl⟩ := hHW.shape
  obtain ⟨aR, cR, rfl⟩ := hHR.shape
  obtain ⟨Ds, hds, hnd, hDs⟩ := hr.marks
  have hwalk := known_walk (X := fctx Try.prog 81 (fun v w' => Ext w w' ∧ ∃ vW vL vF vR, v = .agg #[vW, .int .i64 s, vL, vF, vR] ∧ OwnD w.heap.size w' W s L (F.set f ((F.getD f []).set t va)) R vW vL vF vR) cs) (df := a.defers) (M := g'.M) a2 c2 c3 b0 b1 b2 b3 f t va L F vs3 rest3 ty3 S2 w' hMw h1S hlt1 hL2 hL2n hb3 hR3 hLn hFn hL hF hf ht hva (Blk.cell hb1 rfl) (Blk.cell hb1 rfl) (fun w2 hu hRL hRF => ?_)
  · have e : (knownp_j1_k N).at_.map (itm knownp_B.c) = K81_4 := by kernel_rfl
    rw [e]
    refine St.toAt (tm := a.tmps) hwalk ⟨hr.sz, has_mem _ (fun x hx => ?_)⟩
    simp only [List.mem_cons, List.not_mem_nil, or_false] at hx
    rcases hx with rfl | rfl | rfl | rfl | rfl
    · exact h1.1
    · exact h2.1
    · exact h3.1
    · exact h8
    · exact h9
  · have hb1' := hu.blk hb1 h1S
    have hb0' := hu.blk hb0 h0S
    rw [hds]
    refine St.reg [.code (sub c81 [1, 1, 1, 1, 1, 1, 1])] [(0, true), (1, false)] (by kernel_rfl) (by kernel_rfl) ?_
    refine RX.q 1 [(0, true, .agg #[.slice aW W.length cW, .int .i64 s, .slice a2 L.length c2, .slice (some ⟨b3, 0, none⟩) F.length c3, .slice aR R.length cR])] [(71, .agg #[.slice aW W.length cW, .int .i64 s, .slice a2 L.length c2, .slice (some ⟨b3, 0, none⟩) F.length c3, .slice aR R.length cR]), (8, .pointer (some ⟨b0, 0, none⟩))] [.cells ⟨b1, 0, none⟩ [.slice aW W.length cW, .int .i64 s, .slice a2 L.length c2, .slice (some ⟨b3, 0, none⟩) F.length c3, .slice aR R.length cR]] (by kernel_rfl) (Seg.row hb1' (fun j u hj => by rw [Nat.zero_add]; exact hj)) ?_
    refine RX.store b0 0 [.slice aW W.length cW, .int .i64 s, .slice a2 L.length c2, .slice (some ⟨b3, 0, none⟩) F.length c3, .slice aR R.length cR] [z1, z2, z3, z4, z5] [.slice aW W.length cW, .int .i64 s, .slice a2 L.length c2, .slice (some ⟨b3, 0, none⟩) F.length c3, .slice aR R.length cR] ty0 (by kernel_rfl) rfl hb0' (by kernel_rfl) rfl ?_
    intro w3 hp
    refine RX.done [(8, .pointer (some ⟨b0, 0, none⟩))] (by kernel_rfl) (by kernel_rfl) ?_
    have hD2 : ∀ D ∈ Ds, w2.heap[D]? = some (.deferred (some [])) := fun D hD => hu.blk (hDs D hD).2 (fun hk => by
      obtain ⟨_, i, c, n, hi, e⟩ := hSid D hk
      rcases hi with rfl | rfl
      · by_cases hL0 : L = []
        · rw [hL2n hL0] at hk
          simp only [List.nil_append, List.mem_singleton] at hk
          exact blk_ne hb3 (hDs D hD).2 hk.symm
        · obtain ⟨x1, x2, x3, vs0, r0, t0, x4, _⟩ := hL2 hL0
          rw [x1] at hk
          rcases List.mem_append.1 hk with hk | hk <;> simp only [List.mem_singleton] at hk
          · exact blk_ne x4 (hDs D hD).2 hk.symm
          · exact blk_ne hb3 (hDs D hD).2 hk.symm
      · by_cases hL0 : L = []
        · rw [hL2n hL0] at hk
          simp only [List.nil_append, List.mem_singleton] at hk
          exact blk_ne hb3 (hDs D hD).2 hk.symm
        · obtain ⟨x1, x2, x3, vs0, r0, t0, x4, _⟩ := hL2 hL0
          rw [x1] at hk
          rcases List.mem_append.1 hk with hk | hk <;> simp only [List.mem_singleton] at hk
          · exact blk_ne x4 (hDs D hD).2 hk.symm
          · exact blk_ne hb3 (hDs D hD).2 hk.symm)
    have hD3 : ∀ D ∈ Ds, w3.heap[D]? = some (.deferred (some [])) := fun D hD => hp.upd.blk (hD2 D hD) (fun hk => by
      simp only [List.mem_singleton] at hk
      exact blk_ne hb0' (hD2 D hD) hk.symm)
    refine St.retMarks Ds [.cell 8 26] [.agg #[.slice aW W.length cW, .int .i64 s, .slice a2 L.length c2, .slice (some ⟨b3, 0, none⟩) F.length c3, .slice aR R.length cR]] (by kernel_rfl) Try.func81 (by kernel_rfl) hnd hD3 (fun w4 hu4 hs4 => ?_)
    have hb4 := hu4.blk hp.blk (fun hk => by
      have h := hD3 _ hk
      rw [hp.blk] at h; cases h)
    refine ⟨.cons (.cells (p := ⟨b0, 0, none⟩) (by kernel_rfl) (by kernel_rfl) (by kernel_rfl) (Seg.row hb4 (fun j u hj => by rw [Nat.zero_add]; exact hj))) .nil, ?_, _, _, _, _, rfl, ?_⟩
    · refine ((hr.ext.trans_old hu (fun k hk => ?_)).trans_old hp.upd (fun k hk => ?_)).trans_old hu4 (fun k hk => (hDs k hk).1)
      · obtain ⟨_, i, c, n, _, e⟩ := hSid k hk
        exact hr.oth _ _ _ _ e
      · simp only [List.mem_singleton] at hk
        subst hk
        exact hr.oth _ _ _ _ e0
    · have nB : ∀ k ∈ Ds, ∀ cs ty, ¬ Blk w3 k cs ty := fun k hk cs ty h => blk_ne h (hD3 k hk) rfl
      have up1 : ∀ {l v}, HI w' w.heap.size w'.heap.size (b0 :: (S2 ++ [b3])) l v → HI w4 w.heap.size w'.heap.size (b0 :: (S2 ++ [b3])) l v := fun h =>
        ((h.upd hu (fun k hk => .inl (List.mem_cons_of_mem _ hk))).upd hp.upd (fun k hk => .inl (by simp only [List.mem_singleton] at hk; subst hk; exact List.mem_cons_self))).upd hu4 (fun k hk => .inr (nB k hk))
      have h03 : b0 ≠ b3 := fun e => h0S (by rw [e]; simp)
      have hsz := hu.size; have hsz3 := hp.size; have hsz4 := hu4.size
      have hlt0 := lt_of_blk hb0
      have hoL : ∀ b ∈ S2 ++ [b3], w.heap.size ≤ b ∧ b < w'.heap.size := fun b hb => by
        obtain ⟨_, i, c, n, hi, e⟩ := hSid b hb
        refine ⟨hr.oth _ _ _ _ e, ?_⟩
        by_cases hL0 : L = []
        · rw [hL2n hL0] at hb
          simp only [List.nil_append, List.mem_singleton] at hb
          subst hb; exact lt_of_blk hb3
        · obtain ⟨x1, x2, x3, vs0, r0, t0, x4, _⟩ := hL2 hL0
          rw [x1] at hb
          rcases List.mem_append.1 hb with hb | hb <;> simp only [List.mem_singleton] at hb <;> subst hb
          · exact lt_of_blk x4
          · exact lt_of_blk hb3
      refine ⟨⟨w'.heap.size, b0 :: (S2 ++ [b3]), hr.ext.size, by omega, up1 hHW, ?_, ?_, up1 hHR, fun hL0 _ => ?_⟩, hsi⟩
      · by_cases hL0 : L = []
        · exact .inl ⟨hL0, a2, c2, by rw [hL0]; rfl⟩
        · obtain ⟨x1, x2, rfl, x4⟩ := hL2 hL0
          have hm : b2 ∈ S2 ++ [b3] := by rw [x1]; simp
          have h : HR w2 w.heap.size w'.heap.size (b0 :: (S2 ++ [b3])) L (.slice (some ⟨b2, 0, none⟩) L.length c2) := .inr ⟨b2, c2, rfl, hL0, hoL b2 hm, List.mem_cons_of_mem _ hm, ⟨hL2c hL0, hLn⟩, hRL hL0⟩
          refine (h.upd hp.upd (fun k hk => .inl ?_)).upd hu4 (fun k hk => .inr (nB k hk))
          simp only [List.mem_singleton] at hk
          subst hk
          exact ⟨hlt0, fun e => h0S (by rw [show k = b2 from e]; exact hm)⟩
      · have hm : b3 ∈ S2 ++ [b3] := by simp
        have h : HR w2 w.heap.size w'.heap.size (b0 :: (S2 ++ [b3])) (F.set f ((F.getD f []).set t va)) (.slice (some ⟨b3, 0, none⟩) F.length c3) := .inr ⟨b3, c3, by rw [List.length_set], fun e => hF0 (List.eq_nil_of_length_eq_zero (by have := congrArg List.length e; simpa using this)), hoL b3 hm, List.mem_cons_of_mem _ hm, ⟨by rw [List.length_set]; exact hc3, by rw [List.length_set]; exact hFn⟩, hRF⟩
        refine (h.upd hp.upd (fun k hk => .inl ?_)).upd hu4 (fun k hk => .inr (nB k hk))
        simp only [List.mem_singleton] at hk
        subst hk
        exact ⟨hlt0, h03⟩
      · obtain ⟨x1, x2, rfl, x4⟩ := hL2 hL0
        exact x2
end Go.Proofs.Ythncjilcflilcaa

namespace Go.Proofs.Ythncjilcflilcaa
set_option linter.all false
open Go

theorem HI.upd2 {w w' : World} {lo mid : Nat} {outs T : List Nat} {l : List Int} {v : Value} (h : HI w lo mid outs l v) (hu : Upd T w w') (hT : ∀ k ∈ T, k < lo ∨ ∀ cs ty, ¬ Blk w k cs ty) : HI w' lo mid outs l v := by
  rcases h with h | ⟨b, c, rest, ty, h1, h2, h3, h4, h5, h6, h7⟩
  · exact .inl h
  · exact .inr ⟨b, c, rest, ty, h1, h2, h3, h4, h5, h6, hu.blk h7 (fun hk => by
      rcases hT b hk with h | h
      · omega
      · exact h _ _ h7)⟩
theorem HR.upd2 {w w' : World} {lo mid : Nat} {outs T : List Nat} {l : List (List Int)} {v : Value} (h : HR w lo mid outs l v) (hm : lo ≤ mid) (hu : Upd T w w') (hT : ∀ k ∈ T, k < lo ∨ ∀ cs ty, ¬ Blk w k cs ty) : HR w' lo mid outs l v := by
  rcases h with h | ⟨b, c, h1, h2, h3, h4, h5, vs, rest, ty, h6, h7, h8⟩
  · exact .inl h
  · refine .inr ⟨b, c, h1, h2, h3, h4, h5, vs, rest, ty, hu.blk h6 (fun hk => ?_), h7, fun j hj => (h8 j hj).upd hu (fun hk => ?_)⟩
    · rcases hT b hk with h | h
      · omega
      · exact h _ _ h6
    · have h9 := (h8 j hj).lt
      rcases hT _ hk with h | h
      · omega
      · obtain ⟨b', c', rest', ty', e, _, _, _, _, hB⟩ := h8 j hj
        rw [e] at h
        exact h _ _ hB
theorem HI.low {w : World} {lo lo' mid : Nat} {outs : List Nat} {l : List Int} {v : Value} (h : HI w lo mid outs l v) (hl : lo' ≤ lo) : HI w lo' mid outs l v := by
  rcases h with h | ⟨b, c, rest, ty, h1, h2, h3, h4⟩
  · exact .inl h
  · exact .inr ⟨b, c, rest, ty, h1, h2, ⟨by omega, h3.2⟩, h4⟩
theorem HR.low {w : World} {lo lo' mid : Nat} {outs : List Nat} {l : List (List Int)} {v : Value} (h : HR w lo mid outs l v) (hl : lo' ≤ lo) : HR w lo' mid outs l v := by
  rcases h with h | ⟨b, c, h1, h2, h3, h4⟩
  · exact .inl h
  · exact .inr ⟨b, c, h1, h2, ⟨by omega, h3.2⟩, h4⟩
section
variable {lo lo' : Nat} {w w' : World} {W : List Int} {s : Int} {L F : List (List Int)} {R : List Int} {vW vL vF vR : Value}
theorem OwnD.upd {T : List Nat} (h : OwnD lo w W s L F R vW vL vF vR) (hu : Upd T w w') (hT : ∀ k ∈ T, k < lo ∨ ∀ cs ty, ¬ Blk w k cs ty) : OwnD lo w' W s L F R vW vL vF vR := by
  obtain ⟨⟨mid, outs, h1, h2, h3, h4, h5, h6, h7⟩, h8⟩ := h
  have := hu.size
  exact ⟨⟨mid, outs, h1, by omega, h3.upd2 hu hT, h4.upd2 h1 hu hT, h5.upd2 h1 hu hT, h6.upd2 hu hT, h7⟩, h8⟩
theorem OwnD.low (h : OwnD lo w W s L F R vW vL vF vR) (hl : lo' ≤ lo) : OwnD lo' w W s L F R vW vL vF vR := by
  obtain ⟨⟨mid, outs, h1, h2, h3, h4, h5, h6, h7⟩, h8⟩ := h
  exact ⟨⟨mid, outs, by omega, h2, h3.low hl, h4.low hl, h5.low hl, h6.low hl, h7⟩, h8⟩
theorem HR.shape {mid : Nat} {outs : List Nat} {l : List (List Int)} {v : Value} (h : HR w lo mid outs l v) : ∃ a c, v = .slice a l.length c := by
  rcases h with ⟨rfl, a, c, e⟩ | ⟨b, c, e, _⟩
  · exact ⟨a, c, e⟩
  · exact ⟨_, c, e⟩
theorem OwnD.shape (h : OwnD lo w W s L F R vW vL vF vR) : (∃ a c, vW = .slice a W.length c) ∧ (∃ a c, vL = .slice a L.length c) ∧ (∃ a c, vF = .slice a F.length c) ∧ ∃ a c, vR = .slice a R.length c := by
  obtain ⟨⟨mid, outs, h1, h2, h3, h4, h5, h6, h7⟩, h8⟩ := h
  exact ⟨h3.shape, h4.shape, h5.shape, h6.shape⟩
end
set_option maxHeartbeats 1000000 in
theorem with_own {N : Nat} {W : List Int} {s : Int} {L F : List (List Int)} {R : List Int} {f t : Nat} {va : Int} (hq0 : withp_S N W s L F R f t va = some ((f : Int), (t : Int), va, W, s, L, F, R, 0)) (hq : knownp_S N W s L F R f t va = some ((f : Int), (t : Int), va, 0, s, W, L, F, R)) (hL : ∀ r ∈ L, r ≠ [] ∧ r.length ≤ 1000000) (hF : ∀ r ∈ F, r ≠ [] ∧ r.length ≤ 1000000)
    (hf : f < F.length) (ht : t < (F.getD f []).length) (g : Gh) (hρ : ∀ i, g.ρ i = none) (w : World) (hM : ∀ b o, g.M b = some o → w.heap[b]? = some o) (vd : Value) (hvd : RepV g (enc id shG (W, s, L, F, R, ())) vd) (hfi : inR .i64 (f : Int)) (hti : inR .i64 (t : Int)) (hva : inR .i64 va) :
    Fn Try.prog 31 #[vd, .int .i64 (f : Int), .int .i64 (t : Int), .int .i64 va] w (fun v w' => Ext w w' ∧ ∃ vW vL vF vR, v = .tuple #[.agg #[vW, .int .i64 s, vL, vF, vR], .int .i64 0] ∧ OwnD w.heap.size w' W s L (F.set f ((F.getD f []).set t va)) R vW vL vF vR) := by
  refine run_to (B := withp_B) (x := withp_j1_k N) (ins := ⟨[shG, shI, shI, shI], []⟩) (specs := withp_sp N) (tmps := [0, 1, 2, 3]) (fu := 400) (fun p => withp_S N p.1.1.1 p.1.1.2.1 p.1.1.2.2.1 p.1.1.2.2.2.1 p.1.1.2.2.2.2.1 p.1.2.1 p.1.2.2.1 p.1.2.2.2.1) withp_rt (fun _ => rfl) Try.func31 (by kernel_rfl) rfl rfl rfl (by kernel_rfl) (withp_all N) mixed (by kernel_rfl) (fun p => withp_eq N p.1.1.1 p.1.1.2.1 p.1.1.2.2.1 p.1.1.2.2.2.1 p.1.1.2.2.2.2.1 p.1.2.1 p.1.2.2.1 p.1.2.2.2.1)
    (((W, s, L, F, R, ()), (f : Int), (t : Int), va, ()), ()) _ hq0 g w [vd, .int .i64 (f : Int), .int .i64 (t : Int), .int .i64 va] ⟨_, _, rfl, hvd, _, _, rfl, ⟨rfl, hfi⟩, _, _, rfl, ⟨rfl, hti⟩, _, _, rfl, ⟨rfl, hva⟩, rfl⟩ hM hρ _ ?_
  rintro cs ⟨⟨fo, tr, va', u1, u2, u3⟩, ⟨W', s', L', F', R', u4⟩, ⟨u5, g0, u6, u7, u8, u9⟩, u14⟩ hq2 g' a w' hr
  have hq2 : some (fo, tr, va', W', s', L', F', R', g0) = some ((f : Int), (t : Int), va, W, s, L, F, R, (0 : Int)) := hq2
  cases hq2
  have h1 : RepV g' (.i .i64 f) (a.tmps.getD 1 undef) := hr.tm 1 _ rfl
  have h2 : RepV g' (.i .i64 t) (a.tmps.getD 2 undef) := hr.tm 2 _ rfl
  have h3 : RepV g' (.i .i64 va) (a.tmps.getD 3 undef) := hr.tm 3 _ rfl
  have h4 : RepV g' (.own 0 0) (a.tmps.getD 4 undef) := hr.tm 4 _ rfl
  have h8 : RepV g' (.own 1 0) (a.tmps.getD 8 undef) := hr.tm 8 _ rfl
  have hB0 : RepBlk g' w' 0 (.segs [.sl (.int .i64) W, .i .i64 s, .sl (.sl (.int .i64)) L, .sl (.sl (.int .i64)) F, .sl (.int .i64) R]) := hr.sim.blk 0 _ rfl
  have hB1 : RepBlk g' w' 1 (.segs [.nils, .i .i64 0, .nils, .nils, .nils]) := hr.sim.blk 1 _ rfl
  simp only [RepV] at h1 h2 h3 h4 h8
  obtain ⟨b0, c0, n0, us0, ty0, e0, hb0, hp0, hm0⟩ := hB0
  obtain ⟨b1, c1, n1, us1, ty1, e1, hb1, hp1, hm1⟩ := hB1
  obtain ⟨_, _, _, e4, h4⟩ := h4
  rw [e0] at e4; cases e4
  obtain ⟨_, _, _, e8, h8⟩ := h8
  rw [e1] at e8; cases e8
  simp only [RepPs, PartOf] at hp0 hp1
  obtain ⟨_, _, rfl, ⟨xW, rfl, hxW⟩, _, _, rfl, ⟨xs, rfl, hxs⟩, _, _, rfl, ⟨xL, rfl, hxL⟩, _, _, rfl, ⟨xF, rfl, hxF⟩, _, _, rfl, ⟨xR, rfl, hxR⟩, rfl⟩ := hp0
  obtain ⟨_, _, rfl, ⟨z1, rfl, -⟩, _, _, rfl, ⟨z2, rfl, -⟩, _, _, rfl, ⟨z3, rfl, -⟩, _, _, rfl, ⟨z4, rfl, -⟩, _, _, rfl, ⟨z5, rfl, -⟩, rfl⟩ := hp1
  have hb0 : Blk w' b0 [xW, xs, xL, xF, xR] ty0 := hb0
  have hb1 : Blk w' b1 [z1, z2, z3, z4, z5] ty1 := hb1
  obtain ⟨Ds, hds, hnd, hDs⟩ := hr.marks
  have e : (withp_j1_k N).at_.map (itm withp_B.c) = [.code (sub withp_c [1, 1, 1, 0]), .code (sub withp_c [1, 1, 1, 1])] := by kernel_rfl
  rw [e]
  refine St.toAt (tm := a.tmps) (n := 58) (L := [(1, .int .i64 (f : Int)), (2, .int .i64 (t : Int)), (3, .int .i64 va), (4, .pointer (some ⟨b0, 0, none⟩)), (8, .pointer (some ⟨b1, 0, none⟩))]) ?_ ⟨hr.sz, has_mem _ (fun x hx => ?_)⟩
  rotate_left
  · simp only [List.mem_cons, List.not_mem_nil, or_false] at hx
    rcases hx with rfl | rfl | rfl | rfl | rfl
    · exact h1.1
    · exact h2.1
    · exact h3.1
    · exact h4
    · exact h8
  rw [hds]
  refine St.reg [.code (sub withp_c [1, 1, 1, 1])] [(0, true), (1, true), (2, true), (3, true), (4, false), (5, false), (6, true)] (by kernel_rfl) (by kernel_rfl) ?_
  refine RX.q 4 [(0, true, .agg #[xW, xs, xL, xF, xR])] [(53, .agg #[xW, xs, xL, xF, xR]), (54, .int .i64 (f : Int)), (55, .int .i64 (t : Int)), (56, .int .i64 va), (8, .pointer (some ⟨b1, 0, none⟩))] [.cells ⟨b0, 0, none⟩ [xW, xs, xL, xF, xR]] (by kernel_rfl) (Seg.row hb0 (fun j u hj => by rw [Nat.zero_add]; exact hj)) ?_
  refine RX.call 57 81 #[.agg #[xW, xs, xL, xF, xR], .int .i64 (f : Int), .int .i64 (t : Int), .int .i64 va] [(53, .agg #[xW, xs, xL, xF, xR]), (54, .int .i64 (f : Int)), (55, .int .i64 (t : Int)), (56, .int .i64 va), (8, .pointer (some ⟨b1, 0, none⟩))] (fun _ => by kernel_rfl) (by kernel_rfl) ?_
  refine Fn.mono (known_own hq hL hF hf ht ⟨fun _ => none, g'.M⟩ (fun _ => rfl) w' hr.sim.mem (.agg #[xW, xs, xL, xF, xR]) ⟨[xW, xs, xL, xF, xR], rfl, [xW], _, rfl, ⟨_, rfl, hxW⟩, [xs], _, rfl, ⟨_, rfl, hxs⟩, [xL], _, rfl, ⟨_, rfl, hxL⟩, [xF], _, rfl, ⟨_, rfl, hxF⟩, [xR], _, rfl, ⟨_, rfl, hxR⟩, rfl⟩ hfi hti hva) ?_
  rintro _ w2 ⟨hx2, vW, vL, vF, vR, rfl, hO⟩
  obtain ⟨⟨aW, cW, rfl⟩, ⟨aL, cL, rfl⟩, ⟨aF, cF, rfl⟩, aR, cR, rfl⟩ := hO.shape
  have hb1' := hx2.blk hb1
  refine RX.store b1 0 [.slice aW W.length cW, .int .i64 s, .slice aL L.length cL, .slice aF (F.set f ((F.getD f []).set t va)).length cF, .slice aR R.length cR] [z1, z2, z3, z4, z5] [.slice aW W.length cW, .int .i64 s, .slice aL L.length cL, .slice aF (F.set f ((F.getD f []).set t va)).length cF, .slice aR R.length cR] ty1 (by kernel_rfl) rfl hb1' (by kernel_rfl) rfl ?_
  intro w3 hp
  refine RX.q 1 [] [(8, .pointer (some ⟨b1, 0, none⟩)), (9, .int .i64 0)] [] (by kernel_rfl) trivial ?_
  refine RX.done [(8, .pointer (some ⟨b1, 0, none⟩)), (9, .int .i64 0)] (by kernel_rfl) (by kernel_rfl) ?_
  have hD3 : ∀ D ∈ Ds, w3.heap[D]? = some (.deferred (some [])) := fun D hD => hp.upd.blk (hx2.blk (hDs D hD).2) (fun hk => by
    simp only [List.mem_singleton] at hk
    exact blk_ne hb1' (hx2.blk (hDs D hD).2) hk.symm)
  refine St.retMarks Ds [.cell 8 26, .tmp 9] [.agg #[.slice aW W.length cW, .int .i64 s, .slice aL L.length cL, .slice aF (F.set f ((F.getD f []).set t va)).length cF, .slice aR R.length cR], .int .i64 0] (by kernel_rfl) Try.func31 (by kernel_rfl) hnd hD3 (fun w4 hu4 hs4 => ?_)
  have hb4 := hu4.blk hp.blk (fun hk => by
    have h := hD3 _ hk
    rw [hp.blk] at h; cases h)
  have nB : ∀ k ∈ Ds, ∀ cs ty, ¬ Blk w3 k cs ty := fun k hk cs ty h => blk_ne h (hD3 k hk) rfl
  have hlt1 := lt_of_blk hb1
  refine ⟨.cons (.cells (p := ⟨b1, 0, none⟩) (by kernel_rfl) (by kernel_rfl) (by kernel_rfl) (Seg.row hb4 (fun j u hj => by rw [Nat.zero_add]; exact hj))) (.cons (.tmp (by kernel_rfl)) .nil), ?_, _, _, _, _, rfl, ?_⟩
  · refine ((hr.ext.trans hx2).trans_old hp.upd (fun k hk => ?_)).trans_old hu4 (fun k hk => (hDs k hk).1)
    simp only [List.mem_singleton] at hk
    subst hk
    exact hr.oth _ _ _ _ e1
  · exact ((hO.upd hp.upd (fun k hk => .inl (by simp only [List.mem_singleton] at hk; subst hk; exact hlt1))).upd hu4 (fun k hk => .inr (nB k hk))).low hr.ext.size
end Go.Proofs.Ythncjilcflilcaa

namespace Go.Proofs.Ythncjilcflilcaa
set_option linter.all false
open Go

/-- Elements of a stretch are set to zero. -/
theorem clear_fit {P : Program} {t e : TypeId} {sz by_ : Nat} {z : Value} (hT : ElemT P t e sz by_ z) (hzf : ∀ x ∈ z.cells.toList, flat x = true) {ty bty : TypeId} {w : World} {b k c n : Nat} {l : List Value} (hB : Blk w b l bty) (hn : 0 < n) (hl : k * sz + n * sz ≤ l.length) :
    (Builtin.clear_ #[t] ty #[.slice (some ⟨b, k * sz, none⟩) n c]).run P w = .ok (.tuple #[]) { w with heap := w.heap.setIfInBounds b (.cells (l.take (k * sz) ++ (List.replicate n z.cells.toList).flatten ++ l.drop (k * sz + n * sz)).toArray bty (0, 0)) } := by
  have hz2 : (Builtin.zeroCells z.cells n).toList = (List.replicate n z.cells.toList).flatten := by
    have := range_map_rep z.cells n (by rw [hT.zsz]; exact hT.pos)
    simp only [Builtin.zeroCells]
    rw [this]
  have hln : (List.replicate n z.cells.toList).flatten.length = n * sz := by
    have : z.cells.toList.length = sz := by rw [Array.length_toList, hT.zsz]
    simp [this]
  have hfl : ∀ x ∈ (List.replicate n z.cells.toList).flatten, flat x = true := by
    intro x hx
    simp only [List.mem_flatten, List.mem_replicate] at hx
    obtain ⟨y, ⟨_, rfl⟩, hx⟩ := hx
    exact hzf x hx
  have hst := storeCells_run (P := P) _ (k * sz) 0 l w hfl (by rw [hln]; omega) hB
  rw [Nat.add_zero, hln] at hst
  obtain ⟨n, rfl⟩ : ∃ q, n = q + 1 := ⟨n - 1, by omega⟩
  have hund := Sem.pv_run P _ _ hT.und
  have hzr := Sem.pv_run P _ _ hT.zero w
  simp only [Builtin.clear_, List.getElem?_toArray, List.getElem?_cons_zero, Sem.run_bind, hund, Result.andThen_ok, hzr, hz2, hst, Sem.run_pure]
theorem RepC.flat1 {M : Nat → Option Obj} {t : Ty} {x : t.den} {us : List Value} (h : RepC M t x us) : ∀ u ∈ us, flat u = true := (RepL.len [x] us ⟨us, [], by simp, h, rfl⟩).2
end Go.Proofs.Ythncjilcflilcaa

namespace Go.Proofs.Ythncjilcflilcaa
set_option linter.all false
open Go

noncomputable def c6 : Code := (Try.f6.body).getD .skip
noncomputable def K6_6 : List Item := [.code (sub c6 [1, 1, 1, 0]), .code (sub c6 [1, 1, 1, 1])]
noncomputable def K6_7 : List Item := [.code (sub c6 [1, 1, 1, 1, 0]), .code (sub c6 [1, 1, 1, 1, 1])]
noncomputable def K6_8 : List Item := [.code (sub c6 [1, 1, 1, 1, 1, 0, 0]), .code (sub c6 [1, 1, 1, 1, 1, 0, 1]), .code (sub c6 [1, 1, 1, 1, 1, 1])]
noncomputable def K6_9 : List Item := [.code (sub c6 [1, 1, 1, 1, 1, 0, 1]), .code (sub c6 [1, 1, 1, 1, 1, 1])]
noncomputable def K6_10 : List Item := [.code (sub c6 [1, 1, 1, 1, 1, 0, 1, 0, 0]), .code (sub c6 [1, 1, 1, 1, 1, 0, 1, 0, 1]), .code (sub c6 [1, 1, 1, 1, 1, 1])]
noncomputable def K6_11 : List Item := [.code (sub c6 [1, 1, 1, 1, 1, 1, 0]), .code (sub c6 [1, 1, 1, 1, 1, 1, 1])]
noncomputable def K6_13 : List Item := [.code (sub c6 [1, 1, 1, 1, 1, 1, 1, 0]), .code (sub c6 [1, 1, 1, 1, 1, 1, 1, 1])]
noncomputable def K6_14 : List Item := [.code (sub c6 [1, 1, 1, 1, 1, 1, 1, 1, 0, 0]), .code (sub c6 [1, 1, 1, 1, 1, 1, 1, 1, 0, 1]), .code (sub c6 [1, 1, 1, 1, 1, 1, 1, 1, 1])]
noncomputable def K6_15 : List Item := [.code (sub c6 [1, 1, 1, 1, 1, 1, 1, 1, 0, 1, 0, 0, 0]), .code (sub c6 [1, 1, 1, 1, 1, 1, 1, 1, 0, 1, 0, 0, 1]), .inLoop (sub c6 [1, 1, 1, 1, 1, 1, 1, 1, 0, 1, 0, 0]), .inBlock 0, .code (sub c6 [1, 1, 1, 1, 1, 1, 1, 1, 1])]
noncomputable def K6_16 : List Item := [.code (sub c6 [1, 1, 1, 1, 1, 1, 1, 1, 0, 1, 0, 0, 1, 0]), .code (sub c6 [1, 1, 1, 1, 1, 1, 1, 1, 0, 1, 0, 0, 1, 1]), .inLoop (sub c6 [1, 1, 1, 1, 1, 1, 1, 1, 0, 1, 0, 0]), .inBlock 0, .code (sub c6 [1, 1, 1, 1, 1, 1, 1, 1, 1])]
noncomputable def K6_17 : List Item := [.code (sub c6 [1, 1, 1, 1, 1, 1, 1, 1, 0, 1, 0, 0, 1, 1, 0, 0, 0]), .code (sub c6 [1, 1, 1, 1, 1, 1, 1, 1, 0, 1, 0, 0, 1, 1, 0, 0, 1]), .inBlock 1, .code (sub c6 [1, 1, 1, 1, 1, 1, 1, 1, 0, 1, 0, 0, 1, 1, 1]), .inLoop (sub c6 [1, 1, 1, 1, 1, 1, 1, 1, 0, 1, 0, 0]), .inBlock 0, .code (sub c6 [1, 1, 1, 1, 1, 1, 1, 1, 1])]
noncomputable def K6_18 : List Item := [.code (sub c6 [1, 1, 1, 1, 1, 1, 1, 1, 1, 0]), .code (sub c6 [1, 1, 1, 1, 1, 1, 1, 1, 1, 1])]
noncomputable def K6_19 : List Item := [.code (sub c6 [1, 1, 1, 1, 1, 1, 1, 1, 0, 1, 0, 0, 1, 1, 0, 0, 1, 0, 0]), .code (sub c6 [1, 1, 1, 1, 1, 1, 1, 1, 0, 1, 0, 0, 1, 1, 0, 0, 1, 0, 1]), .code (sub c6 [1, 1, 1, 1, 1, 1, 1, 1, 0, 1, 0, 0, 1, 1, 0, 0, 1, 1]), .inBlock 1, .code (sub c6 [1, 1, 1, 1, 1, 1, 1, 1, 0, 1, 0, 0, 1, 1, 1]), .inLoop (sub c6 [1, 1, 1, 1, 1, 1, 1, 1, 0, 1, 0, 0]), .inBlock 0, .code (sub c6 [1, 1, 1, 1, 1, 1, 1, 1, 1])]
noncomputable def K6_21 : List Item := [.code (sub c6 [1, 1, 1, 1, 1, 1, 1, 1, 0, 1, 0, 0, 1, 1, 0, 0, 1, 0, 1, 0, 0, 0]), .code (sub c6 [1, 1, 1, 1, 1, 1, 1, 1, 0, 1, 0, 0, 1, 1, 0, 0, 1, 0, 1, 0, 0, 1]), .inLoop (sub c6 [1, 1, 1, 1, 1, 1, 1, 1, 0, 1, 0, 0, 1, 1, 0, 0, 1, 0, 1, 0, 0]), .inBlock 2, .code (sub c6 [1, 1, 1, 1, 1, 1, 1, 1, 0, 1, 0, 0, 1, 1, 0, 0, 1, 1]), .inBlock 1, .code (sub c6 [1, 1, 1, 1, 1, 1, 1, 1, 0, 1, 0, 0, 1, 1, 1]), .inLoop (sub c6 [1, 1, 1, 1, 1, 1, 1, 1, 0, 1, 0, 0]), .inBlock 0, .code (sub c6 [1, 1, 1, 1, 1, 1, 1, 1, 1])]
noncomputable def K6_22 : List Item := [.code (sub c6 [1, 1, 1, 1, 1, 1, 1, 1, 0, 1, 0, 0, 1, 1, 0, 0, 1, 0, 1, 0, 0, 1, 0]), .code (sub c6 [1, 1, 1, 1, 1, 1, 1, 1, 0, 1, 0, 0, 1, 1, 0, 0, 1, 0, 1, 0, 0, 1, 1]), .inLoop (sub c6 [1, 1, 1, 1, 1, 1, 1, 1, 0, 1, 0, 0, 1, 1, 0, 0, 1, 0, 1, 0, 0]), .inBlock 2, .code (sub c6 [1, 1, 1, 1, 1, 1, 1, 1, 0, 1, 0, 0, 1, 1, 0, 0, 1, 1]), .inBlock 1, .code (sub c6 [1, 1, 1, 1, 1, 1, 1, 1, 0, 1, 0, 0, 1, 1, 1]), .inLoop (sub c6 [1, 1, 1, 1, 1, 1, 1, 1, 0, 1, 0, 0]), .inBlock 0, .code (sub c6 [1, 1, 1, 1, 1, 1, 1, 1, 1])]
noncomputable def K6_23 : List Item := [.code (sub c6 [1, 1, 1, 1, 1, 1, 1, 1, 0, 1, 0, 0, 1, 1, 0, 0, 1, 0, 1, 0, 0, 1, 1, 0, 0, 0]), .code (sub c6 [1, 1, 1, 1, 1, 1, 1, 1, 0, 1, 0, 0, 1, 1, 0, 0, 1, 0, 1, 0, 0, 1, 1, 0, 0, 1]), .inBlock 3, .code (sub c6 [1, 1, 1, 1, 1, 1, 1, 1, 0, 1, 0, 0, 1, 1, 0, 0, 1, 0, 1, 0, 0, 1, 1, 1]), .inLoop (sub c6 [1, 1, 1, 1, 1, 1, 1, 1, 0, 1, 0, 0, 1, 1, 0, 0, 1, 0, 1, 0, 0]), .inBlock 2, .code (sub c6 [1, 1, 1, 1, 1, 1, 1, 1, 0, 1, 0, 0, 1, 1, 0, 0, 1, 1]), .inBlock 1, .code (sub c6 [1, 1, 1, 1, 1, 1, 1, 1, 0, 1, 0, 0, 1, 1, 1]), .inLoop (sub c6 [1, 1, 1, 1, 1, 1, 1, 1, 0, 1, 0, 0]), .inBlock 0, .code (sub c6 [1, 1, 1, 1, 1, 1, 1, 1, 1])]
noncomputable def K6_24 : List Item := [.code (sub c6 [1, 1, 1, 1, 1, 1, 1, 1, 0, 1, 0, 0, 1, 1, 0, 0, 1, 1]), .inBlock 1, .code (sub c6 [1, 1, 1, 1, 1, 1, 1, 1, 0, 1, 0, 0, 1, 1, 1]), .inLoop (sub c6 [1, 1, 1, 1, 1, 1, 1, 1, 0, 1, 0, 0]), .inBlock 0, .code (sub c6 [1, 1, 1, 1, 1, 1, 1, 1, 1])]
noncomputable def K6_25 : List Item := [.code (sub c6 [1, 1, 1, 1, 1, 1, 1, 1, 0, 1, 0, 0, 1, 1, 0, 0, 1, 0, 1, 0, 0, 1, 1, 0, 0, 1]), .inBlock 3, .code (sub c6 [1, 1, 1, 1, 1, 1, 1, 1, 0, 1, 0, 0, 1, 1, 0, 0, 1, 0, 1, 0, 0, 1, 1, 1]), .inLoop (sub c6 [1, 1, 1, 1, 1, 1, 1, 1, 0, 1, 0, 0, 1, 1, 0, 0, 1, 0, 1, 0, 0]), .inBlock 2, .code (sub c6 [1, 1, 1, 1, 1, 1, 1, 1, 0, 1, 0, 0, 1, 1, 0, 0, 1, 1]), .inBlock 1, .code (sub c6 [1, 1, 1, 1, 1, 1, 1, 1, 0, 1, 0, 0, 1, 1, 1]), .inLoop (sub c6 [1, 1, 1, 1, 1, 1, 1, 1, 0, 1, 0, 0]), .inBlock 0, .code (sub c6 [1, 1, 1, 1, 1, 1, 1, 1, 1])]
noncomputable def K6_26 : List Item := [.code (sub c6 [1, 1, 1, 1, 1, 1, 1, 1, 0, 1, 0, 0, 1, 1, 1]), .inLoop (sub c6 [1, 1, 1, 1, 1, 1, 1, 1, 0, 1, 0, 0]), .inBlock 0, .code (sub c6 [1, 1, 1, 1, 1, 1, 1, 1, 1])]
noncomputable def K6_27 : List Item := [.code (sub c6 [1, 1, 1, 1, 1, 1, 1, 1, 0, 1, 0, 0, 1, 1, 0, 0, 1, 0, 1, 0, 0, 1, 1, 1]), .inLoop (sub c6 [1, 1, 1, 1, 1, 1, 1, 1, 0, 1, 0, 0, 1, 1, 0, 0, 1, 0, 1, 0, 0]), .inBlock 2, .code (sub c6 [1, 1, 1, 1, 1, 1, 1, 1, 0, 1, 0, 0, 1, 1, 0, 0, 1, 1]), .inBlock 1, .code (sub c6 [1, 1, 1, 1, 1, 1, 1, 1, 0, 1, 0, 0, 1, 1, 1]), .inLoop (sub c6 [1, 1, 1, 1, 1, 1, 1, 1, 0, 1, 0, 0]), .inBlock 0, .code (sub c6 [1, 1, 1, 1, 1, 1, 1, 1, 1])]
/-- Blocks keep their lengths. -/
def Shp (w w' : World) : Prop := ∀ b cs ty, Blk w b cs ty → ∃ cs' : List Value, cs'.length = cs.length ∧ Blk w' b cs' ty
theorem Shp.refl (w : World) : Shp w w := fun _ cs _ h => ⟨cs, rfl, h⟩
theorem Shp.trans {a b c : World} (h : Shp a b) (k : Shp b c) : Shp a c := fun x cs ty hx => by
  obtain ⟨cs1, e1, h1⟩ := h x cs ty hx
  obtain ⟨cs2, e2, h2⟩ := k x cs1 ty h1
  exact ⟨cs2, e2.trans e1, h2⟩
theorem Shp.ext {w w' : World} (h : Ext w w') : Shp w w' := fun _ cs _ hx => ⟨cs, rfl, h.blk hx⟩
/-- A slice that can be cleared. -/
def Cl1 (w : World) (v : Value) : Prop := (∃ a c, v = .slice a 0 c) ∨ ∃ b n c cs ty, v = .slice (some ⟨b, 0, none⟩) n c ∧ 0 < n ∧ n ≤ cs.length ∧ Blk w b cs ty
theorem Cl1.shp {w w' : World} {v : Value} (h : Cl1 w v) (hs : Shp w w') : Cl1 w' v := by
  rcases h with h | ⟨b, n, c, cs, ty, e, h1, h2, h3⟩
  · exact .inl h
  · obtain ⟨cs', e', h4⟩ := hs b cs ty h3
    exact .inr ⟨b, n, c, cs', ty, e, h1, by omega, h4⟩
theorem clear_sl {P : Program} {t e : TypeId} {by_ : Nat} {z : Value} (hT : ElemT P t e 1 by_ z) (hzf : ∀ x ∈ z.cells.toList, flat x = true) {w : World} {v : Value} (h : Cl1 w v) :
    ∃ w', (Builtin.clear_ #[t] 0 #[v]).run P w = .ok (.tuple #[]) w' ∧ w'.heap.size = w.heap.size ∧ (∀ T, ((∃ a c, v = .slice a 0 c) ∨ blkN v ∈ T) → Upd T w w') ∧ Shp w w' := by
  rcases h with ⟨a, c, rfl⟩ | ⟨b, n, c, cs, ty, rfl, h1, h2, h3⟩
  · refine ⟨w, ?_, rfl, fun T _ => Upd.refl _ _, Shp.refl w⟩
    have hund := Sem.pv_run P _ _ hT.und
    cases a <;> simp [Builtin.clear_, hund]
  · have hr := clear_fit (P := P) (ty := 0) (c := c) hT hzf h3 (k := 0) (n := n) h1 (by omega)
    rw [Nat.zero_mul] at hr
    refine ⟨_, hr, ?_⟩
    have hp := Put.mk' (.cells (cs.take 0 ++ (List.replicate n z.cells.toList).flatten ++ cs.drop (0 + n * 1)).toArray ty (0, 0)) h3
    refine ⟨hp.size, fun T hT => ?_, fun b' cs' ty' hB => ?_⟩
    · rcases hT with ⟨a', c', e⟩ | hT
      · cases e; omega
      · exact hp.upd.mono (fun k hk => by simp only [List.mem_singleton] at hk; subst hk; exact hT)
    · by_cases e : b' = b
      · subst e
        have e2 : some (Obj.cells cs'.toArray ty' (0, 0)) = some (Obj.cells cs.toArray ty (0, 0)) := (show w.heap[b']? = _ from hB).symm.trans h3
        simp only [Option.some.injEq, Obj.cells.injEq] at e2
        obtain ⟨e2, rfl, _⟩ := e2
        have e3 : cs' = cs := by simpa using congrArg Array.toList e2
        subst e3
        refine ⟨_, ?_, hp.blk⟩
        have hz : z.cells.toList.length = 1 := by rw [Array.length_toList, hT.zsz]
        simp [hz]; omega
      · exact ⟨cs', rfl, hp.upd.blk hB (by simpa using e)⟩
theorem mem_rg {lo hi k : Nat} : k ∈ List.range' lo (hi - lo) ↔ lo ≤ k ∧ k < hi := by
  rw [List.mem_range'_1]; omega
/-- Rows that can be cleared. -/
def RowsC (w : World) (mid hi : Nat) (n : Nat) (v : Value) : Prop := (∃ a c, n = 0 ∧ v = .slice a 0 c) ∨ ∃ b c vs rest ty, v = .slice (some ⟨b, 0, none⟩) n c ∧ 0 < n ∧ b < mid ∧ Blk w b (vs ++ rest) ty ∧ vs.length = n ∧ ∀ j, j < n → Cl1 w (vs.getD j undef) ∧ mid ≤ blkN (vs.getD j undef) ∧ blkN (vs.getD j undef) < hi
section
variable {X : Ctx} {df : List Deferred}
set_option maxHeartbeats 1000000 in
theorem clr_rows (b4 b9 b59 i n mid hi : Nat) (aX : Option Addr) (cX : Nat) (hn : n ≤ 1000000) (w0 : World) (hR : RowsC w0 mid hi n (.slice aX n cX))
    (hk : ∀ w, Upd (List.range' mid (hi - mid)) w0 w → (n = 0 → Upd [] w0 w) → w.heap.size = w0.heap.size → Shp w0 w → St Try.prog X 81 K6_24 [(16, (.slice aX n cX)), (61, .int .i64 (i : Int)), (60, .int .i64 2), (59, (.slice (some ⟨b59, 0, none⟩) 2 2)), (4, .pointer (some ⟨b4, 0, none⟩)), (9, .pointer (some ⟨b9, 0, none⟩))] df w) :
    St Try.prog X 81 K6_21 [(67, .int .i64 0), (66, .int .i64 (n : Int)), (65, (.slice aX n cX)), (16, (.slice aX n cX)), (61, .int .i64 (i : Int)), (60, .int .i64 2), (59, (.slice (some ⟨b59, 0, none⟩) 2 2)), (4, .pointer (some ⟨b4, 0, none⟩)), (9, .pointer (some ⟨b9, 0, none⟩))] df w0 := by
  obtain ⟨-, -, by1, zv1, hT1, hZ1⟩ := elemT_of (P := Try.prog) (t := 23) (e := 3) (y := .int .i64) (by kernel_rfl)
  have hT1 : ElemT Try.prog 23 3 1 by1 zv1 := hT1
  have loop : ∀ (N j : Nat) (w : World), j ≤ n → N = n - j → Upd (List.range' mid (hi - mid)) w0 w → (n = 0 → Upd [] w0 w) → w.heap.size = w0.heap.size → Shp w0 w →
      St Try.prog X 81 K6_21 [(67, .int .i64 (j : Int)), (66, .int .i64 (n : Int)), (65, (.slice aX n cX)), (16, (.slice aX n cX)), (61, .int .i64 (i : Int)), (60, .int .i64 2), (59, (.slice (some ⟨b59, 0, none⟩) 2 2)), (4, .pointer (some ⟨b4, 0, none⟩)), (9, .pointer (some ⟨b9, 0, none⟩))] df w := by
    intro N
    induction N using Nat.strongRecOn with
    | ind N ih => ?_
    intro j w hj hN hu hu0 hsz hs
    refine St.reg K6_22 [(0, true)] (by kernel_rfl) (by kernel_rfl) ?_
    refine RX.q 1 [] [(68, .bool (decide ((j : Int) < (n : Int)))), (67, .int .i64 (j : Int)), (66, .int .i64 (n : Int)), (65, (.slice aX n cX)), (16, (.slice aX n cX)), (61, .int .i64 (i : Int)), (60, .int .i64 2), (59, (.slice (some ⟨b59, 0, none⟩) 2 2)), (4, .pointer (some ⟨b4, 0, none⟩)), (9, .pointer (some ⟨b9, 0, none⟩))] [] (by kernel_rfl) trivial ?_
    refine RX.done [(68, .bool (decide ((j : Int) < (n : Int)))), (67, .int .i64 (j : Int)), (66, .int .i64 (n : Int)), (65, (.slice aX n cX)), (16, (.slice aX n cX)), (61, .int .i64 (i : Int)), (60, .int .i64 2), (59, (.slice (some ⟨b59, 0, none⟩) 2 2)), (4, .pointer (some ⟨b4, 0, none⟩)), (9, .pointer (some ⟨b9, 0, none⟩))] (by kernel_rfl) (by kernel_rfl) ?_
    refine St.cond (k1 := K6_23) (k2 := K6_24) (decide ((j : Int) < (n : Int))) (by kernel_rfl) (fun hc => ?_) (fun _ => ?_)
    rotate_left
    · exact St.weak (L' := [(16, (.slice aX n cX)), (61, .int .i64 (i : Int)), (60, .int .i64 2), (59, (.slice (some ⟨b59, 0, none⟩) 2 2)), (4, .pointer (some ⟨b4, 0, none⟩)), (9, .pointer (some ⟨b9, 0, none⟩))]) (by kernel_rfl) (hk w hu hu0 hsz hs)
    have hjn : j < n := by
      have : (j : Int) < (n : Int) := by simpa using hc
      omega
    obtain ⟨a, c, h0, _⟩ | ⟨b, c, vs, rest, ty, e, h0, hbm, hB, hlen, hrow⟩ := hR
    · omega
    cases e
    obtain ⟨hc1, hlo, hhi⟩ := hrow j hjn
    have hBw : Blk w b (vs ++ rest) ty := hu.blk hB (fun hk => by have := mem_rg.1 hk; omega)
    have ev : vs[j]? = some (vs.getD j undef) := by simp [List.getD_eq_getElem?_getD, List.getElem?_eq_getElem (show j < vs.length by omega)]
    have ev2 : (vs ++ rest)[j]? = some (vs.getD j undef) := by rw [List.getElem?_append_left (by omega), ev]
    have hcw := hc1.shp hs
    generalize hrv : vs.getD j undef = rv at hc1 hlo hhi ev2 hcw
    obtain ⟨w1, hrun, hsz1, hup1, hsh1⟩ := clear_sl (t := 23) hT1 (RepC.flat1 (hZ1 (fun _ => none))) hcw
    obtain ⟨ra, rn, rc, rfl⟩ : ∃ ra rn rc, rv = .slice ra rn rc := by
      rcases hc1 with ⟨a, c, e⟩ | ⟨b, n, c, _, _, e, _⟩
      · exact ⟨_, _, _, e⟩
      · exact ⟨_, _, _, e⟩
    refine St.weak (L' := [(67, .int .i64 (j : Int)), (66, .int .i64 (n : Int)), (65, (.slice (some ⟨b, 0, none⟩) n cX)), (16, (.slice (some ⟨b, 0, none⟩) n cX)), (61, .int .i64 (i : Int)), (60, .int .i64 2), (59, (.slice (some ⟨b59, 0, none⟩) 2 2)), (4, .pointer (some ⟨b4, 0, none⟩)), (9, .pointer (some ⟨b9, 0, none⟩))]) (by kernel_rfl) ?_
    refine St.reg K6_25 [(0, true), (1, true), (2, true)] (by kernel_rfl) (by kernel_rfl) ?_
    refine RX.q 3 [(0, true, .pointer (some ⟨b, 0 + j * 1, none⟩)), (1, true, .slice ra rn rc)] [(18, .slice ra rn rc), (67, .int .i64 (j : Int)), (66, .int .i64 (n : Int)), (65, (.slice (some ⟨b, 0, none⟩) n cX)), (16, (.slice (some ⟨b, 0, none⟩) n cX)), (61, .int .i64 (i : Int)), (60, .int .i64 2), (59, (.slice (some ⟨b59, 0, none⟩) 2 2)), (4, .pointer (some ⟨b4, 0, none⟩)), (9, .pointer (some ⟨b9, 0, none⟩))] [.raw (Instr.indexAt 24 (.slice (some ⟨b, 0, none⟩) n cX) (.int .i64 (j : Int))) (.pointer (some ⟨b, 0 + j * 1, none⟩)), .cell ⟨b, 0 + j * 1, none⟩ (.slice ra rn rc)] (by kernel_rfl)
      ⟨idx_sl (e := 23) (sz := 1) (by kernel_rfl) (by kernel_rfl) b 0 n cX j hjn _, by rw [show 0 + j * 1 = j by omega]; exact Blk.cell hBw ev2⟩ ?_
    refine RX.done [(18, .slice ra rn rc), (67, .int .i64 (j : Int)), (66, .int .i64 (n : Int)), (65, (.slice (some ⟨b, 0, none⟩) n cX)), (16, (.slice (some ⟨b, 0, none⟩) n cX)), (61, .int .i64 (i : Int)), (60, .int .i64 2), (59, (.slice (some ⟨b59, 0, none⟩) 2 2)), (4, .pointer (some ⟨b4, 0, none⟩)), (9, .pointer (some ⟨b9, 0, none⟩))] (by kernel_rfl) (by kernel_rfl) ?_
    refine St.reg K6_27 [(0, true), (1, false)] (by kernel_rfl) (by kernel_rfl) ?_
    refine RX.q 1 [] [(71, .slice ra rn rc), (67, .int .i64 (j : Int)), (66, .int .i64 (n : Int)), (65, (.slice (some ⟨b, 0, none⟩) n cX)), (16, (.slice (some ⟨b, 0, none⟩) n cX)), (61, .int .i64 (i : Int)), (60, .int .i64 2), (59, (.slice (some ⟨b59, 0, none⟩) 2 2)), (4, .pointer (some ⟨b4, 0, none⟩)), (9, .pointer (some ⟨b9, 0, none⟩))] [] (by kernel_rfl) trivial ?_
    refine RX.run0 (Builtin.clear_ #[23] 0 #[.slice ra rn rc]) (by kernel_rfl) hrun ?_
    refine RX.done [(67, .int .i64 (j : Int)), (66, .int .i64 (n : Int)), (65, (.slice (some ⟨b, 0, none⟩) n cX)), (16, (.slice (some ⟨b, 0, none⟩) n cX)), (61, .int .i64 (i : Int)), (60, .int .i64 2), (59, (.slice (some ⟨b59, 0, none⟩) 2 2)), (4, .pointer (some ⟨b4, 0, none⟩)), (9, .pointer (some ⟨b9, 0, none⟩))] (by kernel_rfl) (by kernel_rfl) ?_
    refine St.reg K6_21 [(0, true), (1, true)] (by kernel_rfl) (by kernel_rfl) ?_
    refine RX.q 2 [(0, false, .int .i64 ((j : Int) + 1))] [(67, .int .i64 ((j : Int) + 1)), (66, .int .i64 (n : Int)), (65, (.slice (some ⟨b, 0, none⟩) n cX)), (16, (.slice (some ⟨b, 0, none⟩) n cX)), (61, .int .i64 (i : Int)), (60, .int .i64 2), (59, (.slice (some ⟨b59, 0, none⟩) 2 2)), (4, .pointer (some ⟨b4, 0, none⟩)), (9, .pointer (some ⟨b9, 0, none⟩))] [.eq (.int .i64 (IntKind.i64.wrap ((j : Int) + 1))) (.int .i64 ((j : Int) + 1))] (by kernel_rfl) (int64 (by omega)) ?_
    refine RX.done [(67, .int .i64 ((j : Int) + 1)), (66, .int .i64 (n : Int)), (65, (.slice (some ⟨b, 0, none⟩) n cX)), (16, (.slice (some ⟨b, 0, none⟩) n cX)), (61, .int .i64 (i : Int)), (60, .int .i64 2), (59, (.slice (some ⟨b59, 0, none⟩) 2 2)), (4, .pointer (some ⟨b4, 0, none⟩)), (9, .pointer (some ⟨b9, 0, none⟩))] (by kernel_rfl) (by kernel_rfl) ?_
    exact St.weak (by kernel_rfl) (ih _ (by omega) (j + 1) w1 (by omega) rfl (hu.trans (hup1 _ (.inr (mem_rg.2 ⟨hlo, hhi⟩)))) (fun e => by omega) (by omega) (hs.trans hsh1))
  exact St.weak (by kernel_rfl) (loop _ 0 w0 (by omega) rfl (Upd.refl _ _) (fun _ => Upd.refl _ _) rfl (Shp.refl _))
theorem RowsC.pres {w w' : World} {mid hi n : Nat} {v : Value} {T : List Nat} (h : RowsC w mid hi n v) (hu : Upd T w w') (hs : Shp w w') (hT : 0 < n → blkN v ∉ T) : RowsC w' mid hi n v := by
  rcases h with h | ⟨b, c, vs, rest, ty, e, h0, h1, h2, h3, h4⟩
  · exact .inl h
  · exact .inr ⟨b, c, vs, rest, ty, e, h0, h1, hu.blk h2 (by have := hT h0; rw [e] at this; exact this), h3, fun j hj => ⟨(h4 j hj).1.shp hs, (h4 j hj).2⟩⟩
theorem RowsC.cl1 {w : World} {mid hi n : Nat} {v : Value} (h : RowsC w mid hi n v) : Cl1 w v := by
  rcases h with ⟨a, c, rfl, e⟩ | ⟨b, c, vs, rest, ty, e, h0, h1, h2, h3, h4⟩
  · exact .inl ⟨a, c, e⟩
  · exact .inr ⟨b, n, c, vs ++ rest, ty, e, h0, by rw [List.length_append]; omega, h2⟩
set_option maxHeartbeats 1000000 in
theorem clr_one (b4 b9 b59 i n mid hi : Nat) (aX : Option Addr) (cX : Nat) (hi2 : i < 2) (hn : n ≤ 1000000) (w0 : World) (cs59 : List Value) (ty59 : TypeId) (h59 : Blk w0 b59 cs59 ty59) (hc59 : cs59[i]? = some (.slice aX n cX)) (hb59 : hi ≤ b59) (hmh : mid ≤ hi) (hR : RowsC w0 mid hi n (.slice aX n cX))
    (hk : ∀ w, (0 < n ∧ Upd (blkN (.slice aX n cX) :: List.range' mid (hi - mid)) w0 w) ∨ (n = 0 ∧ Upd [] w0 w) → w.heap.size = w0.heap.size → Shp w0 w → St Try.prog X 81 K6_15 [(61, .int .i64 ((i : Int) + 1)), (60, .int .i64 2), (59, (.slice (some ⟨b59, 0, none⟩) 2 2)), (4, .pointer (some ⟨b4, 0, none⟩)), (9, .pointer (some ⟨b9, 0, none⟩))] df w) :
    St Try.prog X 81 K6_17 [(61, .int .i64 (i : Int)), (60, .int .i64 2), (59, (.slice (some ⟨b59, 0, none⟩) 2 2)), (4, .pointer (some ⟨b4, 0, none⟩)), (9, .pointer (some ⟨b9, 0, none⟩))] df w0 := by
  obtain ⟨-, -, by2, zv2, hT2, hZ2⟩ := elemT_of (P := Try.prog) (t := 24) (e := 23) (y := .sl (.int .i64)) (by kernel_rfl)
  have hT2 : ElemT Try.prog 24 23 1 by2 zv2 := hT2
  refine St.reg K6_19 [(0, true), (1, true), (2, true)] (by kernel_rfl) (by kernel_rfl) ?_
  refine RX.q 3 [(0, true, (.pointer (some ⟨b59, 0 + i * 1, none⟩))), (1, true, (.slice aX n cX))] [(16, (.slice aX n cX)), (61, .int .i64 (i : Int)), (60, .int .i64 2), (59, (.slice (some ⟨b59, 0, none⟩) 2 2)), (4, .pointer (some ⟨b4, 0, none⟩)), (9, .pointer (some ⟨b9, 0, none⟩))] [.raw (Instr.indexAt 56 (.slice (some ⟨b59, 0, none⟩) 2 2) (.int .i64 (i : Int))) (.pointer (some ⟨b59, 0 + i * 1, none⟩)), .cell ⟨b59, 0 + i * 1, none⟩ (.slice aX n cX)] (by kernel_rfl)
    ⟨idx_sl (e := 24) (sz := 1) (by kernel_rfl) (by kernel_rfl) b59 0 2 2 i hi2 _, by rw [show 0 + i * 1 = i by omega]; exact Blk.cell h59 hc59⟩ ?_
  refine RX.done [(16, (.slice aX n cX)), (61, .int .i64 (i : Int)), (60, .int .i64 2), (59, (.slice (some ⟨b59, 0, none⟩) 2 2)), (4, .pointer (some ⟨b4, 0, none⟩)), (9, .pointer (some ⟨b9, 0, none⟩))] (by kernel_rfl) (by kernel_rfl) ?_
  refine St.reg K6_21 [(0, true), (1, true), (2, true)] (by kernel_rfl) (by kernel_rfl) ?_
  refine RX.q 3 [] [(67, .int .i64 0), (66, .int .i64 (n : Int)), (65, (.slice aX n cX)), (16, (.slice aX n cX)), (61, .int .i64 (i : Int)), (60, .int .i64 2), (59, (.slice (some ⟨b59, 0, none⟩) 2 2)), (4, .pointer (some ⟨b4, 0, none⟩)), (9, .pointer (some ⟨b9, 0, none⟩))] [] (by kernel_rfl) trivial ?_
  refine RX.done [(67, .int .i64 0), (66, .int .i64 (n : Int)), (65, (.slice aX n cX)), (16, (.slice aX n cX)), (61, .int .i64 (i : Int)), (60, .int .i64 2), (59, (.slice (some ⟨b59, 0, none⟩) 2 2)), (4, .pointer (some ⟨b4, 0, none⟩)), (9, .pointer (some ⟨b9, 0, none⟩))] (by kernel_rfl) (by kernel_rfl) ?_
  refine clr_rows b4 b9 b59 i n mid hi aX cX hn w0 hR ?_
  intro w hu hu0 hsz hs
  obtain ⟨w1, hrun, hsz1, hup1, hsh1⟩ := clear_sl (t := 24) hT2 (RepC.flat1 (hZ2 (fun _ => none))) (hR.cl1.shp hs)
  refine St.reg K6_26 [(0, true), (1, false)] (by kernel_rfl) (by kernel_rfl) ?_
  refine RX.q 1 [] [(73, (.slice aX n cX)), (61, .int .i64 (i : Int)), (60, .int .i64 2), (59, (.slice (some ⟨b59, 0, none⟩) 2 2)), (4, .pointer (some ⟨b4, 0, none⟩)), (9, .pointer (some ⟨b9, 0, none⟩))] [] (by kernel_rfl) trivial ?_
  refine RX.run0 (Builtin.clear_ #[24] 0 #[(.slice aX n cX)]) (by kernel_rfl) hrun ?_
  refine RX.done [(61, .int .i64 (i : Int)), (60, .int .i64 2), (59, (.slice (some ⟨b59, 0, none⟩) 2 2)), (4, .pointer (some ⟨b4, 0, none⟩)), (9, .pointer (some ⟨b9, 0, none⟩))] (by kernel_rfl) (by kernel_rfl) ?_
  refine St.reg K6_15 [(0, true), (1, true)] (by kernel_rfl) (by kernel_rfl) ?_
  refine RX.q 2 [(0, false, .int .i64 ((i : Int) + 1))] [(61, .int .i64 ((i : Int) + 1)), (60, .int .i64 2), (59, (.slice (some ⟨b59, 0, none⟩) 2 2)), (4, .pointer (some ⟨b4, 0, none⟩)), (9, .pointer (some ⟨b9, 0, none⟩))] [.eq (.int .i64 (IntKind.i64.wrap ((i : Int) + 1))) (.int .i64 ((i : Int) + 1))] (by kernel_rfl) (int64 (by omega)) ?_
  refine RX.done [(61, .int .i64 ((i : Int) + 1)), (60, .int .i64 2), (59, (.slice (some ⟨b59, 0, none⟩) 2 2)), (4, .pointer (some ⟨b4, 0, none⟩)), (9, .pointer (some ⟨b9, 0, none⟩))] (by kernel_rfl) (by kernel_rfl) ?_
  refine hk w1 ?_ (by omega) (hs.trans hsh1)
  rcases Nat.eq_zero_or_pos n with rfl | h0
  · exact .inr ⟨rfl, (hu0 rfl).trans (hup1 _ (.inl ⟨_, _, rfl⟩))⟩
  · exact .inl ⟨h0, (hu.mono (fun k hk => List.mem_cons_of_mem _ hk)).trans (hup1 _ (.inr List.mem_cons_self))⟩
set_option maxHeartbeats 1000000 in
theorem clr_all (b4 b9 b11 lo mid hi nL nF : Nat) (outs : List Nat) (aW aR aL aF : Option Addr) (nW nR cW cR cL cF : Nat) (vS : Value) (hnL : nL ≤ 1000000) (hnF : nF ≤ 1000000) (ty11 : TypeId) (w0 : World) (hlm : lo ≤ mid) (hmh : mid ≤ hi) (hb11 : hi ≤ b11)
    (h11 : Blk w0 b11 [.slice aW nW cW, vS, .slice aL nL cL, .slice aF nF cF, .slice aR nR cR] ty11)
    (hW : Cl1 w0 (.slice aW nW cW)) (hW2 : (nW = 0) ∨ (lo ≤ blkN (.slice aW nW cW) ∧ blkN (.slice aW nW cW) < mid ∧ blkN (.slice aW nW cW) ∉ outs)) (hR : Cl1 w0 (.slice aR nR cR)) (hR2 : (nR = 0) ∨ (lo ≤ blkN (.slice aR nR cR) ∧ blkN (.slice aR nR cR) < mid ∧ blkN (.slice aR nR cR) ∉ outs))
    (hL : RowsC w0 mid hi nL (.slice aL nL cL)) (hL2 : 0 < nL → lo ≤ blkN (.slice aL nL cL) ∧ blkN (.slice aL nL cL) < mid ∧ blkN (.slice aL nL cL) ∈ outs) (hF : RowsC w0 mid hi nF (.slice aF nF cF)) (hF2 : 0 < nF → lo ≤ blkN (.slice aF nF cF) ∧ blkN (.slice aF nF cF) < mid ∧ blkN (.slice aF nF cF) ∈ outs)
    (hLF : 0 < nL → 0 < nF → blkN (.slice aL nL cL) ≠ blkN (.slice aF nF cF))
    (hk : ∀ w, (∀ b, b < w0.heap.size → (b < lo ∨ hi ≤ b) → w.heap[b]? = w0.heap[b]?) → w.os = w0.os → w.tape = w0.tape → w.output = w0.output → w0.heap.size ≤ w.heap.size → St Try.prog X 81 K6_18 [(4, .pointer (some ⟨b4, 0, none⟩)), (9, .pointer (some ⟨b9, 0, none⟩))] df w) :
    St Try.prog X 81 K6_11 [(11, .pointer (some ⟨b11, 0, none⟩)), (4, .pointer (some ⟨b4, 0, none⟩)), (9, .pointer (some ⟨b9, 0, none⟩))] df w0 := by
  obtain ⟨-, -, by1, zv1, hT1, hZ1⟩ := elemT_of (P := Try.prog) (t := 23) (e := 3) (y := .int .i64) (by kernel_rfl)
  have hT1 : ElemT Try.prog 23 3 1 by1 zv1 := hT1
  let T := (List.range' lo (mid - lo)).filter fun k => decide (k ∉ outs)
  have mT : ∀ {k}, k ∈ T ↔ (lo ≤ k ∧ k < mid) ∧ k ∉ outs := fun {k} => by
    simp only [T, List.mem_filter, mem_rg, decide_eq_true_eq]
  obtain ⟨w1, r1, s1, u1, p1⟩ := clear_sl (t := 23) hT1 (RepC.flat1 (hZ1 (fun _ => none))) hW
  have u1 : Upd T w0 w1 := u1 T (by
    rcases hW2 with rfl | ⟨h1, h2, h3⟩
    · exact .inl ⟨_, _, rfl⟩
    · exact .inr (mT.2 ⟨⟨h1, h2⟩, h3⟩))
  obtain ⟨w2, r2, s2, u2, p2⟩ := clear_sl (t := 23) hT1 (RepC.flat1 (hZ1 (fun _ => none))) (hR.shp p1)
  have u2 : Upd T w1 w2 := u2 T (by
    rcases hR2 with rfl | ⟨h1, h2, h3⟩
    · exact .inl ⟨_, _, rfl⟩
    · exact .inr (mT.2 ⟨⟨h1, h2⟩, h3⟩))
  have n11 : b11 ∉ T := fun h => by have := mT.1 h; omega
  have h11' := u1.blk h11 n11
  have h11'' := u2.blk h11' n11
  refine St.reg K6_13 [(0, true), (1, true), (2, false)] (by kernel_rfl) (by kernel_rfl) ?_
  refine RX.q 2 [(1, true, .slice aW nW cW)] [(52, .slice aW nW cW), (11, .pointer (some ⟨b11, 0, none⟩)), (4, .pointer (some ⟨b4, 0, none⟩)), (9, .pointer (some ⟨b9, 0, none⟩))] [.cell ⟨b11, 0, none⟩ (.slice aW nW cW)] (by kernel_rfl) (Blk.cell h11 rfl) ?_
  refine RX.run0 (Builtin.clear_ #[23] 0 #[.slice aW nW cW]) (by kernel_rfl) r1 ?_
  refine RX.done [(11, .pointer (some ⟨b11, 0, none⟩)), (4, .pointer (some ⟨b4, 0, none⟩)), (9, .pointer (some ⟨b9, 0, none⟩))] (by kernel_rfl) (by kernel_rfl) ?_
  refine St.reg K6_14 [(0, true), (1, true), (2, false)] (by kernel_rfl) (by kernel_rfl) ?_
  refine RX.q 2 [(1, true, .slice aR nR cR)] [(54, .slice aR nR cR), (11, .pointer (some ⟨b11, 0, none⟩)), (4, .pointer (some ⟨b4, 0, none⟩)), (9, .pointer (some ⟨b9, 0, none⟩))] [.cell ⟨b11, 4, none⟩ (.slice aR nR cR)] (by kernel_rfl) (Blk.cell h11' rfl) ?_
  refine RX.run0 (Builtin.clear_ #[23] 0 #[.slice aR nR cR]) (by kernel_rfl) r2 ?_
  refine RX.done [(11, .pointer (some ⟨b11, 0, none⟩)), (4, .pointer (some ⟨b4, 0, none⟩)), (9, .pointer (some ⟨b9, 0, none⟩))] (by kernel_rfl) (by kernel_rfl) ?_
  refine St.reg K6_15 [(0, true), (1, true), (2, true), (3, true), (4, false), (5, true), (6, true)] (by kernel_rfl) (by kernel_rfl) ?_
  refine RX.q 4 [(1, true, .slice aL nL cL), (3, true, .slice aF nF cF)] [(56, .slice aL nL cL), (58, .slice aF nF cF), (4, .pointer (some ⟨b4, 0, none⟩)), (9, .pointer (some ⟨b9, 0, none⟩))] [.cell ⟨b11, 2, none⟩ (.slice aL nL cL), .cell ⟨b11, 3, none⟩ (.slice aF nF cF)] (by kernel_rfl) ⟨Blk.cell h11'' rfl, Blk.cell h11'' rfl⟩ ?_
  refine RX.new 59 (.cells #[.slice aL nL cL, .slice aF nF cF] 24) (.sl 2) [(56, .slice aL nL cL), (58, .slice aF nF cF), (4, .pointer (some ⟨b4, 0, none⟩)), (9, .pointer (some ⟨b9, 0, none⟩))] (by kernel_rfl) ?_
  intro b59 w3 hn
  have hs3 := hn.size; have ha3 := hn.at_
  have h59 : Blk w3 b59 [.slice aL nL cL, .slice aF nF cF] 24 := hn.blk
  have hlt11 := lt_of_blk h11
  have hb59 : hi ≤ b59 := by omega
  refine RX.q 2 [] [(61, .int .i64 0), (60, .int .i64 2), (59, (.slice (some ⟨b59, 0, none⟩) 2 2)), (4, .pointer (some ⟨b4, 0, none⟩)), (9, .pointer (some ⟨b9, 0, none⟩))] [] (by kernel_rfl) trivial ?_
  refine RX.done [(61, .int .i64 0), (60, .int .i64 2), (59, (.slice (some ⟨b59, 0, none⟩) 2 2)), (4, .pointer (some ⟨b4, 0, none⟩)), (9, .pointer (some ⟨b9, 0, none⟩))] (by kernel_rfl) (by kernel_rfl) ?_
  have hL3 : RowsC w3 mid hi nL (.slice aL nL cL) := ((hL.pres u1 p1 (fun h0 h => (mT.1 h).2 (hL2 h0).2.2)).pres u2 p2 (fun h0 h => (mT.1 h).2 (hL2 h0).2.2)).pres hn.ext (Shp.ext hn.ext) (fun _ h => by cases h)
  have hF3 : RowsC w3 mid hi nF (.slice aF nF cF) := ((hF.pres u1 p1 (fun h0 h => (mT.1 h).2 (hF2 h0).2.2)).pres u2 p2 (fun h0 h => (mT.1 h).2 (hF2 h0).2.2)).pres hn.ext (Shp.ext hn.ext) (fun _ h => by cases h)
  have U3 : Upd (List.range' lo (hi - lo)) w0 w3 := ((u1.trans u2).mono (fun k h => mem_rg.2 (by have := (mT.1 h).1; omega))).trans (hn.ext.mono (fun k h => by cases h))
  have sub : ∀ {v : Value} {n : Nat} {a b : World}, (0 < n → lo ≤ blkN v ∧ blkN v < mid ∧ blkN v ∈ outs) → 0 < n → Upd (blkN v :: List.range' mid (hi - mid)) a b → Upd (List.range' lo (hi - lo)) a b := fun h h0 hu => hu.mono (fun k hk => by
    rcases List.mem_cons.1 hk with rfl | hk
    · have := h h0; exact mem_rg.2 (by omega)
    · have := mem_rg.1 hk; exact mem_rg.2 (by omega))
  refine St.reg K6_16 [(0, true)] (by kernel_rfl) (by kernel_rfl) ?_
  refine RX.q 1 [] [(62, .bool true), (61, .int .i64 0), (60, .int .i64 2), (59, (.slice (some ⟨b59, 0, none⟩) 2 2)), (4, .pointer (some ⟨b4, 0, none⟩)), (9, .pointer (some ⟨b9, 0, none⟩))] [] (by kernel_rfl) trivial ?_
  refine RX.done [(62, .bool true), (61, .int .i64 0), (60, .int .i64 2), (59, (.slice (some ⟨b59, 0, none⟩) 2 2)), (4, .pointer (some ⟨b4, 0, none⟩)), (9, .pointer (some ⟨b9, 0, none⟩))] (by kernel_rfl) (by kernel_rfl) ?_
  refine St.cond (k1 := K6_17) (k2 := K6_18) true (by kernel_rfl) (fun _ => ?_) (fun hc => by cases hc)
  refine St.weak (L' := [(61, .int .i64 ((0 : Nat) : Int)), (60, .int .i64 2), (59, (.slice (some ⟨b59, 0, none⟩) 2 2)), (4, .pointer (some ⟨b4, 0, none⟩)), (9, .pointer (some ⟨b9, 0, none⟩))]) (by kernel_rfl) ?_
  refine clr_one b4 b9 b59 0 nL mid hi aL cL (by omega) hnL w3 _ 24 h59 rfl hb59 hmh hL3 ?_
  intro w4 u4 s4 p4
  have U4 : Upd (List.range' lo (hi - lo)) w3 w4 := by
    rcases u4 with ⟨h0, u4⟩ | ⟨_, u4⟩
    · exact sub hL2 h0 u4
    · exact u4.mono (fun k h => by cases h)
  have hF4 : RowsC w4 mid hi nF (.slice aF nF cF) := by
    rcases u4 with ⟨h1, u4⟩ | ⟨_, u4⟩
    · refine hF3.pres u4 p4 (fun h0 h => ?_)
      rcases List.mem_cons.1 h with e | h
      · exact hLF h1 h0 e.symm
      · have := mem_rg.1 h
        have := hF2 h0
        omega
    · exact hF3.pres u4 p4 (fun _ h => by cases h)
  have n59 : b59 ∉ List.range' lo (hi - lo) := fun h => by have := mem_rg.1 h; omega
  have h59' := U4.blk h59 n59
  refine St.reg K6_16 [(0, true)] (by kernel_rfl) (by kernel_rfl) ?_
  refine RX.q 1 [] [(62, .bool true), (61, .int .i64 1), (60, .int .i64 2), (59, (.slice (some ⟨b59, 0, none⟩) 2 2)), (4, .pointer (some ⟨b4, 0, none⟩)), (9, .pointer (some ⟨b9, 0, none⟩))] [] (by kernel_rfl) trivial ?_
  refine RX.done [(62, .bool true), (61, .int .i64 1), (60, .int .i64 2), (59, (.slice (some ⟨b59, 0, none⟩) 2 2)), (4, .pointer (some ⟨b4, 0, none⟩)), (9, .pointer (some ⟨b9, 0, none⟩))] (by kernel_rfl) (by kernel_rfl) ?_
  refine St.cond (k1 := K6_17) (k2 := K6_18) true (by kernel_rfl) (fun _ => ?_) (fun hc => by cases hc)
  refine St.weak (L' := [(61, .int .i64 ((1 : Nat) : Int)), (60, .int .i64 2), (59, (.slice (some ⟨b59, 0, none⟩) 2 2)), (4, .pointer (some ⟨b4, 0, none⟩)), (9, .pointer (some ⟨b9, 0, none⟩))]) (by kernel_rfl) ?_
  refine clr_one b4 b9 b59 1 nF mid hi aF cF (by omega) hnF w4 _ 24 h59' rfl hb59 hmh hF4 ?_
  intro w5 u5 s5 p5
  have U5 : Upd (List.range' lo (hi - lo)) w4 w5 := by
    rcases u5 with ⟨h0, u5⟩ | ⟨_, u5⟩
    · exact sub hF2 h0 u5
    · exact u5.mono (fun k h => by cases h)
  refine St.reg K6_16 [(0, true)] (by kernel_rfl) (by kernel_rfl) ?_
  refine RX.q 1 [] [(62, .bool false), (61, .int .i64 2), (60, .int .i64 2), (59, (.slice (some ⟨b59, 0, none⟩) 2 2)), (4, .pointer (some ⟨b4, 0, none⟩)), (9, .pointer (some ⟨b9, 0, none⟩))] [] (by kernel_rfl) trivial ?_
  refine RX.done [(62, .bool false), (61, .int .i64 2), (60, .int .i64 2), (59, (.slice (some ⟨b59, 0, none⟩) 2 2)), (4, .pointer (some ⟨b4, 0, none⟩)), (9, .pointer (some ⟨b9, 0, none⟩))] (by kernel_rfl) (by kernel_rfl) ?_
  refine St.cond (k1 := K6_17) (k2 := K6_18) false (by kernel_rfl) (fun hc => by cases hc) (fun _ => ?_)
  refine St.weak (L' := [(4, .pointer (some ⟨b4, 0, none⟩)), (9, .pointer (some ⟨b9, 0, none⟩))]) (by kernel_rfl) ?_
  have U := (U3.trans U4).trans U5
  exact hk w5 (fun b hb hbo => U.same b hb (fun h => by have := mem_rg.1 h; omega)) U.os U.tape U.output U.size
end
end Go.Proofs.Ythncjilcflilcaa

namespace Go.Proofs.Ythncjilcflilcaa
set_option linter.all false
open Go

/-- What is needed of With and the reference. -/
def fwOK (N : Nat) (W : List Int) (s : Int) (L F : List (List Int)) (R : List Int) (f t v : Int) (r : List Int × Int × List (List Int) × List (List Int) × List Int × Int) : Prop :=
  (r.1 = [] ∧ r.2.1 = 0 ∧ r.2.2.1 = [] ∧ r.2.2.2.1 = [] ∧ r.2.2.2.2.1 = []) ∨
  ∃ k u : Nat, f = k ∧ t = u ∧ r = (W, s, L, F.set k ((F.getD k []).set u v), R, 0) ∧ withp_S N W s L F R f t v = some (f, t, v, W, s, L, F, R, 0) ∧ knownp_S N W s L F R f t v = some (f, t, v, 0, s, W, L, F, R) ∧
    (∀ r ∈ L, r ≠ [] ∧ r.length ≤ 1000000) ∧ (∀ r ∈ F, r ≠ [] ∧ r.length ≤ 1000000) ∧ k < F.length ∧ u < (F.getD k []).length
theorem with_any {N : Nat} {W : List Int} {s : Int} {L F : List (List Int)} {R : List Int} {fo tr va : Int} {r : List Int × Int × List (List Int) × List (List Int) × List Int × Int} (hr : with__S N W s L F R fo tr va = some r) (hok : fwOK N W s L F R fo tr va r)
    (g : Gh) (hρ : ∀ i, g.ρ i = none) (w : World) (hM : ∀ b o, g.M b = some o → w.heap[b]? = some o) (vd : Value) (hvd : RepV g (enc id shG (W, s, L, F, R, ())) vd) (hfi : inR .i64 fo) (hti : inR .i64 tr) (hva : inR .i64 va) :
    Fn Try.prog 31 #[vd, .int .i64 fo, .int .i64 tr, .int .i64 va] w (fun v w' => Ext w w' ∧ ∃ vW vL vF vR, v = .tuple #[.agg #[vW, .int .i64 r.2.1, vL, vF, vR], .int .i64 r.2.2.2.2.2] ∧ OwnD w.heap.size w' r.1 r.2.1 r.2.2.1 r.2.2.2.1 r.2.2.2.2.1 vW vL vF vR) := by
  rcases hok with ⟨e1, e2, e3, e4, e5⟩ | ⟨k, u, rfl, rfl, rfl, h1, h2, h3, h4, h5, h6⟩
  · obtain ⟨oW, os, oL, oF, oR, oe⟩ := r
    dsimp only at e1 e2 e3 e4 e5
    subst e1 e2 e3 e4 e5
    have hgn : g = ⟨fun _ => none, g.M⟩ := by
      obtain ⟨ρ, M⟩ := g
      have : ρ = fun _ => none := funext hρ
      rw [this]
    rw [hgn] at hvd
    refine Fn.mono (call_pure (sp_with__ok N) rfl (p := (((W, s, L, F, R, ()), fo, tr, va, ()), ())) (r := ((([], 0, [], [], [], ()), oe, ()), ())) (M := g.M) (by
      show ((with__S N W s L F R fo tr va).bind fun r => some (((r.1, r.2.1, r.2.2.1, r.2.2.2.1, r.2.2.2.2.1, ()), r.2.2.2.2.2, ()), ())) = _
      rw [hr]; rfl) hM (vs := [vd, .int .i64 fo, .int .i64 tr, .int .i64 va]) ⟨_, _, rfl, hvd, _, _, rfl, ⟨rfl, hfi⟩, _, _, rfl, ⟨rfl, hti⟩, _, _, rfl, ⟨rfl, hva⟩, rfl⟩) ?_
    rintro v w' ⟨hx, g', hv⟩
    refine ⟨hx, ?_⟩
    have hv : RepV g' (.tup [.agg [.sl (.int .i64) [], .i .i64 0, .sl (.sl (.int .i64)) [], .sl (.sl (.int .i64)) [], .sl (.int .i64) []], .i .i64 oe]) v := hv
    simp only [RepV, RepVs] at hv
    obtain ⟨vs, rfl, x1, y1, rfl, ⟨ps, rfl, hp⟩, x2, y2, rfl, ⟨rfl, _⟩, rfl⟩ := hv
    simp only [RepPs, PartOf, RepV] at hp
    obtain ⟨_, _, rfl, ⟨vW, rfl, _, aW, cW, rfl, _⟩, _, _, rfl, ⟨vs_, rfl, rfl, _⟩, _, _, rfl, ⟨vL, rfl, _, aL, cL, rfl, _⟩, _, _, rfl, ⟨vF, rfl, _, aF, cF, rfl, _⟩, _, _, rfl, ⟨vR, rfl, _, aR, cR, rfl, _⟩, rfl⟩ := hp
    exact ⟨_, _, _, _, rfl, ⟨w.heap.size, [], Nat.le_refl _, hx.size, .inl ⟨rfl, aW, cW, rfl⟩, .inl ⟨rfl, aL, cL, rfl⟩, .inl ⟨rfl, aF, cF, rfl⟩, .inl ⟨rfl, aR, cR, rfl⟩, fun h => absurd rfl h⟩, inR_small (n := 0) (by omega)⟩
  · exact with_own h1 h2 h3 h4 h5 h6 g hρ w hM vd hvd hfi hti hva
/-- New blocks are frozen at once. -/
theorem HI.rep {M : Nat → Option Obj} {w : World} {lo mid : Nat} {outs : List Nat} {l : List Int} {v : Value} (h : HI w lo mid outs l v) (hM : ∀ b o, M b = some o → b < lo) : RepS (frzM M [] lo w) 1 (RepC (frzM M [] lo w) (.int .i64)) l v := by
  rcases h with ⟨rfl, a, c, rfl⟩ | ⟨b, c, rest, ty, rfl, h0, h1, h2, h3, h4, h5⟩
  · exact ⟨Nat.zero_le _, a, c, rfl, Nat.zero_le _, .inl rfl⟩
  · have hMb : M b = none := by
      cases e : M b with
      | none => rfl
      | some o => have := hM b o e; omega
    refine ⟨by omega, _, c, rfl, h3.1, .inr ⟨b, 0, _, (ty, (0, 0)), rfl, frzM_new hMb (.inr h1.1) h5, fun k x hk => ?_⟩⟩
    refine ⟨[.int .i64 x], fun j u hj => ?_, rfl, h4 x (List.mem_of_getElem? hk)⟩
    cases j with
    | zero =>
      simp only [List.getElem?_cons_zero, Option.some.injEq] at hj
      subst hj
      simp only [Nat.mul_one, Nat.zero_add, Nat.add_zero]
      rw [List.getElem?_append_left (by have := (List.getElem?_eq_some_iff.1 hk).1; simpa using this)]
      simp [hk]
    | succ j => simp at hj
theorem HR.rep {M : Nat → Option Obj} {w : World} {lo mid : Nat} {outs : List Nat} {l : List (List Int)} {v : Value} (h : HR w lo mid outs l v) (hlm : lo ≤ mid) (hM : ∀ b o, M b = some o → b < lo) : RepS (frzM M [] lo w) 1 (RepC (frzM M [] lo w) (.sl (.int .i64))) l v := by
  rcases h with ⟨rfl, a, c, rfl⟩ | ⟨b, c, rfl, h0, h1, h2, h3, vs, rest, ty, h4, h5, h6⟩
  · exact ⟨Nat.zero_le _, a, c, rfl, Nat.zero_le _, .inl rfl⟩
  · have hMb : M b = none := by
      cases e : M b with
      | none => rfl
      | some o => have := hM b o e; omega
    exact RowsOK.rep (n := lo) ⟨vs, rest, ty, h4, h5, fun j hj => (h6 j hj).lo hlm⟩ hM hMb (.inr h1.1) h3.2 h3.1
theorem HI.cl1 {w : World} {lo mid : Nat} {outs : List Nat} {l : List Int} {v : Value} (h : HI w lo mid outs l v) : Cl1 w v ∧ (l.length = 0 ∨ (lo ≤ blkN v ∧ blkN v < mid ∧ blkN v ∉ outs)) := by
  rcases h with ⟨rfl, a, c, rfl⟩ | ⟨b, c, rest, ty, rfl, h0, h1, h2, h3, h4, h5⟩
  · exact ⟨.inl ⟨a, c, rfl⟩, .inl rfl⟩
  · exact ⟨.inr ⟨b, _, c, _, ty, rfl, List.length_pos_iff.2 h0, by rw [List.length_append, List.length_map]; omega, h5⟩, .inr ⟨h1.1, h1.2, h2⟩⟩
theorem HR.rows {w : World} {lo mid hi : Nat} {outs : List Nat} {l : List (List Int)} {v : Value} (h : HR w lo mid outs l v) (hh : w.heap.size ≤ hi) : RowsC w mid hi l.length v ∧ (0 < l.length → lo ≤ blkN v ∧ blkN v < mid ∧ blkN v ∈ outs) := by
  rcases h with ⟨rfl, a, c, rfl⟩ | ⟨b, c, rfl, h0, h1, h2, h3, vs, rest, ty, h4, h5, h6⟩
  · exact ⟨.inl ⟨a, c, rfl, rfl⟩, fun h => by simp at h⟩
  · refine ⟨.inr ⟨b, c, vs, rest, ty, rfl, List.length_pos_iff.2 h0, h1.2, h4, h5, fun j hj => ?_⟩, fun _ => ⟨h1.1, h1.2, h2⟩⟩
    have h7 := (h6 j hj).lt
    obtain ⟨rb, rc, rrest, rty, e, g1, g2, g3, g4, g5⟩ := h6 j hj
    refine ⟨?_, h7.1, by omega⟩
    by_cases hz : (l.getD j []).length = 0
    · exact .inl ⟨_, rc, by rw [e, hz]⟩
    · exact .inr ⟨rb, _, rc, _, rty, e, by omega, by rw [List.length_append, List.length_map]; omega, g5⟩
end Go.Proofs.Ythncjilcflilcaa

namespace Go.Proofs.Ythncjilcflilcaa
set_option linter.all false
open Go

def fwith_j2 (N : Nat) (d : Li) (d2 : Int) (d3 : Ll) (d4 : Ll) (d5 : Li) (own : Li) (own2 : Int) (own3 : Ll) (own4 : Ll) (own5 : Li) : Option Bool :=
  (same_S N own own2 own3 own4 own5 d d2 d3 d4 d5).bind fun x_13 =>
  br x_13
    ((awake_S N).bind fun x_14 =>
    some x_14)
    (some false)
noncomputable def fwith_j1 (N : Nat) (found : Int) (trait : Int) (value : Int) (d : Li) (d2 : Int) (d3 : Ll) (d4 : Ll) (d5 : Li) (own : Li) (own2 : Int) (own3 : Ll) (own4 : Ll) (own5 : Li) (x : Li) (x2 : Int) (x3 : Ll) (x4 : Ll) (x5 : Li) : Option Bool :=
  (with__S N own own2 own3 own4 own5 found trait value).bind fun r_ => (rwith_S N x x2 x3 x4 x5 found trait value).bind fun q_ =>
  @ite _ (r_ = q_ ∧ same_S N r_.1 r_.2.1 r_.2.2.1 r_.2.2.2.1 r_.2.2.2.2.1 r_.1 r_.2.1 r_.2.2.1 r_.2.2.2.1 r_.2.2.2.2.1 = some true ∧ fwOK N own own2 own3 own4 own5 found trait value r_) (Classical.propDecidable _) (fwith_j2 N d d2 d3 d4 d5 own own2 own3 own4 own5) none
noncomputable def fwith_S (N : Nat) (d : Li) (d2 : Int) (d3 : Ll) (d4 : Ll) (d5 : Li) (found : Int) (trait : Int) (value : Int) : Option Bool :=
  (great_S N d d2 d3 d4 d5).bind fun x_1 =>
  br x_1
    ((awake_S N).bind fun x_2 =>
    some x_2)
    ((copyd_S N d d2 d3 d4 d5).bind fun (x_3, y_4, y_5, y_6, y_7) =>
    (copyd_S N d d2 d3 d4 d5).bind fun (x_8, y_9, y_10, y_11, y_12) =>
    fwith_j1 N found trait value d d2 d3 d4 d5 x_3 y_4 y_5 y_6 y_7 x_8 y_9 y_10 y_11 y_12)
noncomputable def fwith_sp (N : Nat) : List Spec := [sp_awake N, sp_copyd N, sp_same N, sp_great N]
theorem fwith_all (N : Nat) : AllP (SpecOK Try.prog) (fwith_sp N) := ⟨sp_awake_ok N, sp_copyd_ok N, sp_same_ok N, sp_great_ok N, trivial⟩
noncomputable def fwith_c : Code := (Try.f6.body).getD .skip
noncomputable abbrev fwith_B : Body := { c := fwith_c, n := 81, res := [.tmp 8], outs := [⟨[.b], []⟩], m0 := 0 }
abbrev fwith_rt : altD fwith_B.outs → Option Bool := fun r => some r.1.1
abbrev fwith_j2_at : List PI := [.c [1, 1, 1, 1, 1, 1, 1, 1, 1, 0], .c [1, 1, 1, 1, 1, 1, 1, 1, 1, 1]]
abbrev fwith_j2_st : Sta := ⟨[4, 9], ⟨[.own 0 0, .own 1 0], [.segs [shL, shI, shQ, shQ, shL], .segs [shL, shI, shQ, shQ, shL], .dead]⟩⟩
abbrev fwith_j2_k (N : Nat) : Leaf Bool := ⟨fwith_j2_at, fwith_j2_st, fun p => fwith_j2 N p.2.1.1 p.2.1.2.1 p.2.1.2.2.1 p.2.1.2.2.2.1 p.2.1.2.2.2.2.1 p.2.2.1.1 p.2.2.1.2.1 p.2.2.1.2.2.1 p.2.2.1.2.2.2.1 p.2.2.1.2.2.2.2.1⟩
theorem fwith_j2_eq (N : Nat) (d : Li) (d2 : Int) (d3 : Ll) (d4 : Ll) (d5 : Li) (own : Li) (own2 : Int) (own3 : Ll) (own4 : Ll) (own5 : Li) : ev (Z := Bool) Try.prog (fwith_sp N) fwith_B [] [] (some fwith_rt) 400 true fwith_j2_at (stL fwith_j2_st (((), (), ()), ((d, d2, d3, d4, d5, ()), (own, own2, own3, own4, own5, ()), (), ()))) (stH fwith_j2_st (((), (), ()), ((d, d2, d3, d4, d5, ()), (own, own2, own3, own4, own5, ()), (), ()))) = fwith_j2 N d d2 d3 d4 d5 own own2 own3 own4 own5 := by kernel_rfl
theorem fwith_j2_lf (N : Nat) {z : Bool} {E : EE} {Xc : Ctx} (hE : EOK fwith_B.m0 E) (hX : CxOK true Xc) (hret : RetOK Try.prog fwith_B E Xc z (some fwith_rt)) : LeafOK Try.prog fwith_B.c fwith_B.n fwith_B.m0 E Xc z (fwith_j2_k N) := leaf_of_ev (B := fwith_B) (loops := []) (leaves := []) (fwith_all N) mixed trivial hE hX trivial hret (fun p => fwith_j2_eq N p.2.1.1 p.2.1.2.1 p.2.1.2.2.1 p.2.1.2.2.2.1 p.2.1.2.2.2.2.1 p.2.2.1.1 p.2.2.1.2.1 p.2.2.1.2.2.1 p.2.2.1.2.2.2.1 p.2.2.1.2.2.2.2.1)
abbrev fwith_j1_at : List PI := [.c [1, 1, 1, 0], .c [1, 1, 1, 1]]
abbrev fwith_j1_st : Sta := ⟨[1, 2, 3, 4, 9, 10], ⟨[shI, shI, shI, .own 0 0, .own 1 0, .own 2 0], [.segs [shL, shI, shQ, shQ, shL], .segs [shL, shI, shQ, shQ, shL], .segs [shL, shI, shQ, shQ, shL]]⟩⟩
noncomputable abbrev fwith_j1_k (N : Nat) : Leaf Bool := ⟨fwith_j1_at, fwith_j1_st, fun p => fwith_j1 N p.1.1 p.1.2.1 p.1.2.2.1 p.2.1.1 p.2.1.2.1 p.2.1.2.2.1 p.2.1.2.2.2.1 p.2.1.2.2.2.2.1 p.2.2.1.1 p.2.2.1.2.1 p.2.2.1.2.2.1 p.2.2.1.2.2.2.1 p.2.2.1.2.2.2.2.1 p.2.2.2.1.1 p.2.2.2.1.2.1 p.2.2.2.1.2.2.1 p.2.2.2.1.2.2.2.1 p.2.2.2.1.2.2.2.2.1⟩
set_option maxHeartbeats 2000000 in
theorem fwith_j1_lf (N : Nat) {z : Bool} {E : EE} {Xc : Ctx} (hE : EOK fwith_B.m0 E) (hX : CxOK true Xc) (hret : RetOK Try.prog fwith_B E Xc z (some fwith_rt)) : LeafOK Try.prog fwith_B.c fwith_B.n fwith_B.m0 E Xc z (fwith_j1_k N) := by
  rintro ⟨⟨fo, tr, va, u1, u2, u3, u4⟩, ⟨dW, ds, dL, dF, dR, u5⟩, ⟨W, s, L, F, R, u6⟩, ⟨xW, xs, xL, xF, xR, u7⟩, u8⟩ hfn a w hS
  have hfn : fwith_j1 N fo tr va dW ds dL dF dR W s L F R xW xs xL xF xR = some z := hfn
  unfold fwith_j1 at hfn
  obtain ⟨r, hr, hf1⟩ := bind_some hfn
  obtain ⟨q, hq, hf2⟩ := bind_some hf1
  clear hfn hf1
  split at hf2
  rotate_left
  · cases hf2
  rename_i hcc
  obtain ⟨rfl, hsame, hok⟩ := hcc
  obtain ⟨oW, os, oL, oF, oR, oe⟩ := r
  dsimp only at hsame
  obtain ⟨⟨g, hs, htm, hi, he⟩, hsz, hm⟩ := hS
  have h1 : RepV g (.i .i64 fo) (a.tmps.getD 1 undef) := htm 1 _ rfl
  have h2 : RepV g (.i .i64 tr) (a.tmps.getD 2 undef) := htm 2 _ rfl
  have h3 : RepV g (.i .i64 va) (a.tmps.getD 3 undef) := htm 3 _ rfl
  have h4 : RepV g (.own 0 0) (a.tmps.getD 4 undef) := htm 4 _ rfl
  have h9 : RepV g (.own 1 0) (a.tmps.getD 9 undef) := htm 9 _ rfl
  have h10 : RepV g (.own 2 0) (a.tmps.getD 10 undef) := htm 10 _ rfl
  have hB0 : RepBlk g w 0 (.segs [.sl (.int .i64) dW, .i .i64 ds, .sl (.sl (.int .i64)) dL, .sl (.sl (.int .i64)) dF, .sl (.int .i64) dR]) := hs.blk 0 _ rfl
  have hB1 : RepBlk g w 1 (.segs [.sl (.int .i64) W, .i .i64 s, .sl (.sl (.int .i64)) L, .sl (.sl (.int .i64)) F, .sl (.int .i64) R]) := hs.blk 1 _ rfl
  have hB2 : RepBlk g w 2 (.segs [.sl (.int .i64) xW, .i .i64 xs, .sl (.sl (.int .i64)) xL, .sl (.sl (.int .i64)) xF, .sl (.int .i64) xR]) := hs.blk 2 _ rfl
  simp only [RepV] at h1 h2 h3 h4 h9 h10
  obtain ⟨b4, c0, n0, us0, ty0, e0, hb0, hp0, hm0⟩ := hB0
  obtain ⟨b9, c1, n1, us1, ty1, e1, hb1, hp1, hm1⟩ := hB1
  obtain ⟨b10, c2, n2, us2, ty2, e2, hb2, hp2, hm2⟩ := hB2
  obtain ⟨_, _, _, e4, h4⟩ := h4
  rw [e0] at e4; cases e4
  obtain ⟨_, _, _, e9, h9⟩ := h9
  rw [e1] at e9; cases e9
  obtain ⟨_, _, _, e10, h10⟩ := h10
  rw [e2] at e10; cases e10
  have hp1' := hp1
  have hp2' := hp2
  simp only [RepPs, PartOf] at hp1' hp2'
  obtain ⟨_, _, rfl, ⟨yW, rfl, hyW⟩, _, _, rfl, ⟨ys, rfl, hys⟩, _, _, rfl, ⟨yL, rfl, hyL⟩, _, _, rfl, ⟨yF, rfl, hyF⟩, _, _, rfl, ⟨yR, rfl, hyR⟩, rfl⟩ := hp1'
  obtain ⟨_, _, rfl, ⟨zW, rfl, hzW⟩, _, _, rfl, ⟨zs, rfl, hzs⟩, _, _, rfl, ⟨zL, rfl, hzL⟩, _, _, rfl, ⟨zF, rfl, hzF⟩, _, _, rfl, ⟨zR, rfl, hzR⟩, rfl⟩ := hp2'
  have hb1' : Blk w b9 [yW, ys, yL, yF, yR] ty1 := hb1
  have hb2' : Blk w b10 [zW, zs, zL, zF, zR] ty2 := hb2
  have hMlt : ∀ b o, g.M b = some o → b < w.heap.size := fun b o h => lt_of_blk (hs.mem b o h)
  have hl4 := lt_of_blk hb0; have hl9 := lt_of_blk hb1; have hl10 := lt_of_blk hb2
  have e : (fwith_j1_k N).at_.map (itm fwith_B.c) = K6_6 := by kernel_rfl
  rw [e]
  refine St.toAt (tm := a.tmps) (n := 81) (L := [(1, .int .i64 fo), (2, .int .i64 tr), (3, .int .i64 va), (10, .pointer (some ⟨b10, 0, none⟩)), (4, .pointer (some ⟨b4, 0, none⟩)), (9, .pointer (some ⟨b9, 0, none⟩))]) ?_ ⟨hsz, has_mem _ (fun x hx => ?_)⟩
  rotate_left
  · simp only [List.mem_cons, List.not_mem_nil, or_false] at hx
    rcases hx with rfl | rfl | rfl | rfl | rfl | rfl
    · exact h1.1
    · exact h2.1
    · exact h3.1
    · exact h10
    · exact h4
    · exact h9
  -- With
  refine St.reg K6_7 [(0, true), (1, true), (2, true), (3, true), (4, false), (5, true), (6, true), (7, true), (8, false), (9, false), (10, true)] (by kernel_rfl) (by kernel_rfl) ?_
  refine RX.q 4 [(0, true, .agg #[yW, ys, yL, yF, yR])] [(27, .agg #[yW, ys, yL, yF, yR]), (28, .int .i64 fo), (29, .int .i64 tr), (30, .int .i64 va), (1, .int .i64 fo), (2, .int .i64 tr), (3, .int .i64 va), (10, .pointer (some ⟨b10, 0, none⟩)), (4, .pointer (some ⟨b4, 0, none⟩)), (9, .pointer (some ⟨b9, 0, none⟩))] [.cells ⟨b9, 0, none⟩ [yW, ys, yL, yF, yR]] (by kernel_rfl) (Seg.row hb1' (fun j u hj => by rw [Nat.zero_add]; exact hj)) ?_
  refine RX.call 31 31 #[.agg #[yW, ys, yL, yF, yR], .int .i64 fo, .int .i64 tr, .int .i64 va] [(27, .agg #[yW, ys, yL, yF, yR]), (28, .int .i64 fo), (29, .int .i64 tr), (30, .int .i64 va), (1, .int .i64 fo), (2, .int .i64 tr), (3, .int .i64 va), (10, .pointer (some ⟨b10, 0, none⟩)), (4, .pointer (some ⟨b4, 0, none⟩)), (9, .pointer (some ⟨b9, 0, none⟩))] (fun _ => by kernel_rfl) (by kernel_rfl) ?_
  refine Fn.mono (with_any hr hok ⟨fun _ => none, g.M⟩ (fun _ => rfl) w hs.mem (.agg #[yW, ys, yL, yF, yR]) ⟨[yW, ys, yL, yF, yR], rfl, [yW], _, rfl, ⟨_, rfl, hyW⟩, [ys], _, rfl, ⟨_, rfl, hys⟩, [yL], _, rfl, ⟨_, rfl, hyL⟩, [yF], _, rfl, ⟨_, rfl, hyF⟩, [yR], _, rfl, ⟨_, rfl, hyR⟩, rfl⟩ h1.2 h2.2 h3.2) ?_
  rintro _ w1 ⟨hx1, vW, vL, vF, vR, rfl, hO⟩
  obtain ⟨⟨aW, cW, rfl⟩, ⟨aL, cL, rfl⟩, ⟨aF, cF, rfl⟩, aR, cR, rfl⟩ := hO.shape
  dsimp only at hO ⊢
  refine RX.q 3 [] [(32, .agg #[.slice aW oW.length cW, .int .i64 os, .slice aL oL.length cL, .slice aF oF.length cF, .slice aR oR.length cR]), (33, .int .i64 oe), (1, .int .i64 fo), (2, .int .i64 tr), (3, .int .i64 va), (10, .pointer (some ⟨b10, 0, none⟩)), (4, .pointer (some ⟨b4, 0, none⟩)), (9, .pointer (some ⟨b9, 0, none⟩))] [] (by kernel_rfl) trivial ?_
  refine RX.new 11 (.cells #[.slice none 0 0, .int .i64 0, .slice none 0 0, .slice none 0 0, .slice none 0 0] 26) .ptr [(32, .agg #[.slice aW oW.length cW, .int .i64 os, .slice aL oL.length cL, .slice aF oF.length cF, .slice aR oR.length cR]), (33, .int .i64 oe), (1, .int .i64 fo), (2, .int .i64 tr), (3, .int .i64 va), (10, .pointer (some ⟨b10, 0, none⟩)), (4, .pointer (some ⟨b4, 0, none⟩)), (9, .pointer (some ⟨b9, 0, none⟩))] (by kernel_rfl) ?_
  intro b11 w2 hn2
  have hs2 := hn2.size; have ha2 := hn2.at_
  have hB11 : Blk w2 b11 [.slice none 0 0, .int .i64 0, .slice none 0 0, .slice none 0 0, .slice none 0 0] 26 := hn2.blk
  refine RX.store b11 0 [.slice aW oW.length cW, .int .i64 os, .slice aL oL.length cL, .slice aF oF.length cF, .slice aR oR.length cR] [.slice none 0 0, .int .i64 0, .slice none 0 0, .slice none 0 0, .slice none 0 0] [.slice aW oW.length cW, .int .i64 os, .slice aL oL.length cL, .slice aF oF.length cF, .slice aR oR.length cR] 26 (by kernel_rfl) rfl hB11 (by kernel_rfl) rfl ?_
  intro w3 hp3
  have hs3 := hp3.size
  refine RX.q 1 [] [(12, .int .i64 oe), (11, .pointer (some ⟨b11, 0, none⟩)), (1, .int .i64 fo), (2, .int .i64 tr), (3, .int .i64 va), (10, .pointer (some ⟨b10, 0, none⟩)), (4, .pointer (some ⟨b4, 0, none⟩)), (9, .pointer (some ⟨b9, 0, none⟩))] [] (by kernel_rfl) trivial ?_
  refine RX.done [(12, .int .i64 oe), (11, .pointer (some ⟨b11, 0, none⟩)), (1, .int .i64 fo), (2, .int .i64 tr), (3, .int .i64 va), (10, .pointer (some ⟨b10, 0, none⟩)), (4, .pointer (some ⟨b4, 0, none⟩)), (9, .pointer (some ⟨b9, 0, none⟩))] (by kernel_rfl) (by kernel_rfl) ?_
  have hz1 := hx1.size
  have hx3 : Ext w w3 := (hx1.trans hn2.ext).trans_old hp3.upd (fun k hk => by simp only [List.mem_singleton] at hk; omega)
  have hx13 : Ext w1 w3 := hn2.ext.trans_old hp3.upd (fun k hk => by simp only [List.mem_singleton] at hk; omega)
  -- the reference's With
  have hsim3 : Sim ⟨fun _ => none, g.M⟩ (hOf (ss := (sp_rwith N).ins.blks) ()) w3 := ⟨fun b o h => hx3.blk (hs.mem b o h), fun i k hk => (by have h : ([] : List Blk')[i]? = some k := hk; rw [List.getElem?_nil] at h; cases h), fun i j ki kj b ci ni cj nj h1 => (by have h : ([] : List Blk')[i]? = some ki := h1; rw [List.getElem?_nil] at h; cases h)⟩
  refine St.reg K6_8 [(0, true), (1, true), (2, true), (3, true), (4, false), (5, true), (6, true), (7, true), (8, false), (9, false), (10, true)] (by kernel_rfl) (by kernel_rfl) ?_
  refine RX.q 4 [(0, true, .agg #[zW, zs, zL, zF, zR])] [(35, .agg #[zW, zs, zL, zF, zR]), (36, .int .i64 fo), (37, .int .i64 tr), (38, .int .i64 va), (12, .int .i64 oe), (11, .pointer (some ⟨b11, 0, none⟩)), (4, .pointer (some ⟨b4, 0, none⟩)), (9, .pointer (some ⟨b9, 0, none⟩))] [.cells ⟨b10, 0, none⟩ [zW, zs, zL, zF, zR]] (by kernel_rfl) (Seg.row (hx3.blk hb2') (fun j u hj => by rw [Nat.zero_add]; exact hj)) ?_
  refine RX.call 39 33 #[.agg #[zW, zs, zL, zF, zR], .int .i64 fo, .int .i64 tr, .int .i64 va] [(35, .agg #[zW, zs, zL, zF, zR]), (36, .int .i64 fo), (37, .int .i64 tr), (38, .int .i64 va), (12, .int .i64 oe), (11, .pointer (some ⟨b11, 0, none⟩)), (4, .pointer (some ⟨b4, 0, none⟩)), (9, .pointer (some ⟨b9, 0, none⟩))] (fun _ => by kernel_rfl) (by kernel_rfl) ?_
  refine Fn.mono ((sp_rwith_ok N).fn (((xW, xs, xL, xF, xR, ()), fo, tr, va, ()), ()) (((oW, os, oL, oF, oR, ()), oe, ()), ()) (by
    show ((rwith_S N xW xs xL xF xR fo tr va).bind fun r => some (((r.1, r.2.1, r.2.2.1, r.2.2.2.1, r.2.2.2.2.1, ()), r.2.2.2.2.2, ()), ())) = _
    rw [hq]; rfl) ⟨fun _ => none, g.M⟩ w3 [.agg #[zW, zs, zL, zF, zR], .int .i64 fo, .int .i64 tr, .int .i64 va] ⟨_, _, rfl, ⟨[zW, zs, zL, zF, zR], rfl, [zW], _, rfl, ⟨_, rfl, hzW⟩, [zs], _, rfl, ⟨_, rfl, hzs⟩, [zL], _, rfl, ⟨_, rfl, hzL⟩, [zF], _, rfl, ⟨_, rfl, hzF⟩, [zR], _, rfl, ⟨_, rfl, hzR⟩, rfl⟩, _, _, rfl, ⟨rfl, h1.2⟩, _, _, rfl, ⟨rfl, h2.2⟩, _, _, rfl, ⟨rfl, h3.2⟩, rfl⟩ hsim3 (fun _ _ => rfl)) ?_
  rintro v2 w4 ⟨g2, st2, hs2', hv2⟩
  have hx4 : Ext w3 w4 := ⟨st2.os, st2.tape, st2.output, st2.size, fun k hk _ => st2.same k hk (by rintro ⟨i, hi, _⟩; have h : i ∈ ([] : List Nat) := hi; cases h)⟩
  have hv2 : RepV g2 (.tup [.agg [.sl (.int .i64) oW, .i .i64 os, .sl (.sl (.int .i64)) oL, .sl (.sl (.int .i64)) oF, .sl (.int .i64) oR], .i .i64 oe]) v2 := hv2
  simp only [RepV, RepVs] at hv2
  obtain ⟨vs, rfl, x1, y1, rfl, ⟨ps, rfl, hp⟩, x2, y2, rfl, ⟨rfl, _⟩, rfl⟩ := hv2
  simp only [RepPs, PartOf, RepV] at hp
  obtain ⟨_, _, rfl, ⟨kW, rfl, hkW⟩, _, _, rfl, ⟨ks, rfl, rfl, hks⟩, _, _, rfl, ⟨kL, rfl, hkL⟩, _, _, rfl, ⟨kF, rfl, hkF⟩, _, _, rfl, ⟨kR, rfl, hkR⟩, rfl⟩ := hp
  obtain ⟨kW1, kW2, rfl⟩ : ∃ a c, kW = .slice a oW.length c := by obtain ⟨_, a, c, e, _⟩ := hkW; exact ⟨a, c, e⟩
  obtain ⟨kL1, kL2, rfl⟩ : ∃ a c, kL = .slice a oL.length c := by obtain ⟨_, a, c, e, _⟩ := hkL; exact ⟨a, c, e⟩
  obtain ⟨kF1, kF2, rfl⟩ : ∃ a c, kF = .slice a oF.length c := by obtain ⟨_, a, c, e, _⟩ := hkF; exact ⟨a, c, e⟩
  obtain ⟨kR1, kR2, rfl⟩ : ∃ a c, kR = .slice a oR.length c := by obtain ⟨_, a, c, e, _⟩ := hkR; exact ⟨a, c, e⟩
  refine RX.q 3 [] [(40, .agg #[.slice kW1 oW.length kW2, .int .i64 os, .slice kL1 oL.length kL2, .slice kF1 oF.length kF2, .slice kR1 oR.length kR2]), (41, .int .i64 oe), (12, .int .i64 oe), (11, .pointer (some ⟨b11, 0, none⟩)), (4, .pointer (some ⟨b4, 0, none⟩)), (9, .pointer (some ⟨b9, 0, none⟩))] [] (by kernel_rfl) trivial ?_
  refine RX.new 13 (.cells #[.slice none 0 0, .int .i64 0, .slice none 0 0, .slice none 0 0, .slice none 0 0] 47) .ptr [(40, .agg #[.slice kW1 oW.length kW2, .int .i64 os, .slice kL1 oL.length kL2, .slice kF1 oF.length kF2, .slice kR1 oR.length kR2]), (41, .int .i64 oe), (12, .int .i64 oe), (11, .pointer (some ⟨b11, 0, none⟩)), (4, .pointer (some ⟨b4, 0, none⟩)), (9, .pointer (some ⟨b9, 0, none⟩))] (by kernel_rfl) ?_
  intro b13 w5 hn5
  have hs5 := hn5.size; have ha5 := hn5.at_
  have hB13 : Blk w5 b13 [.slice none 0 0, .int .i64 0, .slice none 0 0, .slice none 0 0, .slice none 0 0] 47 := hn5.blk
  refine RX.store b13 0 [.slice kW1 oW.length kW2, .int .i64 os, .slice kL1 oL.length kL2, .slice kF1 oF.length kF2, .slice kR1 oR.length kR2] [.slice none 0 0, .int .i64 0, .slice none 0 0, .slice none 0 0, .slice none 0 0] [.slice kW1 oW.length kW2, .int .i64 os, .slice kL1 oL.length kL2, .slice kF1 oF.length kF2, .slice kR1 oR.length kR2] 47 (by kernel_rfl) rfl hB13 (by kernel_rfl) rfl ?_
  intro w6 hp6
  have hs6 := hp6.size
  refine RX.q 1 [] [(14, .int .i64 oe), (12, .int .i64 oe), (13, .pointer (some ⟨b13, 0, none⟩)), (11, .pointer (some ⟨b11, 0, none⟩)), (4, .pointer (some ⟨b4, 0, none⟩)), (9, .pointer (some ⟨b9, 0, none⟩))] [] (by kernel_rfl) trivial ?_
  refine RX.done [(14, .int .i64 oe), (12, .int .i64 oe), (13, .pointer (some ⟨b13, 0, none⟩)), (11, .pointer (some ⟨b11, 0, none⟩)), (4, .pointer (some ⟨b4, 0, none⟩)), (9, .pointer (some ⟨b9, 0, none⟩))] (by kernel_rfl) (by kernel_rfl) ?_
  have hz4 := hx4.size
  have hx46 : Ext w4 w6 := hn5.ext.trans_old hp6.upd (fun k hk => by simp only [List.mem_singleton] at hk; omega)
  have hx36 : Ext w3 w6 := hx4.trans hx46
  have hx16 : Ext w1 w6 := hx13.trans hx36
  have hx06 : Ext w w6 := hx3.trans hx36
  -- both are the same
  have hM6 : ∀ b o, frzM g.M [] w.heap.size w6 b = some o → w6.heap[b]? = some o := fun b o h => by
    rcases frzM_inv h with h | ⟨_, _, h, _⟩
    · exact hx06.blk (hs.mem b o h)
    · exact h
  have hM2 : ∀ b o, g2.M b = some o → frzM g.M [] w.heap.size w6 b = some o := fun b o h => by
    rcases st2.Mn b o h with h1 | ⟨h1, h2, h3⟩
    · exact frzM_mono b o h1
    · obtain ⟨cs, ty, zz, rfl⟩ := isCel_some h3
      refine frzM_new h1 (.inr ?_) (hx46.blk (hs2'.mem b _ h))
      rcases h2 with h2 | ⟨i, hi, _⟩
      · have := hx3.size; omega
      · have h : i ∈ ([] : List Nat) := hi
        cases h
  have hO6 : OwnD w.heap.size w6 oW os oL oF oR (.slice aW oW.length cW) (.slice aL oL.length cL) (.slice aF oF.length cF) (.slice aR oR.length cR) := hO.same hx16.size (fun b cs ty h => hx16.blk h)
  have hsm := call_pure (sp_same_ok N) rfl (p := (((oW, os, oL, oF, oR, ()), (oW, os, oL, oF, oR, ()), ()), ())) (r := ((true, ()), ())) (M := frzM g.M [] w.heap.size w6) (by
    show ((same_S N oW os oL oF oR oW os oL oF oR).bind fun r => some ((r, ()), ())) = _
    rw [hsame]; rfl) hM6 (vs := [.agg #[.slice aW oW.length cW, .int .i64 os, .slice aL oL.length cL, .slice aF oF.length cF, .slice aR oR.length cR], .agg #[.slice kW1 oW.length kW2, .int .i64 os, .slice kL1 oL.length kL2, .slice kF1 oF.length kF2, .slice kR1 oR.length kR2]]) (by
    obtain ⟨⟨mid, outs, a1, a2, HW, HL, HF, HR', hne⟩, hso⟩ := hO6
    have hge : GE g2 ⟨g2.ρ, frzM g.M [] w.heap.size w6⟩ := ⟨fun _ _ h => h, hM2⟩
    refine ⟨_, _, rfl, ⟨_, rfl, [_], _, rfl, ⟨_, rfl, HW.rep hMlt⟩, [_], _, rfl, ⟨_, rfl, rfl, hso⟩, [_], _, rfl, ⟨_, rfl, HL.rep a1 hMlt⟩, [_], _, rfl, ⟨_, rfl, HF.rep a1 hMlt⟩, [_], _, rfl, ⟨_, rfl, HR'.rep hMlt⟩, rfl⟩, _, _, rfl, ⟨_, rfl, [_], _, rfl, ⟨_, rfl, RepV.mono hge (.sl (.int .i64) oW) _ hkW⟩, [_], _, rfl, ⟨_, rfl, rfl, hso⟩, [_], _, rfl, ⟨_, rfl, RepV.mono hge (.sl (.sl (.int .i64)) oL) _ hkL⟩, [_], _, rfl, ⟨_, rfl, RepV.mono hge (.sl (.sl (.int .i64)) oF) _ hkF⟩, [_], _, rfl, ⟨_, rfl, RepV.mono hge (.sl (.int .i64) oR) _ hkR⟩, rfl⟩, rfl⟩)
  have hb11w : Blk w6 b11 [.slice aW oW.length cW, .int .i64 os, .slice aL oL.length cL, .slice aF oF.length cF, .slice aR oR.length cR] 26 := hx36.blk hp3.blk
  refine St.reg K6_9 [(0, true), (1, true), (2, true), (3, true), (4, true), (5, true), (6, false), (7, true), (8, true)] (by kernel_rfl) (by kernel_rfl) ?_
  refine RX.q 6 [(2, false, .bool false), (4, true, .agg #[.slice aW oW.length cW, .int .i64 os, .slice aL oL.length cL, .slice aF oF.length cF, .slice aR oR.length cR]), (5, true, .agg #[.slice kW1 oW.length kW2, .int .i64 os, .slice kL1 oL.length kL2, .slice kF1 oF.length kF2, .slice kR1 oR.length kR2])] [(45, .bool false), (46, .agg #[.slice aW oW.length cW, .int .i64 os, .slice aL oL.length cL, .slice aF oF.length cF, .slice aR oR.length cR]), (47, .agg #[.slice kW1 oW.length kW2, .int .i64 os, .slice kL1 oL.length kL2, .slice kF1 oF.length kF2, .slice kR1 oR.length kR2]), (11, .pointer (some ⟨b11, 0, none⟩)), (4, .pointer (some ⟨b4, 0, none⟩)), (9, .pointer (some ⟨b9, 0, none⟩))] [.eq (.bool (!((oe : Int) == oe))) (.bool false), .cells ⟨b11, 0, none⟩ [.slice aW oW.length cW, .int .i64 os, .slice aL oL.length cL, .slice aF oF.length cF, .slice aR oR.length cR], .cells ⟨b13, 0, none⟩ [.slice kW1 oW.length kW2, .int .i64 os, .slice kL1 oL.length kL2, .slice kF1 oF.length kF2, .slice kR1 oR.length kR2]] (by kernel_rfl)
    ⟨by show Value.bool (!((oe : Int) == oe)) = .bool false; simp, Seg.row hb11w (fun j u hj => by rw [Nat.zero_add]; exact hj), Seg.row hp6.blk (fun j u hj => by rw [Nat.zero_add]; exact hj)⟩ ?_
  refine RX.call 48 30 #[.agg #[.slice aW oW.length cW, .int .i64 os, .slice aL oL.length cL, .slice aF oF.length cF, .slice aR oR.length cR], .agg #[.slice kW1 oW.length kW2, .int .i64 os, .slice kL1 oL.length kL2, .slice kF1 oF.length kF2, .slice kR1 oR.length kR2]] [(45, .bool false), (46, .agg #[.slice aW oW.length cW, .int .i64 os, .slice aL oL.length cL, .slice aF oF.length cF, .slice aR oR.length cR]), (47, .agg #[.slice kW1 oW.length kW2, .int .i64 os, .slice kL1 oL.length kL2, .slice kF1 oF.length kF2, .slice kR1 oR.length kR2]), (11, .pointer (some ⟨b11, 0, none⟩)), (4, .pointer (some ⟨b4, 0, none⟩)), (9, .pointer (some ⟨b9, 0, none⟩))] (fun _ => by kernel_rfl) (by kernel_rfl) ?_
  refine Fn.mono hsm ?_
  rintro v w7 ⟨hx7, g7, hv⟩
  have hv : RepV g7 (.b true) v := hv
  simp only [RepV] at hv
  subst hv
  refine RX.q 2 [] [(50, .bool false), (11, .pointer (some ⟨b11, 0, none⟩)), (4, .pointer (some ⟨b4, 0, none⟩)), (9, .pointer (some ⟨b9, 0, none⟩))] [] (by kernel_rfl) trivial ?_
  refine RX.done [(50, .bool false), (11, .pointer (some ⟨b11, 0, none⟩)), (4, .pointer (some ⟨b4, 0, none⟩)), (9, .pointer (some ⟨b9, 0, none⟩))] (by kernel_rfl) (by kernel_rfl) ?_
  refine St.cond (k1 := K6_10) (k2 := K6_11) false (by kernel_rfl) (fun hc => by cases hc) (fun _ => ?_)
  refine St.weak (L' := [(11, .pointer (some ⟨b11, 0, none⟩)), (4, .pointer (some ⟨b4, 0, none⟩)), (9, .pointer (some ⟨b9, 0, none⟩))]) (by kernel_rfl) ?_
  have hx17 : Ext w1 w7 := hx16.trans hx7
  have hx07 : Ext w w7 := hx06.trans hx7
  obtain ⟨⟨mid, outs, a1, a2, HW, HL, HF, HR', hne⟩, hso⟩ := hO
  obtain ⟨rL1, rL2⟩ := HL.rows (Nat.le_refl _)
  obtain ⟨rF1, rF2⟩ := HF.rows (Nat.le_refl _)
  obtain ⟨cW1, cW2⟩ := HW.cl1
  obtain ⟨cR1, cR2⟩ := HR'.cl1
  have nlen : ∀ {l : Ll} {v : Value}, HR w1 w.heap.size mid outs l v → l.length ≤ 1000000 := fun {l v} h => by
    rcases h with ⟨rfl, _⟩ | ⟨_, _, _, _, _, _, h, _⟩
    · simp
    · exact h.2
  refine clr_all b4 b9 b11 w.heap.size mid w1.heap.size oL.length oF.length outs aW aR aL aF oW.length oR.length cW cR cL cF (.int .i64 os) (nlen HL) (nlen HF) 26 w7 a1 a2 (by omega) (hx7.blk hb11w) (cW1.shp (Shp.ext hx17)) cW2 (cR1.shp (Shp.ext hx17)) cR2
    (rL1.pres hx17 (Shp.ext hx17) (fun _ h => by cases h)) rL2 (rF1.pres hx17 (Shp.ext hx17) (fun _ h => by cases h)) rF2 (fun h0 h1 => hne (List.length_pos_iff.1 h0) (List.length_pos_iff.1 h1)) ?_
  intro w8 hsm8 ho8 ht8 hu8 hz8
  have hz07 := hx07.size
  have hx8 : Ext w w8 := ⟨ho8.trans hx07.os, ht8.trans hx07.tape, hu8.trans hx07.output, by omega, fun b hb _ => (hsm8 b (by omega) (.inl hb)).trans (hx07.same b hb (fun h => by cases h))⟩
  intro tm htm'
  have e : (fwith_j2_k N).at_.map (itm fwith_B.c) = K6_18 := by kernel_rfl
  rw [← e]
  refine fwith_j2_lf N hE hX hret (((), (), ()), ((dW, ds, dL, dF, dR, ()), (W, s, L, F, R, ()), (), ())) hf2 _ _ ⟨⟨g, ⟨fun b o h => hx8.blk (hs.mem b o h), fun id k hk => ?_, fun i j ki kj b ci ni cj nj x1 y1 x2 y2 z1 z2 => ?_⟩, ?_, fun i hi' => hi i hi', ?_⟩, htm'.1, hm⟩
  · match id, hk with
    | 0, hk =>
      cases hk
      exact ⟨b4, c0, n0, us0, ty0, e0, hx8.blk hb0, hp0, hm0⟩
    | 1, hk =>
      cases hk
      exact ⟨b9, c1, n1, _, ty1, e1, hx8.blk hb1, hp1, hm1⟩
    | 2, hk => cases hk; trivial
    | n + 3, hk => cases hk
  · have hlt : ∀ i k, (stH fwith_j2_st (((), (), ()), ((dW, ds, dL, dF, dR, ()), (W, s, L, F, R, ()), (), ())))[i]? = some k → k.mut = true → i < 2 := fun i k h1 h2 => by
      match i, h1 with
      | 0, _ => omega
      | 1, _ => omega
      | 2, h => cases h; cases h2
      | n + 3, h => cases h
    have hk : ∀ i, i < 2 → ∃ k, (stH fwith_j1_st ((fo, tr, va, u1, u2, u3, u4), (dW, ds, dL, dF, dR, u5), (W, s, L, F, R, u6), (xW, xs, xL, xF, xR, u7), u8))[i]? = some k ∧ k.mut = true := fun i hi => by
      match i, hi with
      | 0, _ => exact ⟨_, rfl, rfl⟩
      | 1, _ => exact ⟨_, rfl, rfl⟩
    obtain ⟨k1, q1, q2⟩ := hk i (hlt i ki x1 x2)
    obtain ⟨k2, q3, q4⟩ := hk j (hlt j kj y1 y2)
    exact hs.inj i j k1 k2 b ci ni cj nj q1 q3 q2 q4 z1 z2
  · exact zip_tmF [4, 9] _ ⟨_, _, rfl, ⟨b4, c0, n0, e0, htm'.2 4 _ rfl⟩, _, _, rfl, ⟨b9, c1, n1, e1, htm'.2 9 _ rfl⟩, rfl⟩
  · exact hE.step (nw := fun _ => False) (wr := []) (fun _ h => h.elim) hs ⟨hx8.os, hx8.tape, hx8.output, hx8.size, fun b hb _ => hx8.same b hb (fun h => by cases h), GE.refl g, fun id h0 h1 => absurd h0 h1, fun id b c n h0 h1 => (by rw [h0] at h1; cases h1), fun b o h => .inl h⟩ he

abbrev fwith_st : Sta := ⟨[0, 1, 2, 3], ⟨[shG, shI, shI, shI], []⟩⟩
theorem fwith_eq (N : Nat) (d : Li) (d2 : Int) (d3 : Ll) (d4 : Ll) (d5 : Li) (found : Int) (trait : Int) (value : Int) : ev (Z := Bool) Try.prog (fwith_sp N) fwith_B [] [fwith_j1_k N] (some fwith_rt) 400 false [.c [0], .c [1]] (stL fwith_st (((d, d2, d3, d4, d5, ()), found, trait, value, ()), ())) (stH fwith_st (((d, d2, d3, d4, d5, ()), found, trait, value, ()), ())) = fwith_S N d d2 d3 d4 d5 found trait value := by kernel_rfl
noncomputable def sp_fwith (N : Nat) : Spec := { f := 6, ins := ⟨[shG, shI, shI, shI], []⟩, outs := [⟨[.b], []⟩], run := fun p k => (fwith_S N p.1.1.1 p.1.1.2.1 p.1.1.2.2.1 p.1.1.2.2.2.1 p.1.1.2.2.2.2.1 p.1.2.1 p.1.2.2.1 p.1.2.2.2.1).bind fun r => k ((r, ()), ()) }
theorem sp_fwith_ok (N : Nat) : SpecOK Try.prog (sp_fwith N) := fn_sound (B := fwith_B) (loops := []) (leaves := [fwith_j1_k N]) (fun p => fwith_S N p.1.1.1 p.1.1.2.1 p.1.1.2.2.1 p.1.1.2.2.2.1 p.1.1.2.2.2.2.1 p.1.2.1 p.1.2.2.1 p.1.2.2.2.1) (fun r => ((r, ()), ())) fwith_rt (fun _ _ _ => rfl) (fun r z h => by cases h; rfl) Try.func6 (by kernel_rfl) (by kernel_rfl) (by kernel_rfl) rfl rfl (by kernel_rfl) (fun args w => Sem.pv_run _ _ _ (by kernel_rfl) w) (fwith_all N) mixed trivial (fun z E Xc hE hX hret => ⟨fwith_j1_lf N hE hX hret, trivial⟩) (fun p => fwith_eq N p.1.1.1 p.1.1.2.1 p.1.1.2.2.1 p.1.1.2.2.2.1 p.1.1.2.2.2.2.1 p.1.2.1 p.1.2.2.1 p.1.2.2.2.1)

end Go.Proofs.Ythncjilcflilcaa

namespace Go.Proofs.Ythncjilcflilcaa
set_option linter.all false
open Go

/-! ### Numbers without one -/
def up (i x : Nat) : Nat := if x < i then x else x + 1
section
variable {n m : Nat} {can : Nat → Nat → Bool} {t : Nat → Nat → Int}
theorem Mt.bd {J : Nat → Int} (h : Mt n m can J) {i : Nat} (hi : i < n) : -1 ≤ J i ∧ J i < m := by
  rcases h.ok i hi with e | ⟨k, e, hk, _⟩ <;> omega
/-! ### Without a found thing -/
theorem IsMax.congr {fr fr' : Nat → Prop} {v : Int} (h : IsMax n m can t fr v) (hf : ∀ k, fr k ↔ fr' k) : IsMax n m can t fr' v := by
  have : fr = fr' := funext fun k => propext (hf k)
  rw [← this]; exact h
/-! ### Without a lost thing -/
/-! ### How many joins join two things -/
theorem Mt.congr {J J' : Nat → Int} (h : Mt n m can J) (he : ∀ i, i < n → J i = J' i) : Mt n m can J' := by
  refine ⟨fun i hi => by rw [← he i hi]; exact h.ok i hi, fun i j hi hj hij e => ?_⟩
  rw [← he i hi, ← he j hj] at e
  rw [← he i hi]
  exact h.inj i j hi hj hij e
end
end Go.Proofs.Ythncjilcflilcaa

namespace Go.Proofs.Ythncjilcflilcaa
set_option linter.all false
open Go

theorem drop_cons {α : Type} {l : List α} {k : Nat} (h : k < l.length) (d : α) : l.drop k = l.getD k d :: l.drop (k + 1) := by
  rw [List.drop_eq_getElem_cons h]; simp [List.getD, h]
theorem gets {α : Type} {l : List α} {k : Nat} (h : k < l.length) (d : α) : l[((k : Nat) : Int).toNat]? = some (l.getD k d) := by simp [List.getD, h]
theorem getD_mem {α : Type} {l : List α} {i : Nat} {d : α} (h : i < l.length) : l.getD i d ∈ l := by
  simp [List.getD, h]
theorem nat_succ (k : Nat) : ((k + 1 : Nat) : Int) = (k : Int) + 1 := by omega
theorem in_v (N : Nat) (n lo hi : Int) : in__S N n lo hi = some (decide (lo ≤ n ∧ n ≤ hi)) := by
  unfold in__S br
  by_cases h : lo ≤ n <;> simp [h]
theorem every_gen {α : Type} {f : α → Option Bool} {p : α → Bool} {s : List α} {N : Nat} (hf : ∀ x ∈ s, f x = some (p x)) (hs : s.length ≤ 1000000) (hN : s.length < N) :
    (((ixS (fun x => (f x).bind fun c => some (!c)) N s).bind fun x => some (decide (0 ≤ x))).bind fun x => some (!x)) = some (s.all p) := by
  rw [ixS_any (p := fun x => !p x) (fun x hx => by rw [hf x hx]; rfl) hs hN]
  simp only [Option.bind_some, any_not]
/-- The limits of a desk's numbers. -/
def okv (x : Int) : Bool := decide (-1 ≤ x ∧ x ≤ 5)
def okw (x : Int) : Bool := decide (1 ≤ x ∧ x ≤ 9)
def okr (x : Int) : Bool := decide (0 ≤ x ∧ x ≤ 99)
def okl (n : Nat) (r : List Int) : Bool := decide (r.length = n)
/-- What is looked at is small. -/
structure Sm (W : List Int) (L F : List (List Int)) (R : List Int) : Prop where
  w : W.length ≤ 100
  l : L.length ≤ 100
  f : F.length ≤ 100
  r : R.length ≤ 100
  lr : ∀ x ∈ L, x.length ≤ 100
  fr : ∀ x ∈ F, x.length ≤ 100
section
variable (N : Nat)
theorem ixfv_gen : ∀ (n : Nat) (s : List Int) (u u2 : Int), ixfv_l1 N n s u u2 = ixL (every1v_S N) n s u u2
  | 0, _, _, _ => rfl
  | n + 1, s, u, u2 => by unfold ixfv_l1 ixL; simp only [ixfv_gen n]
theorem ixfva_gen : ∀ (n : Nat) (s : List (List Int)) (u u2 : Int), ixfva_l1 N n s u u2 = ixL (every1va_S N) n s u u2
  | 0, _, _, _ => rfl
  | n + 1, s, u, u2 => by unfold ixfva_l1 ixL; simp only [ixfva_gen n]
theorem ixfw_gen : ∀ (n : Nat) (s : List Int) (u u2 : Int), ixfw_l1 N n s u u2 = ixL (every1w_S N) n s u u2
  | 0, _, _, _ => rfl
  | n + 1, s, u, u2 => by unfold ixfw_l1 ixL; simp only [ixfw_gen n]
theorem ixfr_gen : ∀ (n : Nat) (s : List Int) (u u2 : Int), ixfr_l1 N n s u u2 = ixL (every1r_S N) n s u u2
  | 0, _, _, _ => rfl
  | n + 1, s, u, u2 => by unfold ixfr_l1 ixL; simp only [ixfr_gen n]
end
section
variable {N : Nat} {W : List Int} {s : Int} {L F : List (List Int)} {R : List Int}
theorem everyv_v {l : List Int} (h : l.length ≤ 1000000) (hN : l.length < N) : everyv_S N l = some (l.all okv) := by
  unfold everyv_S cofv_S ixfv_S
  rw [← every_gen (f := check21_S N) (p := okv) (s := l) (N := N) (fun x _ => ?_) h hN]
  · unfold ixS
    rw [ixfv_gen]
    rfl
  · unfold check21_S okv
    rw [in_v]; rfl
theorem everyw_v {l : List Int} (h : l.length ≤ 1000000) (hN : l.length < N) : everyw_S N l = some (l.all okw) := by
  unfold everyw_S cofw_S ixfw_S
  rw [← every_gen (f := check3_S N) (p := okw) (s := l) (N := N) (fun x _ => ?_) h hN]
  · unfold ixS
    rw [ixfw_gen]
    rfl
  · unfold check3_S okw
    rw [in_v]; rfl
theorem everyr_v {l : List Int} (h : l.length ≤ 1000000) (hN : l.length < N) : everyr_S N l = some (l.all okr) := by
  unfold everyr_S cofr_S ixfr_S
  rw [← every_gen (f := check4_S N) (p := okr) (s := l) (N := N) (fun x _ => ?_) h hN]
  · unfold ixS
    rw [ixfr_gen]
    rfl
  · unfold check4_S okr
    rw [in_v]; rfl
theorem everyva_v {l : List (List Int)} (h : l.length ≤ 1000000) (hN : l.length < N) (hr : ∀ x ∈ l, x.length ≤ 1000000 ∧ x.length < N) : everyva_S N l = some (l.all fun r => r.all okv) := by
  unfold everyva_S cofva_S ixfva_S
  rw [← every_gen (f := check2_S N) (p := fun r => r.all okv) (s := l) (N := N) (fun x hx => ?_) h hN]
  · unfold ixS
    rw [ixfva_gen]
    rfl
  · unfold check2_S
    rw [everyv_v (hr x hx).1 (hr x hx).2]; rfl
theorem ixflo_gen : ∀ (n : Nat) (l : List (List Int)) (u u2 : Int), ixflo_l1 N n l u u2 (W, s, L, F, R) = (ixL (fun x => some (!okl W.length x)) n l u u2).map fun r => match r with | .inl i => .inl (i, (W, s, L, F, R)) | .inr _ => .inr (W, s, L, F, R)
  | 0, _, _, _ => rfl
  | n + 1, l, u, u2 => by
    have e : ∀ x, every1lo_S N x (W, s, L, F, R) = some (!okl W.length x, (W, s, L, F, R)) := fun x => by
      unfold every1lo_S check1_S okl
      simp only [Option.bind_some]
      congr 3
      exact decide_eq_decide.2 (by omega)
    unfold ixflo_l1 ixL
    simp only [e, Option.bind_some, ixflo_gen n]
    unfold br
    split
    · unfold idx
      split
      · cases l[u2.toNat]? with
        | none => rfl
        | some a =>
          dsimp only
          cases okl W.length a
          · rfl
          · simp only [Bool.not_true, Bool.false_eq_true, if_false]
            unfold chk
            split <;> rfl
      · rfl
    · rfl
theorem everylo_v {l : List (List Int)} (h : l.length ≤ 1000000) (hN : l.length < N) : everylo_S N l (W, s, L, F, R) = some (l.all (okl W.length)) := by
  unfold everylo_S coflo_S ixflo_S
  rw [← every_gen (f := fun x => some (okl W.length x)) (p := okl W.length) (s := l) (N := N) (fun x _ => rfl) h hN]
  unfold ixS
  rw [ixflo_gen]
  simp only [Option.bind_some]
  cases ixL (fun x => some (!okl W.length x)) N l l.length 0 with
  | none => rfl
  | some r => cases r <;> rfl
end
/-- The error of a desk. -/
def errD (W : List Int) (s : Int) (L F : List (List Int)) (R : List Int) : Int :=
  if ¬ (1 ≤ (W.length : Int) ∧ (W.length : Int) ≤ 5) then 2 else if 6 < (L.length : Int) then 2 else if 6 < (F.length : Int) then 2 else if L.all (okl W.length) = false then 2 else if F.all (okl W.length) = false then 2 else
  if ¬ ((R.length : Int) = (L.length : Int)) then 2 else if (W.all okw && decide (0 ≤ s ∧ s ≤ 3) && R.all okr && (L.all fun r => r.all okv) && F.all fun r => r.all okv) = true then 0 else 3
section
variable {N : Nat} {W : List Int} {s : Int} {L F : List (List Int)} {R : List Int}
theorem check_v (hN : 110 ≤ N) (h : Sm W L F R) : check_S N W s L F R = some (errD W s L F R) := by
  obtain ⟨hw, hl, hf, hr, hlr, hfr⟩ := h
  unfold check_S errD
  rw [in_v]
  simp only [Option.bind_some]
  by_cases c1 : 1 ≤ (W.length : Int) ∧ (W.length : Int) ≤ 5
  rotate_left
  · rw [br_nnd c1, if_pos c1]
  rw [br_nd c1, if_neg (by simpa using c1)]
  by_cases c2 : 6 < (L.length : Int)
  · rw [br_dec c2, if_pos c2]
  rw [br_ndec c2, if_neg c2]
  by_cases c3 : 6 < (F.length : Int)
  · rw [br_dec c3, if_pos c3]
  rw [br_ndec c3, if_neg c3, everylo_v (by omega) (by omega), everylo_v (by omega) (by omega), everyw_v (by omega) (by omega), in_v, everyr_v (by omega) (by omega),
    everyva_v (by omega) (by omega) (fun x hx => ⟨by have := hlr x hx; omega, by have := hlr x hx; omega⟩), everyva_v (by omega) (by omega) (fun x hx => ⟨by have := hfr x hx; omega, by have := hfr x hx; omega⟩)]
  simp only [Option.bind_some]
  cases L.all (okl W.length)
  · rfl
  cases F.all (okl W.length)
  · rfl
  by_cases c4 : (R.length : Int) = (L.length : Int)
  rotate_left
  · simp only [Bool.not_true, br_false, Bool.true_eq_false, if_false]
    rw [br_nnd c4, if_pos c4]
  simp only [Bool.not_true, br_false, Bool.true_eq_false, if_false]
  rw [br_nd c4, if_neg (not_not_intro c4)]
  cases W.all okw <;> cases decide (0 ≤ s ∧ s ≤ 3) <;> cases R.all okr <;> cases (L.all fun r => r.all okv) <;> cases (F.all fun r => r.all okv) <;> rfl
theorem off_v (n lo hi : Int) : off_S N n lo hi = some (!decide (lo ≤ n ∧ n ≤ hi)) := by
  unfold off_S
  by_cases c : n < lo
  · rw [br_dec c]; congr 1; simp; omega
  · rw [br_ndec c]; congr 1
    by_cases d : n ≤ hi
    · rw [decide_eq_false (show ¬ hi < n by omega), decide_eq_true (show lo ≤ n ∧ n ≤ hi from ⟨by omega, d⟩)]; rfl
    · rw [decide_eq_true (show hi < n by omega), decide_eq_false (fun h : lo ≤ n ∧ n ≤ hi => d h.2)]; rfl
/-- A loop through a list that ends at the first element that isn't so. -/
def alls {α β : Type} (p : α → Bool) (s : List α) (k : Nat) (b : β) : Option (Unit ⊕ β) := some (if (s.drop k).all p then .inr b else .inl ())
theorem alls_yes {α β : Type} {p : α → Bool} {s : List α} {k : Nat} {b : β} (d : α) (h : k < s.length) (hp : p (s.getD k d) = true) : alls p s k b = alls p s (k + 1) b := by
  unfold alls; rw [drop_cons h d, List.all_cons, hp, Bool.true_and]
theorem alls_no {α β : Type} {p : α → Bool} {s : List α} {k : Nat} {b : β} (d : α) (h : k < s.length) (hp : p (s.getD k d) = false) : alls p s k b = some (.inl ()) := by
  unfold alls; rw [drop_cons h d, List.all_cons, hp, Bool.false_and]; rfl
theorem alls_end {α β : Type} {p : α → Bool} {s : List α} {k : Nat} {b : β} (h : s.length ≤ k) : alls p s k b = some (.inr b) := by
  unfold alls; rw [List.drop_of_length_le h]; rfl
theorem described_l1_p (hw : W.length ≤ 1000000) {l : List (List Int)} (hl : l.length ≤ 1000000) : ∀ (n k : Nat), l.length < n + k → k ≤ l.length → described_l1 N n l k W s L F R = alls (okl W.length) l k ()
  | 0, k, h, _ => by omega
  | n + 1, k, h, hk => by
    unfold described_l1
    by_cases c : k < l.length
    · have ih := described_l1_p hw hl n (k + 1) (by omega) (by omega)
      rw [nat_succ] at ih
      rw [br_dec (by omega), idx_eq (by omega) (gets c [])]
      by_cases c1 : ((l.getD k []).length : Int) = W.length
      · rw [br_nd c1, chk_eq (by omega), ih, alls_yes [] c (by unfold okl; rw [decide_eq_true_eq]; omega)]
      · rw [br_nnd c1, alls_no [] c (by unfold okl; rw [decide_eq_false_iff_not]; omega)]
    · rw [br_ndec (by omega), alls_end (by omega)]
theorem described_v (hw : W.length ≤ 1000000) {l : List (List Int)} (hl : l.length ≤ 1000000) (hN : l.length < N) : described_S N W s L F R l = some (l.all (okl W.length)) := by
  unfold described_S
  have := described_l1_p (N := N) (s := s) (L := L) (F := F) (R := R) hw hl N 0 (by omega) (by omega)
  rw [show ((0 : Nat) : Int) = 0 from rfl] at this
  rw [this]
  unfold alls
  simp only [List.drop_zero, Option.bind_some]
  cases l.all (okl W.length) <;> rfl
theorem valued_l2_p {l : List (List Int)} {i : Nat} (hi : i < l.length) (hr : (l.getD i []).length ≤ 1000000) : ∀ (n k : Nat), (l.getD i []).length < n + k → k ≤ (l.getD i []).length → valued_l2 N n l i k = alls okv (l.getD i []) k (l, (i : Int))
  | 0, k, h, _ => by omega
  | n + 1, k, h, hk => by
    unfold valued_l2
    rw [idx_eq (by omega) (gets hi [])]
    by_cases c : k < (l.getD i []).length
    · have ih := valued_l2_p hi hr n (k + 1) (by omega) (by omega)
      rw [nat_succ] at ih
      rw [br_dec (by omega), idx_eq (by omega) (gets hi []), idx_eq (by omega) (gets c 0), off_v]
      simp only [Option.bind_some]
      by_cases c1 : -1 ≤ (l.getD i []).getD k 0 ∧ (l.getD i []).getD k 0 ≤ 5
      · rw [br_nd c1, chk_eq (by omega), ih, alls_yes 0 c (by simp only [okv, c1, and_self, decide_true])]
      · rw [br_nnd c1, alls_no 0 c (by simp only [okv, c1, decide_false])]
    · rw [br_ndec (by omega), alls_end (by omega)]
theorem valued_l1_p {l : List (List Int)} (hl : l.length ≤ 1000000) (hr : ∀ x ∈ l, x.length ≤ 1000000 ∧ x.length < N) : ∀ (n k : Nat), l.length < n + k → k ≤ l.length → valued_l1 N n l k = alls (fun r => r.all okv) l k ()
  | 0, k, h, _ => by omega
  | n + 1, k, h, hk => by
    unfold valued_l1
    by_cases c : k < l.length
    · have ih := valued_l1_p hl hr n (k + 1) (by omega) (by omega)
      rw [nat_succ] at ih
      have e := valued_l2_p (N := N) c (hr _ (getD_mem c)).1 N 0 (by have := (hr _ (getD_mem (d := []) c)).2; omega) (by omega)
      rw [show ((0 : Nat) : Int) = 0 from rfl] at e
      rw [br_dec (by omega), e]
      by_cases hb : (l.getD k []).all okv = true
      · rw [alls_yes (p := fun r => r.all okv) [] c hb, ← ih]
        unfold alls
        rw [List.drop_zero, if_pos hb]
        exact chk_eq (by omega)
      · rw [alls_no (p := fun r => r.all okv) [] c (Bool.eq_false_iff.2 hb)]
        unfold alls
        rw [List.drop_zero, if_neg hb]
        rfl
    · rw [br_ndec (by omega), alls_end (by omega)]
theorem valued_v {l : List (List Int)} (hl : l.length ≤ 1000000) (hN : l.length < N) (hr : ∀ x ∈ l, x.length ≤ 1000000 ∧ x.length < N) : valued_S N l = some (l.all fun r => r.all okv) := by
  unfold valued_S
  have := valued_l1_p (N := N) hl hr N 0 (by omega) (by omega)
  rw [show ((0 : Nat) : Int) = 0 from rfl] at this
  rw [this]
  unfold alls
  simp only [List.drop_zero, Option.bind_some]
  cases (l.all fun r => r.all okv) <;> rfl
theorem rcheck_l1_p (hw : W.length ≤ 1000000) : ∀ (n k : Nat), W.length < n + k → k ≤ W.length → rcheck_l1 N n k W s L F R = alls okw W k (W, s, L, F, R)
  | 0, k, h, _ => by omega
  | n + 1, k, h, hk => by
    unfold rcheck_l1
    by_cases c : k < W.length
    · have ih := rcheck_l1_p hw n (k + 1) (by omega) (by omega)
      rw [nat_succ] at ih
      rw [br_dec (by omega), idx_eq (by omega) (gets c 0), off_v]
      simp only [Option.bind_some]
      by_cases c1 : 1 ≤ W.getD k 0 ∧ W.getD k 0 ≤ 9
      · rw [br_nd c1, chk_eq (by omega), ih, alls_yes 0 c (by simp only [okw, c1, and_self, decide_true])]
      · rw [br_nnd c1, alls_no 0 c (by simp only [okw, c1, decide_false])]
    · rw [br_ndec (by omega), alls_end (by omega)]
theorem rcheck_l2_p (hw : R.length ≤ 1000000) : ∀ (n k : Nat), R.length < n + k → k ≤ R.length → rcheck_l2 N n k W s L F R = alls okr R k (W, s, L, F, R)
  | 0, k, h, _ => by omega
  | n + 1, k, h, hk => by
    unfold rcheck_l2
    by_cases c : k < R.length
    · have ih := rcheck_l2_p hw n (k + 1) (by omega) (by omega)
      rw [nat_succ] at ih
      rw [br_dec (by omega), idx_eq (by omega) (gets c 0), off_v]
      simp only [Option.bind_some]
      by_cases c1 : 0 ≤ R.getD k 0 ∧ R.getD k 0 ≤ 99
      · rw [br_nd c1, chk_eq (by omega), ih, alls_yes 0 c (by simp only [okr, c1, and_self, decide_true])]
      · rw [br_nnd c1, alls_no 0 c (by simp only [okr, c1, decide_false])]
    · rw [br_ndec (by omega), alls_end (by omega)]
theorem rcheck_v (hN : 110 ≤ N) (h : Sm W L F R) : rcheck_S N W s L F R = some (errD W s L F R) := by
  obtain ⟨hw, hl, hf, hr, hlr, hfr⟩ := h
  unfold rcheck_S errD
  rw [off_v]
  simp only [Option.bind_some]
  by_cases c1 : 1 ≤ (W.length : Int) ∧ (W.length : Int) ≤ 5
  rotate_left
  · rw [br_nnd c1, if_pos c1]
  rw [br_nd c1, if_neg (by simpa using c1)]
  by_cases c2 : 6 < (L.length : Int)
  · rw [br_dec c2, if_pos c2]
  rw [br_ndec c2, if_neg c2]
  by_cases c3 : 6 < (F.length : Int)
  · rw [br_dec c3, if_pos c3]
  have e1 := rcheck_l1_p (N := N) (s := s) (L := L) (F := F) (R := R) (W := W) (by omega) N 0 (by omega) (by omega)
  have e2 := rcheck_l2_p (N := N) (s := s) (L := L) (F := F) (W := W) (R := R) (by omega) N 0 (by omega) (by omega)
  rw [show ((0 : Nat) : Int) = 0 from rfl] at e1 e2
  rw [br_ndec c3, if_neg c3, described_v (by omega) (by omega) (by omega), described_v (by omega) (by omega) (by omega), e1]
  unfold alls at e2 ⊢
  simp only [List.drop_zero, Option.bind_some] at e2 ⊢
  cases L.all (okl W.length)
  · rfl
  cases F.all (okl W.length)
  · rfl
  by_cases c4 : (R.length : Int) = (L.length : Int)
  rotate_left
  · simp only [Bool.not_true, br_false, Bool.true_eq_false, if_false]
    rw [br_nnd c4, if_pos c4]
  simp only [Bool.not_true, br_false, Bool.true_eq_false, if_false]
  rw [br_nd c4, if_neg (not_not_intro c4)]
  by_cases d1 : W.all okw = true
  rotate_left
  · rw [if_neg d1, if_neg (by rw [Bool.eq_false_iff.2 d1]; simp)]
  rw [if_pos d1, d1]
  dsimp only
  rw [e2]
  simp only [Option.bind_some]
  by_cases d2 : R.all okr = true
  rotate_left
  · rw [if_neg d2, if_neg (by rw [Bool.eq_false_iff.2 d2]; simp)]
  rw [if_pos d2, d2]
  dsimp only
  rw [off_v, valued_v (N := N) (l := L) (by omega) (by omega) (fun x hx => ⟨by have := hlr x hx; omega, by have := hlr x hx; omega⟩), valued_v (N := N) (l := F) (by omega) (by omega) (fun x hx => ⟨by have := hfr x hx; omega, by have := hfr x hx; omega⟩)]
  simp only [Option.bind_some]
  cases decide (0 ≤ s ∧ s ≤ 3) <;> cases (L.all fun r => r.all okv) <;> cases (F.all fun r => r.all okv) <;> rfl
end
section
variable {N : Nat}
theorem copyi_v {l : List Int} (h : l.length ≤ 1000000) : copyi_S N l = some l := by
  unfold copyi_S
  rw [grd_eq (lmI_iff.2 (by omega))]
  simp
theorem take_succ' {α : Type} {l : List α} {k : Nat} (c : k < l.length) (d : α) : l.take (k + 1) = l.take k ++ [l.getD k d] := by
  rw [List.take_add_one]; simp [List.getD, c]
theorem likei_v {l : List Int} (h : l.length ≤ 1000) (hN : l.length < N) : likei_S N l l = some true := by
  have e : ∀ (n k : Nat), l.length < n + k → k ≤ l.length → equali_l1 N n l l l.length k = some (.inr ()) := by
    intro n
    induction n with
    | zero => intro k h _; omega
    | succ n ih =>
      intro k h2 hk
      unfold equali_l1
      by_cases c : k < l.length
      · have := ih (k + 1) (by omega) (by omega)
        rw [show ((k + 1 : Nat) : Int) = (k : Int) + 1 by omega] at this
        rw [br_dec (by omega), idx_eq (by omega) (gets c 0), idx_eq (by omega) (gets c 0), br_nd rfl, chk_eq (by omega), this]
      · rw [br_ndec (by omega)]
  have e0 := e N 0 (by omega) (by omega)
  simp only [Int.natCast_zero] at e0
  unfold likei_S equali_S
  rw [br_nd rfl, e0]; rfl
end
end Go.Proofs.Ythncjilcflilcaa

namespace Go.Proofs.Ythncjilcflilcaa
set_option linter.all false
open Go

def tabA (g : Nat → Int) : List Int := (List.range 36).map g
theorem tabA_len (g : Nat → Int) : (tabA g).length = 36 := by simp [tabA]
theorem tabA_get {g : Nat → Int} {x : Nat} (h : x < 36) : (tabA g).getD x 0 = g x := by simp [tabA, List.getD, h]
theorem tabA_set (g : Nat → Int) (x : Nat) (v : Int) : (tabA g).set x v = tabA (upd g x v) := by
  refine List.ext_getElem (by simp [tabA]) fun i h1 h2 => ?_
  simp only [tabA, List.getElem_set, List.getElem_map, List.getElem_range, upd]
  by_cases e : x = i
  · rw [if_pos e, if_pos e.symm]
  · rw [if_neg e, if_neg (Ne.symm e)]
/-- What two descriptions agree in, and how often they slip, up to a trait. -/
def agA (W a b : List Int) (t : Nat) : Int := if a.getD t 0 = b.getD t 0 ∧ a.getD t 0 ≠ -1 then W.getD t 0 else 0
def slA (a b : List Int) (t : Nat) : Int := if a.getD t 0 ≠ -1 ∧ b.getD t 0 ≠ -1 ∧ a.getD t 0 ≠ b.getD t 0 then 1 else 0
def agP (W a b : List Int) (k : Nat) : Int := sumN (agA W a b) k
def slP (a b : List Int) (k : Nat) : Int := sumN (slA a b) k
def agF (W : List Int) (L F : List (List Int)) (i k : Nat) : Int := if i < L.length ∧ k < F.length then agP W (L.getD i []) (F.getD k []) W.length else 0
def slF (W : List Int) (L F : List (List Int)) (i k : Nat) : Int := if i < L.length ∧ k < F.length then slP (L.getD i []) (F.getD k []) W.length else 0
theorem sumN_bound {f : Nat → Int} {m : Int} (h : ∀ i, 0 ≤ f i ∧ f i ≤ m) (hm : 0 ≤ m ∧ m ≤ 10) : ∀ n : Nat, n ≤ 1000 → 0 ≤ sumN f n ∧ sumN f n ≤ 10 * n
  | 0, _ => by simp [sumN]
  | n + 1, hn => by
    have h1 := sumN_bound h hm n (by omega)
    have h2 := h n
    rw [sumN]; omega
/-- A desk without an error. -/
structure Fine (W : List Int) (s : Int) (L F : List (List Int)) (R : List Int) : Prop where
  w1 : 1 ≤ W.length
  w5 : W.length ≤ 5
  l6 : L.length ≤ 6
  f6 : F.length ≤ 6
  lw : ∀ x ∈ L, x.length = W.length
  fw : ∀ x ∈ F, x.length = W.length
  rl : R.length = L.length
  w : ∀ x ∈ W, 1 ≤ x ∧ x ≤ 9
  s : 0 ≤ s ∧ s ≤ 3
  r : ∀ x ∈ R, 0 ≤ x ∧ x ≤ 99
  lv : ∀ r ∈ L, ∀ x ∈ r, -1 ≤ x ∧ x ≤ 5
  fv : ∀ r ∈ F, ∀ x ∈ r, -1 ≤ x ∧ x ≤ 5
section
variable {W : List Int} {s : Int} {L F : List (List Int)} {R : List Int}
theorem errD_iff : errD W s L F R = 0 ↔ Fine W s L F R := by
  unfold errD
  constructor
  · intro h
    split at h
    · cases h
    rename_i c1
    split at h
    · cases h
    rename_i c2
    split at h
    · cases h
    rename_i c3
    split at h
    · cases h
    rename_i c4
    split at h
    · cases h
    rename_i c5
    split at h
    · cases h
    rename_i c6
    split at h
    rotate_left
    · cases h
    rename_i c7
    simp only [Bool.and_eq_true, List.all_eq_true, okw, okr, okv, decide_eq_true_eq] at c7
    simp only [Bool.not_eq_false, List.all_eq_true, okl, decide_eq_true_eq] at c4 c5
    exact ⟨by omega, by omega, by omega, by omega, c4, c5, by omega, c7.1.1.1.1, c7.1.1.1.2, c7.1.1.2, c7.1.2, c7.2⟩
  · intro h
    have c4 : L.all (okl W.length) = true := by simpa [okl] using h.lw
    have c5 : F.all (okl W.length) = true := by simpa [okl] using h.fw
    have h1 := h.w1; have h2 := h.w5; have h3 := h.l6; have h4 := h.f6; have h5 := h.rl
    rw [if_neg (by omega), if_neg (by omega), if_neg (by omega), if_neg (by simp [c4]), if_neg (by simp [c5]), if_neg (by omega), if_pos]
    simp only [Bool.and_eq_true, List.all_eq_true, okw, okr, okv, decide_eq_true_eq]
    exact ⟨⟨⟨⟨h.w, h.s⟩, h.r⟩, h.lv⟩, h.fv⟩
theorem Fine.sm (h : Fine W s L F R) : Sm W L F R := by
  have h1 := h.w1; have h2 := h.w5; have h3 := h.l6; have h4 := h.f6; have h5 := h.rl
  exact ⟨by omega, by omega, by omega, by omega, fun x hx => by have := h.lw x hx; omega, fun x hx => by have := h.fw x hx; omega⟩
/-- The desk at work. -/
def dkT (W : List Int) (s : Int) (L F : List (List Int)) (R : List Int) (A B : Nat → Nat → Int) : Dk := (W, s, L, F, R, tabA (fun x => A (x / 6) (x % 6)), tabA (fun x => B (x / 6) (x % 6)), ())
def dkO (W : List Int) (s : Int) (L F : List (List Int)) (R : List Int) : Dk := dkT W s L F R (agF W L F) (slF W L F)
theorem getD_W (hw : ∀ x ∈ W, 1 ≤ x ∧ x ≤ 9) (t : Nat) : 0 ≤ W.getD t 0 ∧ W.getD t 0 ≤ 9 := by
  by_cases h : t < W.length
  · have := hw _ (getD_mem (d := 0) h); omega
  · have : W.getD t 0 = 0 := by simp [List.getD, List.getElem?_eq_none (show W.length ≤ t by omega)]
    omega
theorem agA_bound (hw : ∀ x ∈ W, 1 ≤ x ∧ x ≤ 9) (a b : List Int) (t : Nat) : 0 ≤ agA W a b t ∧ agA W a b t ≤ 9 := by
  have := getD_W hw t
  unfold agA; split <;> omega
theorem slA_bound (a b : List Int) (t : Nat) : 0 ≤ slA a b t ∧ slA a b t ≤ 1 := by unfold slA; split <;> omega
theorem agP_bound (hw : ∀ x ∈ W, 1 ≤ x ∧ x ≤ 9) (a b : List Int) {t : Nat} (ht : t ≤ 5) : 0 ≤ agP W a b t ∧ agP W a b t ≤ 50 := by
  have := sumN_bound (agA_bound hw a b) (by omega) t (by omega)
  unfold agP; omega
theorem slP_bound (a b : List Int) {t : Nat} (ht : t ≤ 5) : 0 ≤ slP a b t ∧ slP a b t ≤ 50 := by
  have := sumN_bound (slA_bound a b) (by omega) t (by omega)
  unfold slP; omega
theorem upd_upd {α : Type} (J : Nat → α) (i : Nat) (v w : α) : upd (upd J i v) i w = upd J i w := by
  funext x; unfold upd; split <;> rfl
theorem upd_id {α : Type} (J : Nat → α) (i : Nat) : upd J i (J i) = J := by
  funext x; unfold upd; split
  · rename_i e; rw [e]
  · rfl
theorem opened_l3_p {N : Nat} (h : Fine W s L F R) {i k : Nat} (hi : i < 6) (hk : k < 6) {a b : List Int} (ha : a.length = W.length) (hb : b.length = W.length) {u u4 : List (List Int)} {u2 u3 u5 u6 : Int} {o1 o5 : List Int} {o2 : Int} {o3 o4 : List (List Int)} :
    ∀ (n t : Nat) (g g' : Nat → Int), W.length < n + t → t ≤ W.length → g (i * 6 + k) = agP W a b t → g' (i * 6 + k) = slP a b t →
      opened_l3 N n i a k b u u2 u3 u4 u5 u6 a a.length t W s L F R o1 o2 o3 o4 o5 (tabA g) (tabA g') = some ((i : Int), a, u, u2, u3, u4, u5, u6, W, s, L, F, R, o1, o2, o3, o4, o5, tabA (upd g (i * 6 + k) (agP W a b W.length)), tabA (upd g' (i * 6 + k) (slP a b W.length)))
  | 0, t, _, _, hn, ht, _, _ => by omega
  | n + 1, t, g, g', hn, ht, e1, e2 => by
    unfold opened_l3
    have hw5 := h.w5
    by_cases c : t < W.length
    · have hx : i * 6 + k < 36 := by omega
      have hj : ∀ g g' : Nat → Int, opened_j1 N (opened_l3 N n) i a k b u u2 u3 u4 u5 u6 a a.length t W s L F R o1 o2 o3 o4 o5 (tabA g) (tabA g') = opened_l3 N n i a k b u u2 u3 u4 u5 u6 a a.length ((t + 1 : Nat) : Int) W s L F R o1 o2 o3 o4 o5 (tabA g) (tabA g') := fun g g' => by
        unfold opened_j1
        rw [chk_eq (by omega)]; rfl
      have b1 := agP_bound h.w a b (t := t) (by omega)
      have b2 := slP_bound a b (t := t) (by omega)
      have b3 := getD_W h.w t
      have s1 : agP W a b (t + 1) = agP W a b t + agA W a b t := rfl
      have s2 : slP a b (t + 1) = slP a b t + slA a b t := rfl
      rw [br_dec (by omega), idx_eq (by omega) (gets (by omega) 0)]
      unfold agA at s1
      unfold slA at s2
      by_cases c1 : a.getD t 0 = -1
      · rw [if_neg (by omega)] at s1 s2
        rw [br_dec c1, hj, opened_l3_p h hi hk ha hb n (t + 1) g g' (by omega) (by omega) (by omega) (by omega)]
      rw [br_ndec c1, idx_eq (by omega) (gets (by omega) 0)]
      by_cases c2 : b.getD t 0 = -1
      · rw [if_neg (by omega)] at s1 s2
        rw [br_dec c2, hj, opened_l3_p h hi hk ha hb n (t + 1) g g' (by omega) (by omega) (by omega) (by omega)]
      rw [br_ndec c2, idx_eq (by omega) (gets (by omega) 0)]
      by_cases c3 : a.getD t 0 = b.getD t 0
      · rw [if_pos ⟨c3, c1⟩] at s1
        rw [if_neg (by omega)] at s2
        rw [br_dec c3, rng_eq (by omega), rng_eq (by omega)]
        simp only [Int.toNat_natCast]
        rw [get_get 0 (by rw [tabA_len]; exact hx), tabA_get hx, e1, idx_eq (by omega) (gets (k := t) (l := W) (by omega) 0), chk_eq (by omega), rng_eq (by omega), rng_eq (by omega), get_get 0 (by rw [tabA_len]; exact hx), tabA_set, hj,
          opened_l3_p h hi hk ha hb n (t + 1) _ _ (by omega) (by omega) (by rw [upd_self]; omega) (by omega), upd_upd]
      · rw [if_neg (by omega)] at s1
        rw [if_pos ⟨c1, c2, c3⟩] at s2
        rw [br_ndec c3, rng_eq (by omega), rng_eq (by omega)]
        simp only [Int.toNat_natCast]
        rw [get_get 0 (by rw [tabA_len]; exact hx), tabA_get hx, e2, chk_eq (by omega), rng_eq (by omega), rng_eq (by omega), get_get 0 (by rw [tabA_len]; exact hx), tabA_set, hj,
          opened_l3_p h hi hk ha hb n (t + 1) _ _ (by omega) (by omega) (by omega) (by rw [upd_self]; omega), upd_upd]
    · obtain rfl : t = W.length := by omega
      rw [br_ndec (by omega), ← e1, ← e2, upd_id, upd_id]
/-- Tables that are filled up to a pair. -/
def gK (A : Nat → Nat → Int) (i k : Nat) : Nat → Int := fun x => if x / 6 < i ∨ (x / 6 = i ∧ x % 6 < k) then A (x / 6) (x % 6) else 0
theorem gK_step (A : Nat → Nat → Int) {i k : Nat} (hk : k < 6) : upd (gK A i k) (i * 6 + k) (A i k) = gK A i (k + 1) := by
  funext x
  unfold upd gK
  by_cases e : x = i * 6 + k
  · rw [if_pos e, if_pos (by omega), show x / 6 = i by omega, show x % 6 = k by omega]
  · rw [if_neg e]
    by_cases c : x / 6 < i ∨ (x / 6 = i ∧ x % 6 < k)
    · rw [if_pos c, if_pos (by omega)]
    · rw [if_neg c, if_neg (by omega)]
theorem gK_self (A : Nat → Nat → Int) {i k : Nat} (hk : k < 6) : gK A i k (i * 6 + k) = 0 := if_neg (by omega)
theorem gK_row {A : Nat → Nat → Int} {i m : Nat} (h : ∀ k, m ≤ k → A i k = 0) : gK A i m = gK A (i + 1) 0 := by
  funext x
  unfold gK
  by_cases c : x / 6 < i ∨ (x / 6 = i ∧ x % 6 < m)
  · rw [if_pos c, if_pos (by omega)]
  · rw [if_neg c]
    by_cases d : x / 6 = i
    · rw [if_pos (by omega), d, h _ (by omega)]
    · rw [if_neg (by omega)]
theorem gK_all {A : Nat → Nat → Int} {n : Nat} (h : ∀ i k, n ≤ i → A i k = 0) : gK A n 0 = fun x => A (x / 6) (x % 6) := by
  funext x
  unfold gK
  by_cases c : x / 6 < n
  · rw [if_pos (.inl c)]
  · rw [if_neg (by omega), h _ _ (by omega)]
theorem opened_l2_p {N : Nat} (hN : 110 ≤ N) (h : Fine W s L F R) {i : Nat} (hi : i < L.length) {u : List (List Int)} {u2 u3 : Int} {o1 o5 : List Int} {o2 : Int} {o3 o4 : List (List Int)} :
    ∀ (n k : Nat), F.length < n + k → k ≤ F.length →
      opened_l2 N n i (L.getD i []) u u2 u3 F F.length k W s L F R o1 o2 o3 o4 o5 (tabA (gK (agF W L F) i k)) (tabA (gK (slF W L F) i k)) = some (u, u2, u3, W, s, L, F, R, o1, o2, o3, o4, o5, tabA (gK (agF W L F) (i + 1) 0), tabA (gK (slF W L F) (i + 1) 0))
  | 0, k, hn, hk => by omega
  | n + 1, k, hn, hk => by
    unfold opened_l2
    have hl6 := h.l6; have hf6 := h.f6; have hw5 := h.w5
    by_cases c : k < F.length
    · have ih := opened_l2_p hN h hi (u := u) (u2 := u2) (u3 := u3) (o1 := o1) (o5 := o5) (o2 := o2) (o3 := o3) (o4 := o4) n (k + 1) (by omega) (by omega)
      rw [nat_succ] at ih
      have e := opened_l3_p (N := N) h (i := i) (k := k) (by omega) (by omega) (h.lw _ (getD_mem (d := []) hi)) (h.fw _ (getD_mem (d := []) c)) (u := u) (u4 := F) (u2 := u2) (u3 := u3) (u5 := F.length) (u6 := k) (o1 := o1) (o5 := o5) (o2 := o2) (o3 := o3) (o4 := o4)
        N 0 (gK (agF W L F) i k) (gK (slF W L F) i k) (by omega) (by omega) (gK_self _ (by omega)) (gK_self _ (by omega))
      have a1 : agP W (L.getD i []) (F.getD k []) W.length = agF W L F i k := (if_pos ⟨hi, c⟩).symm
      have a2 : slP (L.getD i []) (F.getD k []) W.length = slF W L F i k := (if_pos ⟨hi, c⟩).symm
      rw [a1, a2, gK_step _ (by omega), gK_step _ (by omega), show ((0 : Nat) : Int) = 0 from rfl] at e
      rw [br_dec (by omega), idx_eq (by omega) (gets c []), e]
      simp only [Option.bind_some]
      rw [chk_eq (by omega)]
      exact ih
    · obtain rfl : k = F.length := by omega
      rw [br_ndec (by omega), gK_row (A := agF W L F) (i := i) (m := F.length) (fun k hk => by unfold agF; exact if_neg (by omega)), gK_row (A := slF W L F) (i := i) (m := F.length) (fun k hk => by unfold slF; exact if_neg (by omega))]
theorem opened_l1_p {N : Nat} (hN : 110 ≤ N) (h : Fine W s L F R) {o1 o5 : List Int} {o2 : Int} {o3 o4 : List (List Int)} :
    ∀ (n i : Nat), L.length < n + i → i ≤ L.length →
      opened_l1 N n L L.length i W s L F R o1 o2 o3 o4 o5 (tabA (gK (agF W L F) i 0)) (tabA (gK (slF W L F) i 0)) = some (o1, o2, o3, o4, o5, tabA (fun x => agF W L F (x / 6) (x % 6)), tabA (fun x => slF W L F (x / 6) (x % 6)))
  | 0, i, hn, hi => by omega
  | n + 1, i, hn, hi => by
    unfold opened_l1
    have hl6 := h.l6; have hf6 := h.f6
    by_cases c : i < L.length
    · have ih := opened_l1_p hN h (o1 := o1) (o5 := o5) (o2 := o2) (o3 := o3) (o4 := o4) n (i + 1) (by omega) (by omega)
      rw [nat_succ] at ih
      have e := opened_l2_p hN h c (u := L) (u2 := L.length) (u3 := i) (o1 := o1) (o5 := o5) (o2 := o2) (o3 := o3) (o4 := o4) N 0 (by omega) (by omega)
      rw [show ((0 : Nat) : Int) = 0 from rfl] at e
      rw [br_dec (by omega), idx_eq (by omega) (gets c []), e]
      simp only [Option.bind_some]
      rw [chk_eq (by omega)]
      exact ih
    · obtain rfl : i = L.length := by omega
      rw [br_ndec (by omega), gK_all (A := agF W L F) (fun i k hi => by unfold agF; exact if_neg (by omega)), gK_all (A := slF W L F) (fun i k hi => by unfold slF; exact if_neg (by omega))]
theorem opened_v {N : Nat} (hN : 110 ≤ N) (h : Sm W L F R) : opened_S N W s L F R = some (if errD W s L F R = 0 then .inl (dkO W s L F R, 0) else .inr (errD W s L F R)) := by
  unfold opened_S
  rw [check_v hN h]
  simp only [Option.bind_some]
  by_cases c : errD W s L F R = 0
  · have hF := errD_iff.1 c
    have e := opened_l1_p hN hF (o1 := W) (o2 := s) (o3 := L) (o4 := F) (o5 := R) N 0 (by have := hF.l6; omega) (by omega)
    have z : ∀ A : Nat → Nat → Int, tabA (gK A 0 0) = List.replicate 36 (0 : Int) := fun A => by
      rw [show gK A 0 0 = fun _ => 0 by funext x; exact if_neg (by omega)]; rfl
    rw [z, z, show ((0 : Nat) : Int) = 0 from rfl] at e
    rw [br_nd c, if_pos c, e]; rfl
  · rw [br_nnd c, if_neg c]
theorem opened_f {N : Nat} (hN : 110 ≤ N) (h : Fine W s L F R) : opened_S N W s L F R = some (.inl (dkO W s L F R, 0)) := by
  rw [opened_v hN h.sm, if_pos (errD_iff.2 h)]
end
end Go.Proofs.Ythncjilcflilcaa

namespace Go.Proofs.Ythncjilcflilcaa
set_option linter.all false
open Go

/-! ### All of some numbers -/
def alI (p : Nat → Bool) (n : Nat) : Bool := (List.range' 0 n).all p
theorem alI_iff {p : Nat → Bool} {n : Nat} : alI p n = true ↔ ∀ i, i < n → p i = true := by
  unfold alI
  rw [List.all_eq_true]
  constructor
  · exact fun h i hi => h i (by simp [List.mem_range'_1, hi])
  · exact fun h i hi => h i (by have := List.mem_range'_1.1 hi; omega)
/-! ### Tables -/
def canT (A B : Nat → Nat → Int) (s : Int) (i k : Nat) : Bool := decide (0 < A i k) && decide (B i k ≤ s)
section
variable {W : List Int} {s : Int} {L F : List (List Int)} {R : List Int} {A B : Nat → Nat → Int} {N : Nat}
abbrev canF (W : List Int) (s : Int) (L F : List (List Int)) : Nat → Nat → Bool := canT (agF W L F) (slF W L F) s
/-! ### A pair -/
/-! ### Joins -/
def inm (m : Nat) (x : Int) : Bool := decide (-1 ≤ x ∧ x ≤ (m : Int) - 1)
def hasB (l : List Int) (x : Int) : Bool := l.any fun y => decide (x = y)
theorem hasB_iff {l : List Int} {x : Int} : hasB l x = true ↔ x ∈ l := by simp [hasB]
def dupI (l : List Int) (i : Nat) : Bool := decide (l.getD i 0 = -1) || !hasB (l.take i) (l.getD i 0)
def cnI (can : Nat → Nat → Bool) (l : List Int) (i : Nat) : Bool := decide (l.getD i 0 = -1) || can i (l.getD i 0).toNat
/-- The error of joins, e that of the desk. -/
def errJ (e : Int) (n m : Nat) (can : Nat → Nat → Bool) (l : List Int) : Int :=
  if ¬ e = 0 then e else if ¬ (l.length : Int) = (n : Int) then 2 else if l.all (inm m) = false then 1 else if alI (dupI l) l.length = false then 5 else if alI (cnI can l) l.length = false then 8 else 0
theorem dfound_v (h : F.length ≤ 1000000) (x : Int) : dfound_S N (dkT W s L F R A B) x = some (decide (0 ≤ x ∧ x ≤ (F.length : Int) - 1)) := by
  unfold dfound_S
  rw [in_v]
  exact chk_eq (by simp only [dkT]; omega)
end
end Go.Proofs.Ythncjilcflilcaa

namespace Go.Proofs.Ythncjilcflilcaa
set_option linter.all false
open Go

section
variable {N : Nat}
end
section
variable {W : List Int} {s : Int} {L F : List (List Int)} {R : List Int} {A B : Nat → Nat → Int} {N : Nat}
/-- What joins without an error are. -/
theorem errJ_fine {e : Int} {n m : Nat} {can : Nat → Nat → Bool} {l : List Int} (h : errJ e n m can l = 0) : e = 0 ∧ l.length = n ∧ l.all (inm m) = true ∧ alI (dupI l) l.length = true ∧ alI (cnI can l) l.length = true := by
  unfold errJ at h
  split at h
  · rename_i c; exact absurd h c
  rename_i c
  split at h
  · cases h
  rename_i c1
  split at h
  · cases h
  rename_i c2
  split at h
  · cases h
  rename_i c3
  split at h
  · cases h
  rename_i c4
  exact ⟨by omega, by omega, by simpa using c2, by simpa using c3, by simpa using c4⟩
/-! ### What may be joined -/
end
end Go.Proofs.Ythncjilcflilcaa

namespace Go.Proofs.Ythncjilcflilcaa
set_option linter.all false
open Go

section
variable {W : List Int} {s : Int} {L F : List (List Int)} {R : List Int} {A B : Nat → Nat → Int} {N : Nat}
/-! ### Copies -/
theorem copyr_l1_p {l : List (List Int)} (hl : l.length ≤ 1000000) (hr : ∀ x ∈ l, x.length ≤ 1000000) : ∀ n k : Nat, l.length < n + k → k ≤ l.length → copyr_l1 N n l l.length k (l.take k ++ List.replicate (l.length - k) []) = some l
  | 0, k, h, _ => by omega
  | n + 1, k, h, hk => by
    unfold copyr_l1
    by_cases c : k < l.length
    · have ih := copyr_l1_p hl hr n (k + 1) (by omega) (by omega)
      rw [nat_succ, take_succ' c []] at ih
      rw [br_dec (by omega), idx_eq (by omega) (gets c []), copyi_v (hr _ (getD_mem c))]
      simp only [Option.bind_some, Int.toNat_natCast]
      have hlen : (l.take k ++ List.replicate (l.length - k) ([] : List Int)).length = l.length := by simp; omega
      rw [rng_eq (by rw [hlen]; omega), get_get [] (by rw [hlen]; exact c), chk_eq (by omega), ← ih]
      congr 1
      rw [List.set_append_right _ _ (by simp; omega), show k - (l.take k).length = 0 by simp; omega, show l.length - k = (l.length - (k + 1)) + 1 by omega, List.replicate_succ]
      simp
    · rw [br_ndec (by omega), List.take_of_length_le (by omega), show l.length - k = 0 by omega]; simp
theorem copyr_v {l : List (List Int)} (hl : l.length ≤ 1000000) (hN : l.length < N) (hr : ∀ x ∈ l, x.length ≤ 1000000) : copyr_S N l = some l := by
  unfold copyr_S
  have e := copyr_l1_p (N := N) hl hr N 0 (by omega) (by omega)
  simp only [List.take_zero, List.nil_append, Nat.sub_zero, Int.natCast_zero] at e
  rw [grd_eq (lmI_iff.2 (by omega)), Int.toNat_natCast, e]; rfl
theorem copyd_v (hN : 110 ≤ N) (h : Sm W L F R) : copyd_S N W s L F R = some (W, s, L, F, R) := by
  obtain ⟨hw, hl, hf, hr, hlr, hfr⟩ := h
  unfold copyd_S
  rw [copyi_v (by omega), copyr_v (by omega) (by omega) (fun x hx => by have := hlr x hx; omega), copyr_v (by omega) (by omega) (fun x hx => by have := hfr x hx; omega), copyi_v (by omega)]; rfl
theorem equali_v {l : List Int} (h : l.length ≤ 1000) (hN : l.length < N) : equali_S N l l = some true := by
  have := likei_v h hN
  unfold likei_S at this
  cases e : equali_S N l l with
  | none => rw [e] at this; cases this
  | some b => rw [e] at this; exact this
theorem liker_v {l : List (List Int)} (hl : l.length ≤ 1000) (hN : l.length < N) (hr : ∀ x ∈ l, x.length ≤ 1000 ∧ x.length < N) : liker_S N l l = some true := by
  have e : ∀ (n k : Nat), l.length < n + k → k ≤ l.length → equalf_l1 N n l l l.length k = some (.inr ()) := by
    intro n
    induction n with
    | zero => intro k h _; omega
    | succ n ih =>
      intro k h2 hk
      unfold equalf_l1
      by_cases c : k < l.length
      · have := ih (k + 1) (by omega) (by omega)
        rw [nat_succ] at this
        have hx := hr _ (getD_mem (d := []) c)
        rw [br_dec (by omega), idx_eq (by omega) (gets c []), idx_eq (by omega) (gets c []), equali_v hx.1 hx.2]
        simp only [Option.bind_some]
        rw [Bool.not_true, br_false, chk_eq (by omega), this]
      · rw [br_ndec (by omega)]
  have e0 := e N 0 (by omega) (by omega)
  simp only [Int.natCast_zero] at e0
  unfold liker_S equalf_S
  rw [br_nd rfl, e0]; rfl
theorem same_v (hN : 110 ≤ N) (h : Sm W L F R) : same_S N W s L F R W s L F R = some true := by
  obtain ⟨hw, hl, hf, hr, hlr, hfr⟩ := h
  unfold same_S
  rw [likei_v (by omega) (by omega), likei_v (by omega) (by omega), liker_v (by omega) (by omega) (fun x hx => ⟨by have := hlr x hx; omega, by have := hlr x hx; omega⟩), liker_v (by omega) (by omega) (fun x hx => ⟨by have := hfr x hx; omega, by have := hfr x hx; omega⟩)]
  simp [br]
theorem great_l2_p {u u2 : Int} {g : List (List (List Int))} {l : List (List Int)} (hl : l.length ≤ 1000000) : ∀ n k : Nat, l.length < n + k → k ≤ l.length → great_l2 N n u u2 l l.length k g = alls (fun r => decide ((r.length : Int) ≤ 12)) l k (u, u2, g)
  | 0, k, h, _ => by omega
  | n + 1, k, h, hk => by
    unfold great_l2
    by_cases c : k < l.length
    · have ih := great_l2_p (u := u) (u2 := u2) (g := g) hl n (k + 1) (by omega) (by omega)
      rw [nat_succ] at ih
      rw [br_dec (by omega), idx_eq (by omega) (gets c [])]
      by_cases d : 12 < ((l.getD k []).length : Int)
      · rw [br_dec d, alls_no [] c (by rw [decide_eq_false (by omega)])]
      · rw [br_ndec d, chk_eq (by omega), ih, alls_yes [] c (by rw [decide_eq_true (by omega)])]
    · rw [br_ndec (by omega), alls_end (by omega)]
theorem great_v (hN : 110 ≤ N) : great_S N W s L F R = some true ∨ great_S N W s L F R = some false ∧ Sm W L F R := by
  unfold great_S
  by_cases c1 : 10 < (W.length : Int)
  · rw [br_dec c1]; exact .inl rfl
  rw [br_ndec c1]
  by_cases c2 : 10 < (L.length : Int)
  · rw [br_dec c2]; exact .inl rfl
  rw [br_ndec c2]
  by_cases c3 : 10 < (F.length : Int)
  · rw [br_dec c3]; exact .inl rfl
  rw [br_ndec c3]
  by_cases c4 : 12 < (R.length : Int)
  · rw [br_dec c4]; exact .inl rfl
  rw [br_ndec c4]
  obtain ⟨n, rfl⟩ : ∃ n, N = n + 3 := ⟨N - 3, by omega⟩
  have e1 := great_l2_p (N := n + 3) (u := 2) (u2 := 0) (g := [L, F]) (l := L) (by omega) (n + 3) 0 (by omega) (by omega)
  have e2 := great_l2_p (N := n + 3) (u := 2) (u2 := 1) (g := [L, F]) (l := F) (by omega) (n + 3) 0 (by omega) (by omega)
  unfold alls at e1 e2
  simp only [List.drop_zero, Int.natCast_zero] at e1 e2
  have hl : (([L, F] : List (List (List Int))).length : Int) = 2 := rfl
  rw [hl]
  rw [great_l1, br_dec (by omega), rng_eq (by simp)]
  rw [show get [L, F] (0 : Int).toNat = fun f => f L from rfl]
  dsimp only
  rw [e1]
  by_cases d1 : L.all (fun r => decide ((r.length : Int) ≤ 12)) = true
  rotate_left
  · rw [if_neg d1]; exact .inl rfl
  rw [if_pos d1]
  simp only [Option.bind_some]
  rw [chk_eq (by omega), great_l1, br_dec (by omega), rng_eq (by simp)]
  rw [show get [L, F] ((0 : Int) + 1).toNat = fun f => f F from rfl]
  dsimp only
  rw [show ((0 : Int) + 1) = 1 from rfl, e2]
  by_cases d2 : F.all (fun r => decide ((r.length : Int) ≤ 12)) = true
  rotate_left
  · rw [if_neg d2]; exact .inl rfl
  rw [if_pos d2]
  simp only [Option.bind_some]
  rw [chk_eq (by omega), great_l1, br_ndec (by omega)]
  simp only [List.all_eq_true, decide_eq_true_eq] at d1 d2
  exact .inr ⟨rfl, by omega, by omega, by omega, by omega, fun x hx => by have := d1 x hx; omega, fun x hx => by have := d2 x hx; omega⟩
end
end Go.Proofs.Ythncjilcflilcaa

namespace Go.Proofs.Ythncjilcflilcaa
set_option linter.all false
open Go

abbrev MK := List ((Int × Int) × (Int × (Int × Int)))
def lkM (g : MK) (i u : Int) : Option (Int × (Int × Int)) := (g.find? fun (y : (Int × Int) × (Int × (Int × Int))) => Ty.beq (.pair (.int .i64) (.int .i64)) y.1 (i, u)).map (·.2)
theorem lkM_cons (a b : Int) (v : Int × (Int × Int)) (g : MK) (i u : Int) : lkM (((a, b), v) :: g) i u = if a = i ∧ b = u then some v else lkM g i u := by
  have e : Ty.beq (.pair (.int .i64) (.int .i64)) (a, b) (i, u) = decide (a = i ∧ b = u) := by
    show (decide (a = i) && decide (b = u)) = _
    by_cases h1 : a = i <;> by_cases h2 : b = u <;> simp [h1, h2]
  unfold lkM
  rw [List.find?_cons]
  by_cases h : a = i ∧ b = u
  · rw [if_pos h, show (Ty.beq (.pair (.int .i64) (.int .i64)) (((a, b), v) : (Int × Int) × (Int × (Int × Int))).1 (i, u)) = true by rw [e, decide_eq_true h]]; rfl
  · rw [if_neg h, show (Ty.beq (.pair (.int .i64) (.int .i64)) (((a, b), v) : (Int × Int) × (Int × (Int × Int))).1 (i, u)) = false by rw [e, decide_eq_false h]]
def hasM (g : MK) (i u : Nat) : Prop := (lkM g i u).isSome = true
def subM (g g' : MK) : Prop := ∀ i u : Nat, hasM g i u → hasM g' i u
theorem subM.refl (g : MK) : subM g g := fun _ _ h => h
theorem subM.trans {a b c : MK} (h : subM a b) (k : subM b c) : subM a c := fun i u x => k i u (h i u x)
/-- What is remembered is right, and so is what follows from it. -/
structure MOK (can : Nat → Nat → Bool) (t : Nat → Nat → Int) (m n : Nat) (g : MK) : Prop where
  val : ∀ (i u : Nat) v, lkM g i u = some v → v = rsR can t m (n - i) i u
  clo : ∀ i u : Nat, hasM g i u → i + 1 < n → hasM g (i + 1) u ∧ ∀ k ∈ mayL can m i, u.testBit k = false → hasM g (i + 1) (u ||| 2 ^ k)
theorem MOK.nil {can : Nat → Nat → Bool} {t : Nat → Nat → Int} {m n : Nat} : MOK can t m n [] := ⟨fun i u v h => by simp [lkM] at h, fun i u h => by simp [hasM, lkM] at h⟩
theorem MOK.cons {can : Nat → Nat → Bool} {t : Nat → Nat → Int} {m n : Nat} {g : MK} (h : MOK can t m n g) {i u : Nat} (h1 : i + 1 < n → hasM g (i + 1) u ∧ ∀ k ∈ mayL can m i, u.testBit k = false → hasM g (i + 1) (u ||| 2 ^ k)) :
    MOK can t m n ((((i : Int), (u : Int)), rsR can t m (n - i) i u) :: g) ∧ subM g ((((i : Int), (u : Int)), rsR can t m (n - i) i u) :: g) ∧ hasM ((((i : Int), (u : Int)), rsR can t m (n - i) i u) :: g) i u := by
  have hsub : subM g ((((i : Int), (u : Int)), rsR can t m (n - i) i u) :: g) := fun i' u' hh => by
    unfold hasM at *
    rw [lkM_cons]
    split
    · rfl
    · exact hh
  refine ⟨⟨fun i' u' v hv => ?_, fun i' u' hh hi => ?_⟩, hsub, ?_⟩
  · rw [lkM_cons] at hv
    split at hv
    · rename_i e
      obtain rfl : i = i' := by omega
      obtain rfl : u = u' := by omega
      simp only [Option.some.injEq] at hv
      exact hv.symm
    · exact h.val i' u' v hv
  · unfold hasM at hh
    rw [lkM_cons] at hh
    split at hh
    · rename_i e
      obtain rfl : i = i' := by omega
      obtain rfl : u = u' := by omega
      exact ⟨hsub _ _ (h1 hi).1, fun k hk hb => hsub _ _ ((h1 hi).2 k hk hb)⟩
    · obtain ⟨x, y⟩ := h.clo i' u' hh hi
      exact ⟨hsub _ _ x, fun k hk hb => hsub _ _ (y k hk hb)⟩
  · unfold hasM
    rw [lkM_cons, if_pos ⟨rfl, rfl⟩]; rfl
theorem MOK.get {can : Nat → Nat → Bool} {t : Nat → Nat → Int} {m n : Nat} {g : MK} (h : MOK can t m n g) {i u : Nat} (hh : hasM g i u) : lkM g i u = some (rsR can t m (n - i) i u) := by
  unfold hasM at hh
  cases e : lkM g i u with
  | none => rw [e] at hh; cases hh
  | some v => rw [h.val i u v e]
/-! ### Bounds -/
section
variable {W : List Int} {s : Int} {L F : List (List Int)} {R : List Int} {A B : Nat → Nat → Int} {N : Nat}
end
end Go.Proofs.Ythncjilcflilcaa

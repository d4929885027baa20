/-
  Parts of a proof, put together: Shl, Shl2, E5, Pl16, Pl17, Pl18.
  Conditions: none.
-/
import Derived.Ground.Names2Prog
import Derived.Shelf.Lay
import Derived.Shelf.Slices.Delete
import Derived.Shelf.Spec.SlicesInsertGrow
import Derived.Test.YtfcnhnbnjdccfaaZe
import Derived.Test.YtfcnhnbnjdccfaaZg
import Derived.Test.YtfcnhnbnjdccfaaZh
namespace Go.Proofs.Ytfcnhnbnjdccfaa
set_option linter.all false
open Go Go.Proofs

shelf_lay Lays2.n23 Nm2 23 at Try as layDel
shelf_lay Lays2.n21 Nm2 21 at Try as layIns

theorem Fn.ofCalls {P : Program} {f : FuncId} {args : Array Value} {w : World} {R : Ending → World → Prop} {R' : Value → World → Prop} (h : Calls P f args w R) (hr : ∀ e w', R e w' → ∃ v, e = .returned v ∧ R' v w') : Fn P f args w R' := by
  intro cs
  obtain ⟨e, w', fr, r, s, x⟩ := h cs
  obtain ⟨v, rfl, r'⟩ := hr e w' r
  exact ⟨v, w', fr, r', s, x⟩
theorem RepL_int {M : Nat → Option Obj} {k : IntKind} : ∀ (l : List Int) (vs : List Value), RepL M (.int k) l vs → vs = l.map (.int k) ∧ ∀ x ∈ l, inR k x
  | [], vs, h => ⟨h, fun _ h => by cases h⟩
  | x :: l, vs, h => by
    obtain ⟨v1, v2, rfl, ⟨rfl, h1⟩, h2⟩ := h
    obtain ⟨rfl, h3⟩ := RepL_int l v2 h2
    refine ⟨rfl, fun y hy => ?_⟩
    rcases List.mem_cons.1 hy with rfl | hy
    · exact h1
    · exact h3 y hy
theorem RepL_int_mk {M : Nat → Option Obj} {k : IntKind} : ∀ (l : List Int), (∀ x ∈ l, inR k x) → RepL M (.int k) l (l.map (.int k))
  | [], _ => rfl
  | x :: l, h => ⟨[.int k x], l.map (.int k), rfl, ⟨rfl, h x (by simp)⟩, RepL_int_mk l (fun y hy => h y (by simp [hy]))⟩
theorem putCells_lst (enc : Int → Value) (d : List Int) (vs rest : List Value) (h : vs.length = d.length) : «Sort».putCells enc 0 d.toArray (vs ++ rest).toArray = (d.map enc ++ rest).toArray := by
  apply Array.ext_getElem?
  intro k
  simp only [«Sort».putCells, Array.getElem?_mapIdx, List.getElem?_toArray]
  by_cases c : k < d.length
  · rw [List.getElem?_append_left (by omega), List.getElem?_append_left (by simpa using c), List.getElem?_eq_getElem (by omega), List.getElem?_map, List.getElem?_eq_getElem c]
    simp [c]
  · rw [List.getElem?_append_right (by omega), List.getElem?_append_right (by simp; omega), List.length_map, h]
    cases rest[k - d.length]? with
    | none => rfl
    | some v => simp [c]
def delete_S (_N : Nat) (i j : Int) (l : List Int) : Option (List Int) := if 0 ≤ i ∧ i ≤ j ∧ j ≤ l.length ∧ 0 < l.length then some (l.take i.toNat ++ l.drop j.toNat) else none
noncomputable def sp_delete (N : Nat) : Spec := { f := 127, ins := ⟨[.ols 0, .i .i64, .i .i64], [.lst (.int .i64)]⟩, outs := [⟨[.ols 1], [.dead, .lst (.int .i64)]⟩], run := fun p k => (delete_S N p.1.2.1 p.1.2.2.1 p.2.1).bind fun r => k (((), ()), ((), r, ())) }
/-- An own list is written in place. -/
theorem Sim.inPlace {g : Gh} {w w' : World} {l l' : List Int} {b c n : Nat} {vs rest rest' : List Value} {ty : TypeId} {h0 : Nat → Option Blk'} (hs : Sim g h0 w) (hh : ∀ i k, h0 i = some k → i = 0) (h00 : h0 0 = some (.lst (.int .i64) l)) (he : g.ρ 0 = some (some (b, c, n))) (h1 : g.ρ 1 = none) (hM : g.M b = none) (hb : w.heap[b]? = some (.cells (vs ++ rest).toArray ty (0, 0)))
    (hos : w'.os = w.os) (htp : w'.tape = w.tape) (hout : w'.output = w.output) (hsz : w.heap.size ≤ w'.heap.size) (hsame : ∀ i, i < w.heap.size → i ≠ b → w'.heap[i]? = w.heap[i]?) (hb' : w'.heap[b]? = some (.cells ((l'.map (Value.int .i64)) ++ rest').toArray ty (0, 0))) (hr : ∀ x ∈ l', inR .i64 x) (hl : l'.length ≤ 1000000) (hc : l'.length ≤ c ∧ c ≤ 9223372036854775807) (hrl : rest'.length = c - l'.length) :
    ∃ g', Stp (Sw g h0 (List.range 1)) (fun i => 1 ≤ i ∧ i < 2) g w g' w' ∧ Sim g' (fun i => ([.dead, .lst (.int .i64) l'] : List Blk')[i]?) w' ∧ RepV g' (.ols 1) (.slice (some ⟨b, 0, none⟩) l'.length c) := by
  have hSw : Sw g h0 (List.range 1) b := ⟨0, by simp, _, c, n, h00, rfl, he⟩
  refine ⟨newG g 1 (some (b, c, l'.length)), ⟨hos, htp, hout, hsz, fun i hi hn => ?_, newG_ge h1, fun i h2 h3 => ?_, fun i b' c' n' h2 h3 => ?_, fun b' o h2 => .inl h2⟩, ⟨fun b' o h2 => ?_, fun i k hk => ?_, fun i j ki kj b' ci ni cj nj hi hj mi mj ei ej => ?_⟩, .inr ⟨b, c, l'.length, newG_self _ _ _, rfl⟩⟩
  · exact hsame i hi (fun e => hn (e ▸ hSw))
  · by_cases e : i = 1
    · omega
    · simp only [newG, if_neg e] at h3
      exact absurd h2 h3
  · by_cases e : i = 1
    · subst e
      rw [newG_self] at h3
      simp only [Option.some.injEq, Prod.mk.injEq] at h3
      exact .inr (h3.1 ▸ hSw)
    · simp only [newG, if_neg e] at h3
      rw [h2] at h3; cases h3
  · have h2' : g.M b' = some o := h2
    have hbb := hs.mem b' o h2'
    rw [hsame b' (lt_of_blk hbb) (fun e => by rw [e, hM] at h2'; cases h2')]
    exact hbb
  · match i, hk with
    | 0, hk => simp at hk; subst hk; trivial
    | 1, hk =>
      simp at hk; subst hk
      refine ⟨hl, .inr ⟨b, c, l'.map (Value.int .i64), rest', ty, newG_self _ _ _, hb', RepL_int_mk l' hr, hc, ?_, hM⟩⟩
      simp [Ty.cells, hrl]
    | i + 2, hk => simp at hk
  · match i, j, hi, hj with
    | 0, _, hi, _ => simp at hi; subst hi; cases mi
    | _, 0, _, hj => simp at hj; subst hj; cases mj
    | 1, 1, _, _ => rfl
    | i + 2, _, hi, _ => simp at hi
    | _, j + 2, _, hj => simp at hj
theorem sp_delete_ok (N : Nat) : SpecOK Try.prog (sp_delete N) := by
  refine ⟨fun Z p κ => ?_, fun args w => Sem.pv_run _ _ _ (by kernel_rfl) w, fun p r hpr g w vs hv hs hρ => ?_⟩
  · show ((delete_S N _ _ _).bind _) = ((delete_S N _ _ _).bind _).bind κ
    cases delete_S N _ _ _ <;> rfl
  · obtain ⟨⟨⟨⟩, (i : Int), (j : Int), ⟨⟩⟩, (l : List Int), ⟨⟩⟩ := p
    have hpr' : ((delete_S N i j l).bind fun r => some (((), ()), ((), r, ()))) = some r := hpr
    unfold delete_S at hpr'
    split at hpr'
    rotate_left
    · cases hpr'
    rename_i hc
    simp only [Option.bind_some] at hpr'
    cases hpr'
    obtain ⟨hi0, hij, hjl, hl0⟩ := hc
    -- the arguments
    simp only [encs, enc, RepVs] at hv
    obtain ⟨v0, us, rfl, h0, v1, us1, rfl, h1, v2, us2, rfl, h2, rfl⟩ := hv
    simp only [RepV] at h0 h1 h2
    obtain ⟨rfl, hi1⟩ := h1
    obtain ⟨rfl, hj1⟩ := h2
    have hB := hs.blk 0 (.lst (.int .i64) l) rfl
    obtain ⟨hlen, hB⟩ := hB
    rcases hB with ⟨_, e⟩ | ⟨b, c, cs, rest, ty, e0, hb, hL, hcap, hrest, hM⟩
    · rw [e] at hl0; simp at hl0
    rcases h0 with ⟨e, _⟩ | ⟨b2, c2, n2, e, rfl⟩
    · simp only [id] at e; rw [e0] at e; cases e
    simp only [id] at e
    rw [e0] at e
    simp only [Option.some.injEq, Prod.mk.injEq] at e
    obtain ⟨rfl, rfl, rfl⟩ := e
    obtain ⟨rfl, hr⟩ := RepL_int l cs hL
    obtain ⟨i, rfl⟩ : ∃ k : Nat, i = k := ⟨i.toNat, by omega⟩
    obtain ⟨j, rfl⟩ : ∃ k : Nat, j = k := ⟨j.toNat, by omega⟩
    simp only [Int.toNat_natCast] at *
    have hholds : «Sort».Holds (Value.int .i64) w b 0 l.toArray := by
      intro k hk
      simp only [List.size_toArray] at hk
      have hcell : (l.map (Value.int .i64) ++ rest)[k]? = some (.int .i64 l[k]!) := by
        rw [List.getElem?_append_left (by simpa using hk), List.getElem?_map, List.getElem?_eq_getElem hk]
        simp [hk]
      refine ⟨?_, ?_⟩
      · unfold World.cell?
        rw [hb]
        simpa using hcell
      · unfold World.frozen?
        rw [hb]
        simp
    have hC := Any.slices_Delete_int layDel b 0 c i j l w hholds hcap.1 hcap.2 (by omega) (by omega)
    refine Fn.ofCalls hC (fun e w' he => ?_)
    obtain ⟨rfl, q, hw⟩ := he
    refine ⟨_, rfl, ?_⟩
    have hsz : (l.take i ++ l.drop j).length = l.length - (j - i) := by simp; omega
    have hheap : w'.heap = w.heap.modify b («Sort».onCells («Sort».putCells (Value.int .i64) 0 (l.take i ++ l.drop j ++ List.replicate (j - i) 0).toArray)) := by rw [hw]; rfl
    have hb' : w'.heap[b]? = some (.cells (((l.take i ++ l.drop j).map (Value.int .i64)) ++ ((List.replicate (j - i) (0 : Int)).map (Value.int .i64) ++ rest)).toArray ty (0, 0)) := by
      rw [hheap, Array.getElem?_modify, if_pos rfl, hb]
      simp only [Option.map_some, «Sort».onCells]
      rw [putCells_lst _ _ _ _ (by simp; omega), List.map_append, List.append_assoc]
    obtain ⟨g', st, hs', hv'⟩ := Sim.inPlace (l' := l.take i ++ l.drop j) (w' := w') hs (fun i k hk => by
      match i, hk with
      | 0, _ => rfl
      | i + 1, hk =>
        have hk' : ([.lst (.int .i64) l] : List Blk')[i + 1]? = some k := hk
        simp at hk') rfl e0 (hρ 1 (Nat.le_refl 1)) hM hb (by rw [hw]; rfl) (by rw [hw]; rfl) (by rw [hw]; rfl) (by rw [hheap]; simp) (fun k hk hne => by rw [hheap, Array.getElem?_modify, if_neg (fun h => hne h.symm)]) hb' (fun x hx => by
        rcases List.mem_append.1 hx with hx | hx
        · exact hr x (List.mem_of_mem_take hx)
        · exact hr x (List.mem_of_mem_drop hx)) (by omega) (by omega) (by simp [Ty.cells] at hrest ⊢; omega)
    refine ⟨g', st, hs', ?_⟩
    rw [hsz] at hv'
    exact hv'
end Go.Proofs.Ytfcnhnbnjdccfaa

namespace Go.Proofs.Ytfcnhnbnjdccfaa
set_option linter.all false
open Go Go.Proofs

/-- An own list goes on as another one, in its own cells or in new ones. -/
theorem Sim.repl {g : Gh} {w w' : World} {l' : List Int} {b c N : Nat} {rest' : List Value} {ty : TypeId} {h0 h1 : Nat → Option Blk'} {l : List Int} (hs : Sim g h0 w) (h00 : h0 0 = some (.lst (.int .i64) l)) (hN : 0 < N) (hNρ : g.ρ N = none)
    (hb0 : (∃ c n, g.ρ 0 = some (some (b, c, n))) ∧ g.M b = none ∨ w.heap.size ≤ b)
    (hh : ∀ i k, h1 i = some k → (i = 0 ∧ k = .dead) ∨ (i = N ∧ k = .lst (.int .i64) l') ∨ (i ≠ 0 ∧ i < N ∧ h0 i = some k))
    (hos : w'.os = w.os) (htp : w'.tape = w.tape) (hout : w'.output = w.output) (hsz : w.heap.size ≤ w'.heap.size) (hsame : ∀ i, i < w.heap.size → i ≠ b → w'.heap[i]? = w.heap[i]?) (hb' : w'.heap[b]? = some (.cells ((l'.map (Value.int .i64)) ++ rest').toArray ty (0, 0))) (hr : ∀ x ∈ l', inR .i64 x) (hl : l'.length ≤ 1000000) (hc : l'.length ≤ c ∧ c ≤ 9223372036854775807) (hrl : rest'.length = c - l'.length) :
    ∃ g', Stp (Sw g h0 (List.range N)) (fun i => N ≤ i ∧ i < N + 1) g w g' w' ∧ Sim g' h1 w' ∧ RepV g' (.ols N) (.slice (some ⟨b, 0, none⟩) l'.length c) := by
  have hSw : Sw g h0 (List.range N) b ∨ w.heap.size ≤ b := by
    rcases hb0 with ⟨⟨c', n', e⟩, _⟩ | h
    · exact .inl ⟨0, by simpa using hN, _, c', n', h00, rfl, e⟩
    · exact .inr h
  have hMb : g.M b = none := by
    rcases hb0 with ⟨_, h⟩ | h
    · exact h
    · cases hM : g.M b with
      | none => rfl
      | some o => have := lt_of_blk (hs.mem b o hM); omega
  have hne : ∀ i k c2 n2, i ≠ 0 → h0 i = some k → k.mut = true → ¬ g.ρ i = some (some (b, c2, n2)) := by
    intro i k c2 n2 hi hk hm e
    rcases hb0 with ⟨⟨c', n', e0⟩, _⟩ | h
    · exact hi (hs.inj i 0 k _ b c2 n2 c' n' hk h00 hm rfl e e0)
    · have := (hs.lt hk hm e).1; omega
  refine ⟨newG g N (some (b, c, l'.length)), ⟨hos, htp, hout, hsz, fun i hi hn => ?_, newG_ge hNρ, fun i h2 h3 => ?_, fun i b' c' n' h2 h3 => ?_, fun b' o h2 => .inl h2⟩, ⟨fun b' o h2 => ?_, fun i k hk => ?_, fun i j ki kj b' ci ni cj nj hi hj mi mj ei ej => ?_⟩, .inr ⟨b, c, l'.length, newG_self _ _ _, rfl⟩⟩
  · refine hsame i hi (fun e => ?_)
    subst e
    rcases hSw with h | h
    · exact hn h
    · omega
  · by_cases e : i = N
    · omega
    · simp only [newG, if_neg e] at h3
      exact absurd h2 h3
  · by_cases e : i = N
    · subst e
      rw [newG_self] at h3
      simp only [Option.some.injEq, Prod.mk.injEq] at h3
      rw [← h3.1]
      exact hSw.symm
    · simp only [newG, if_neg e] at h3
      rw [h2] at h3; cases h3
  · have h2' : g.M b' = some o := h2
    have hbb := hs.mem b' o h2'
    rw [hsame b' (lt_of_blk hbb) (fun e => by rw [e, hMb] at h2'; cases h2')]
    exact hbb
  · rcases hh i k hk with ⟨rfl, rfl⟩ | ⟨rfl, rfl⟩ | ⟨h3, h4, h5⟩
    · trivial
    · refine ⟨hl, .inr ⟨b, c, l'.map (Value.int .i64), rest', ty, newG_self _ _ _, hb', RepL_int_mk l' hr, hc, ?_, hMb⟩⟩
      simp [Ty.cells, hrl]
    · refine RepBlk.step (hs.blk i k h5) (newG_ge hNρ) (fun hm b2 c2 n2 e hlt hM2 => ⟨hsame b2 hlt (fun e2 => ?_), hM2⟩)
      subst e2
      exact hne i k c2 n2 h3 h5 hm e
  · rcases hh i ki hi with ⟨rfl, rfl⟩ | ⟨rfl, rfl⟩ | ⟨h3, h4, h5⟩
    · cases mi
    · rcases hh j kj hj with ⟨rfl, rfl⟩ | ⟨rfl, rfl⟩ | ⟨h6, h7, h8⟩
      · cases mj
      · rfl
      · exfalso
        rw [newG_self] at ei
        simp only [Option.some.injEq, Prod.mk.injEq] at ei
        have ej' : g.ρ j = some (some (b', cj, nj)) := by simpa [newG, Nat.ne_of_lt h7] using ej
        rw [← ei.1] at ej'
        exact hne j kj cj nj h6 h8 mj ej'
    · rcases hh j kj hj with ⟨rfl, rfl⟩ | ⟨rfl, rfl⟩ | ⟨h6, h7, h8⟩
      · cases mj
      · exfalso
        rw [newG_self] at ej
        simp only [Option.some.injEq, Prod.mk.injEq] at ej
        have ei' : g.ρ i = some (some (b', ci, ni)) := by simpa [newG, Nat.ne_of_lt h4] using ei
        rw [← ej.1] at ei'
        exact hne i ki ci ni h3 h5 mi ei'
      · have ei' : g.ρ i = some (some (b', ci, ni)) := by simpa [newG, Nat.ne_of_lt h4] using ei
        have ej' : g.ρ j = some (some (b', cj, nj)) := by simpa [newG, Nat.ne_of_lt h7] using ej
        exact hs.inj i j ki kj b' ci ni cj nj h5 h8 mi mj ei' ej'
/-- Cells that are written. -/
theorem setCells_lst (b : Nat) : ∀ (vs : List Value) (o : Nat) (w : World) (L : List Value) (ty : TypeId), w.heap[b]? = some (.cells L.toArray ty (0, 0)) → o + vs.length ≤ L.length →
    (w.setCells b o vs).heap[b]? = some (.cells (L.take o ++ vs ++ L.drop (o + vs.length)).toArray ty (0, 0)) ∧ (∀ k, k ≠ b → (w.setCells b o vs).heap[k]? = w.heap[k]?) ∧ (w.setCells b o vs).heap.size = w.heap.size ∧ (w.setCells b o vs).os = w.os ∧ (w.setCells b o vs).tape = w.tape ∧ (w.setCells b o vs).output = w.output
  | [], o, w, L, ty, h, _ => ⟨by simpa [World.setCells] using h, fun _ _ => rfl, rfl, rfl, rfl, rfl⟩
  | v :: vs, o, w, L, ty, h, hl => by
    simp only [List.length_cons] at hl
    have e : (w.setCell ⟨b, o, none⟩ v).heap = w.heap.modify b («Sort».onCells (·.setIfInBounds o v)) := by rw [«Sort».setCell_eq]; rfl
    have h1 : (w.setCell ⟨b, o, none⟩ v).heap[b]? = some (.cells (L.set o v).toArray ty (0, 0)) := by
      rw [e, Array.getElem?_modify, if_pos rfl, h]
      simp [«Sort».onCells]
    obtain ⟨a1, a2, a3, a4, a5, a6⟩ := setCells_lst b vs (o + 1) (w.setCell ⟨b, o, none⟩ v) (L.set o v) ty h1 (by simp; omega)
    have q : ∀ w2 : World, w2 = w.setCell ⟨b, o, none⟩ v → w2.os = w.os ∧ w2.tape = w.tape ∧ w2.output = w.output := by
      rintro w2 rfl
      rw [«Sort».setCell_eq]
      exact ⟨rfl, rfl, rfl⟩
    obtain ⟨q1, q2, q3⟩ := q _ rfl
    refine ⟨?_, fun k hk => ?_, ?_, a4.trans q1, a5.trans q2, a6.trans q3⟩
    · show ((w.setCell ⟨b, o, none⟩ v).setCells b (o + 1) vs).heap[b]? = _
      rw [a1]
      congr 3
      rw [List.take_set, List.drop_set, if_pos (by omega), List.take_add_one, List.length_cons]
      rw [List.set_append_right _ _ (by rw [List.length_take]; omega)]
      have : o < L.length := by omega
      simp [this]
      rw [show min o L.length = o by omega]
      simp
      omega
    · show ((w.setCell ⟨b, o, none⟩ v).setCells b (o + 1) vs).heap[k]? = _
      rw [a2 k hk, e, Array.getElem?_modify, if_neg (fun h => hk h.symm)]
    · show ((w.setCell ⟨b, o, none⟩ v).setCells b (o + 1) vs).heap.size = _
      rw [a3, e]; simp
def insert_S (_N : Nat) (i : Int) (l : List Int) (v : List Int) : Option (List Int × List Int) := if 0 ≤ i ∧ i ≤ l.length ∧ 0 < v.length ∧ l.length + v.length ≤ 1000000 then some (v, l.take i.toNat ++ v ++ l.drop i.toNat) else none
noncomputable def sp_insert (N : Nat) : Spec := { f := 69, ins := ⟨[.ols 0, .i .i64, .ols 1], [.lst (.int .i64), .lst (.int .i64)]⟩, outs := [⟨[.ols 2], [.dead, .lst (.int .i64), .lst (.int .i64)]⟩], run := fun p k => (insert_S N p.1.2.1 p.2.1 p.2.2.1).bind fun r => k (((), ()), ((), r.1, r.2, ())) }
theorem cell_lst {w : World} {b : Nat} {L : List Value} {ty : TypeId} (h : w.heap[b]? = some (.cells L.toArray ty (0, 0))) (k : Nat) : w.cell? ⟨b, k, none⟩ = L[k]? := by
  unfold World.cell?
  rw [h]; simp
theorem frozen_lst {w : World} {b : Nat} {L : List Value} {ty : TypeId} (h : w.heap[b]? = some (.cells L.toArray ty (0, 0))) (k : Nat) : w.frozen? ⟨b, k, none⟩ = false := by
  unfold World.frozen?
  rw [h]; simp
theorem insert_cases {P : Program} {f : FuncId} {ρ3 : TypeId} {w : World} {l v : List Int} {base : Option Addr} {c vb vc i : Nat} {ty vty : TypeId} {rest vrest : List Value} (hi : i ≤ l.length) (hv0 : 0 < v.length) (hbig : l.length + v.length ≤ 1000000)
    (hbase : base = none ∧ l = [] ∧ c = 0 ∨ ∃ b, base = some ⟨b, 0, none⟩ ∧ w.heap[b]? = some (.cells (l.map (Value.int .i64) ++ rest).toArray ty (0, 0)) ∧ rest.length = c - l.length ∧ vb ≠ b)
    (hc : l.length ≤ c ∧ c ≤ 9223372036854775807) (hvb : w.heap[vb]? = some (.cells (v.map (Value.int .i64) ++ vrest).toArray vty (0, 0)))
    (grow : ∀ (b off n c i vb voff m vc : Nat) (cs vs : List Value) (w : World), i < n → 0 < m → n ≤ c → c < n + m → (n + m) * 8 ≤ 140737488355328 → cs.length = n → vs.length = m → (∀ j v, cs[j]? = some v → w.cell? ⟨b, off + j, none⟩ = some v) → (∀ j v, vs[j]? = some v → w.cell? ⟨vb, voff + j, none⟩ = some v) → (∀ v ∈ cs, v.oneCell' = true) → (∀ v ∈ vs, v.oneCell' = true) →
      Calls P f #[.slice (some ⟨b, off, none⟩) n c, .int .i64 i, .slice (some ⟨vb, voff, none⟩) m vc] w fun e w' =>
      e = .returned (.slice (some ⟨w.heap.size, 0, none⟩) (n + m) (grownCap w (n + m) c ρ3)) ∧
      w' = (((w.alloc (.cells ((cs.take i).toArray ++ Builtin.zeroCells (Value.int .i64 0).cells (n + m - i) ++ Builtin.zeroCells (Value.int .i64 0).cells (grownCap w (n + m) c ρ3 - (n + m))) ρ3)).drew.setCells w.heap.size i vs).drew).setCells w.heap.size (i + m) (cs.drop i))
    (endgrow : ∀ (base : Option Addr) (n c vb voff m vc : Nat) (cs vs : List Value) (w : World), 0 < m → n ≤ c → c < n + m → (n + m) * 8 ≤ 140737488355328 → cs.length = n → vs.length = m → (base = none → n = 0) → (∀ a, base = some a → ∀ j v, cs[j]? = some v → w.cell? (a.add j) = some v) → (∀ j v, vs[j]? = some v → w.cell? ⟨vb, voff + j, none⟩ = some v) → (∀ v ∈ vs, v.oneCell' = true) →
      Calls P f #[.slice base n c, .int .i64 n, .slice (some ⟨vb, voff, none⟩) m vc] w fun e w' =>
      e = .returned (.slice (some ⟨w.heap.size, 0, none⟩) (n + m) (grownCap w (n + m) c ρ3)) ∧
      w' = w.drew.alloc (.cells ((cs ++ vs).toArray ++ Builtin.zeroCells (Value.int .i64 0).cells (grownCap w (n + m) c ρ3 - (n + m))) ρ3))
    (shift : ∀ (b off n c i vb voff m vc : Nat) (cs vs : List Value) (w : World), i < n → 0 < m → n + m ≤ c → c ≤ 9223372036854775807 → vb ≠ b → cs.length = n → vs.length = m → (∀ j v, cs[j]? = some v → w.cell? ⟨b, off + j, none⟩ = some v) → (∀ j, j < n + m → (w.cell? ⟨b, off + j, none⟩).isSome = true) → (∀ j, j < n + m → w.frozen? ⟨b, off + j, none⟩ = false) →
      (∀ j v, vs[j]? = some v → w.cell? ⟨vb, voff + j, none⟩ = some v) → (∀ v ∈ cs, v.oneCell' = true) → (∀ v ∈ vs, v.oneCell' = true) → ∀ (tA tB : TypeId) (kA kB : Nat), w.shape? vb = some (tA, kA) → w.shape? b = some (tB, kB) → kB ≠ 0 → w.frozen? ⟨vb, voff, none⟩ = false → w.frozen? ⟨vb, kA, none⟩ = false →
      Calls P f #[.slice (some ⟨b, off, none⟩) n c, .int .i64 i, .slice (some ⟨vb, voff, none⟩) m vc] w fun e w' =>
      e = .returned (.slice (some ⟨b, off, none⟩) (n + m) c) ∧ w' = (w.drew.setCells b (off + (i + m)) (cs.drop i)).setCells b (off + i) vs)
    (endroom : ∀ (b off n c vb voff m vc : Nat) (vs : List Value) (w : World), 0 < m → n + m ≤ c → c ≤ 9223372036854775807 → vs.length = m → (∀ j, j < m → (w.cell? ⟨b, off + n + j, none⟩).isSome = true) → (∀ j, j < m → w.frozen? ⟨b, off + n + j, none⟩ = false) → (∀ j v, vs[j]? = some v → w.cell? ⟨vb, voff + j, none⟩ = some v) → (∀ v ∈ vs, v.oneCell' = true) →
      Calls P f #[.slice (some ⟨b, off, none⟩) n c, .int .i64 n, .slice (some ⟨vb, voff, none⟩) m vc] w fun e w' =>
      e = .returned (.slice (some ⟨b, off, none⟩) (n + m) c) ∧ w' = w.setCells b (off + n) vs) :
    Calls P f #[.slice base l.length c, .int .i64 i, .slice (some ⟨vb, 0, none⟩) v.length vc] w fun e w' => ∃ b' c' rest' ty', e = .returned (.slice (some ⟨b', 0, none⟩) (l.length + v.length) c') ∧ (base = some ⟨b', 0, none⟩ ∨ b' = w.heap.size) ∧
      w'.os = w.os ∧ w'.tape = w.tape ∧ w'.output = w.output ∧ w.heap.size ≤ w'.heap.size ∧ (∀ k, k < w.heap.size → k ≠ b' → w'.heap[k]? = w.heap[k]?) ∧ w'.heap[b']? = some (.cells (((l.take i ++ v ++ l.drop i).map (Value.int .i64)) ++ rest').toArray ty' (0, 0)) ∧ (l.length + v.length ≤ c' ∧ c' ≤ 9223372036854775807) ∧ rest'.length = c' - (l.length + v.length) := by
  have hvs : ∀ j u, (v.map (Value.int .i64))[j]? = some u → w.cell? ⟨vb, 0 + j, none⟩ = some u := fun j u hj => by
    rw [cell_lst hvb, Nat.zero_add, List.getElem?_append_left (List.getElem?_eq_some_iff.1 hj).1]; exact hj
  have h1 : ∀ l : List Int, ∀ u ∈ l.map (Value.int .i64), u.oneCell' = true := fun l u hu => by
    obtain ⟨x, _, rfl⟩ := List.mem_map.1 hu; rfl
  have hmx : maxLen = 9223372036854775807 := by decide
  have gc : ∀ c, grownCap w (l.length + v.length) c ρ3 ≤ 9223372036854775807 := fun c => by
    have := grownCap_le_maxLen w (l.length + v.length) c ρ3 (by omega)
    omega
  have gc2 := fun c => grownCap_ge w (l.length + v.length) c ρ3
  have zl : ∀ n, (Builtin.zeroCells (Value.int .i64 0).cells n).toList.length = n := fun n => by simp [Builtin.zeroCells, Value.cells]
  by_cases hend : i = l.length
  · subst hend
    have eL : l.take l.length ++ v ++ l.drop l.length = l ++ v := by simp
    rw [eL]
    by_cases hroom : l.length + v.length ≤ c
    · rcases hbase with ⟨_, rfl, rfl⟩ | ⟨b, rfl, hb, hrl, hne⟩
      · simp only [List.length_nil] at hroom; omega
      · refine (endroom b 0 l.length c vb 0 v.length vc (v.map (Value.int .i64)) w hv0 hroom hc.2 (by simp) (fun j hj => ?_) (fun j _ => frozen_lst hb _) hvs (h1 v)).mono ?_
        · rw [cell_lst hb, List.getElem?_eq_getElem (by simp; omega)]; rfl
        · rintro e w' ⟨rfl, rfl⟩
          obtain ⟨a1, a2, a3, a4, a5, a6⟩ := setCells_lst b (v.map (Value.int .i64)) (0 + l.length) w _ ty hb (by simp; omega)
          refine ⟨b, c, rest.drop v.length, ty, rfl, .inl rfl, a4, a5, a6, by omega, fun k _ hk => a2 k hk, ?_, ⟨hroom, hc.2⟩, by simp; omega⟩
          rw [a1]
          congr 3
          rw [Nat.zero_add, List.take_append_of_le_length (by simp), List.take_of_length_le (by simp), List.map_append]
          congr 1
          rw [List.drop_append, List.drop_of_length_le (by simp), List.nil_append]
          congr 1
          first | done | simp
    · refine (endgrow base l.length c vb 0 v.length vc (l.map (Value.int .i64)) (v.map (Value.int .i64)) w hv0 hc.1 (by omega) (by omega) (by simp) (by simp) (fun h => ?_) (fun a ha j u hj => ?_) hvs (h1 v)).mono ?_
      · rcases hbase with ⟨_, rfl, _⟩ | ⟨b, rfl, _⟩
        · rfl
        · cases h
      · rcases hbase with ⟨rfl, _, _⟩ | ⟨b, rfl, hb, _⟩
        · cases ha
        · simp only [Option.some.injEq] at ha
          subst ha
          rw [addr_add, cell_lst hb, Nat.zero_add, List.getElem?_append_left (List.getElem?_eq_some_iff.1 hj).1]; exact hj
      · rintro e w' ⟨rfl, rfl⟩
        refine ⟨w.heap.size, _, (Builtin.zeroCells (Value.int .i64 0).cells (grownCap w (l.length + v.length) c ρ3 - (l.length + v.length))).toList, ρ3, rfl, .inr rfl, rfl, rfl, rfl, ?_, fun k hk hne => ?_, ?_, ⟨gc2 c, gc c⟩, zl _⟩
        · show w.heap.size ≤ (w.heap.push _).size
          simp
        · show (w.heap.push _)[k]? = _
          rw [Array.getElem?_push, if_neg (Nat.ne_of_lt hk)]
        · show (w.heap.push _)[w.heap.size]? = _
          rw [Array.getElem?_push, if_pos rfl]
          congr 2
          apply Array.ext'
          simp
  · have hlt : i < l.length := by omega
    rcases hbase with ⟨_, rfl, _⟩ | ⟨b, rfl, hb, hrl, hne⟩
    · simp at hlt
    have hcs : ∀ j u, (l.map (Value.int .i64))[j]? = some u → w.cell? ⟨b, 0 + j, none⟩ = some u := fun j u hj => by
      rw [cell_lst hb, Nat.zero_add, List.getElem?_append_left (List.getElem?_eq_some_iff.1 hj).1]; exact hj
    by_cases hroom : l.length + v.length ≤ c
    · have sh : ∀ {b : Nat} {L : List Value} {ty : TypeId}, w.heap[b]? = some (.cells L.toArray ty (0, 0)) → w.shape? b = some (ty, L.length) := fun h => by
        unfold World.shape?
        rw [h]; simp
      refine (shift b 0 l.length c i vb 0 v.length vc (l.map (Value.int .i64)) (v.map (Value.int .i64)) w hlt hv0 hroom hc.2 hne (by simp) (by simp) hcs (fun j hj => ?_) (fun j _ => frozen_lst hb _) hvs (h1 l) (h1 v) _ _ _ _ (sh hvb) (sh hb) (by simp only [List.length_append, List.length_map]; omega) (frozen_lst hvb _) (frozen_lst hvb _)).mono ?_
      · rw [cell_lst hb, List.getElem?_eq_getElem (by simp; omega)]; rfl
      · rintro e w' ⟨rfl, rfl⟩
        have hb1 : w.drew.heap[b]? = some (.cells (l.map (Value.int .i64) ++ rest).toArray ty (0, 0)) := hb
        obtain ⟨a1, a2, a3, a4, a5, a6⟩ := setCells_lst b ((l.map (Value.int .i64)).drop i) (0 + (i + v.length)) w.drew _ ty hb1 (by simp; omega)
        obtain ⟨d1, d2, d3, d4, d5, d6⟩ := setCells_lst b (v.map (Value.int .i64)) (0 + i) _ _ ty a1 (by simp; omega)
        refine ⟨b, c, rest.drop v.length, ty, rfl, .inl rfl, d4.trans a4, d5.trans a5, d6.trans a6, by rw [d3, a3]; exact Nat.le_refl _, fun k _ hk => (d2 k hk).trans (a2 k hk), ?_, ⟨hroom, hc.2⟩, by simp; omega⟩
        rw [d1]
        congr 2
        have e1 : l.map (Value.int .i64) = (l.take i).map (Value.int .i64) ++ (l.drop i).map (Value.int .i64) := by rw [← List.map_append, List.take_append_drop]
        have l1 : ((l.take i).map (Value.int .i64)).length = i := by simp; omega
        have l2 : ((l.drop i).map (Value.int .i64)).length = l.length - i := by simp
        have l3 : (v.map (Value.int .i64)).length = v.length := by simp
        rw [← List.map_drop, List.map_append, List.map_append]
        rw [e1]
        generalize (l.take i).map (Value.int .i64) = A at *
        generalize (l.drop i).map (Value.int .i64) = B at *
        generalize v.map (Value.int .i64) = V at *
        have x1 : (A ++ B ++ rest).take (0 + (i + v.length)) = A ++ (B ++ rest).take v.length := by
          rw [List.append_assoc, show 0 + (i + v.length) = A.length + v.length by omega, List.take_length_add_append]
        have x2 : (A ++ B ++ rest).drop (0 + (i + v.length) + B.length) = rest.drop v.length := by
          rw [show 0 + (i + v.length) + B.length = (A ++ B).length + v.length by rw [List.length_append]; omega, List.drop_length_add_append]
        rw [x1, x2]
        have x3 : (B ++ rest).length = (l.length - i) + (c - l.length) := by rw [List.length_append]; omega
        have x4 : ((B ++ rest).take v.length).length = v.length := by rw [List.length_take]; omega
        generalize (B ++ rest).take v.length = C at *
        rw [show A ++ C ++ B ++ rest.drop v.length = A ++ (C ++ (B ++ rest.drop v.length)) by simp only [List.append_assoc], show 0 + i = A.length by omega, List.take_left, List.drop_length_add_append, show V.length = C.length by omega, List.drop_left]
        simp only [List.append_assoc]
    · refine (grow b 0 l.length c i vb 0 v.length vc (l.map (Value.int .i64)) (v.map (Value.int .i64)) w hlt hv0 hc.1 (by omega) (by omega) (by simp) (by simp) hcs hvs (h1 l) (h1 v)).mono ?_
      rintro e w' ⟨rfl, rfl⟩
      have hG := gc2 c
      have hG2 := gc c
      generalize grownCap w (l.length + v.length) c ρ3 = G at *
      have zl' := zl (G - (l.length + v.length))
      have zl2 := zl (l.length + v.length - i)
      have l1 : ((l.take i).map (Value.int .i64)).length = i := by simp; omega
      have l3 : (v.map (Value.int .i64)).length = v.length := by simp
      have l2 : ((l.drop i).map (Value.int .i64)).length = l.length - i := by simp
      obtain ⟨Z1, hZ1⟩ : ∃ Z1, Z1 = (Builtin.zeroCells (Value.int .i64 0).cells (l.length + v.length - i)).toList := ⟨_, rfl⟩
      obtain ⟨Z2, hZ2⟩ : ∃ Z2, Z2 = (Builtin.zeroCells (Value.int .i64 0).cells (G - (l.length + v.length))).toList := ⟨_, rfl⟩
      have hb1 : ((w.alloc (.cells (((l.map (Value.int .i64)).take i).toArray ++ Builtin.zeroCells (Value.int .i64 0).cells (l.length + v.length - i) ++ Builtin.zeroCells (Value.int .i64 0).cells (G - (l.length + v.length))) ρ3)).drew).heap[w.heap.size]? = some (.cells ((l.take i).map (Value.int .i64) ++ (Z1 ++ Z2)).toArray ρ3 (0, 0)) := by
        show (w.heap.push _)[w.heap.size]? = _
        rw [Array.getElem?_push, if_pos rfl]
        congr 2
        apply Array.ext'
        simp [hZ1, hZ2, List.map_take]
      rw [← hZ1] at zl2
      rw [← hZ2] at zl'
      generalize hW : (w.alloc (.cells (((l.map (Value.int .i64)).take i).toArray ++ Builtin.zeroCells (Value.int .i64 0).cells (l.length + v.length - i) ++ Builtin.zeroCells (Value.int .i64 0).cells (G - (l.length + v.length))) ρ3)).drew = W at *
      have hos : W.os = w.os ∧ W.tape = w.tape ∧ W.output = w.output ∧ W.heap.size = w.heap.size + 1 ∧ ∀ k, k < w.heap.size → W.heap[k]? = w.heap[k]? := by
        subst hW
        refine ⟨rfl, rfl, rfl, ?_, fun k hk => ?_⟩
        · show (w.heap.push _).size = _
          simp
        · show (w.heap.push _)[k]? = _
          rw [Array.getElem?_push, if_neg (Nat.ne_of_lt hk)]
      obtain ⟨o1, o2, o3, o4, o5⟩ := hos
      obtain ⟨a1, a2, a3, a4, a5, a6⟩ := setCells_lst w.heap.size (v.map (Value.int .i64)) i W _ ρ3 hb1 (by simp only [List.length_append, l1, l3]; omega)
      have q1 : ((W.setCells w.heap.size i (v.map (Value.int .i64))).drew).heap[w.heap.size]? = _ := a1
      obtain ⟨d1, d2, d3, d4, d5, d6⟩ := setCells_lst w.heap.size ((l.map (Value.int .i64)).drop i) (i + v.length) _ _ ρ3 q1 (by
        simp only [List.length_append, List.length_take, List.length_drop, List.length_map]; omega)
      refine ⟨w.heap.size, G, Z2, ρ3, rfl, .inr rfl, d4.trans (a4.trans o1), d5.trans (a5.trans o2), d6.trans (a6.trans o3), ?_, fun k hk hne => (d2 k hne).trans ((a2 k hne).trans (o5 k hk)), ?_, ⟨hG, hG2⟩, zl'⟩
      · rw [d3]
        show w.heap.size ≤ (W.setCells _ _ _).heap.size
        rw [a3, o4]; omega
      · rw [d1]
        congr 2
        rw [← List.map_drop, List.map_append, List.map_append]
        generalize (l.take i).map (Value.int .i64) = A at *
        generalize (l.drop i).map (Value.int .i64) = B at *
        generalize v.map (Value.int .i64) = V at *
        rw [show i = A.length by omega, List.take_left, l3, List.drop_length_add_append, List.drop_append]
        have y1 : (Z1.drop v.length ++ Z2.drop (v.length - Z1.length)) = Z1.drop v.length ++ Z2 := by
          rw [show v.length - Z1.length = 0 by omega, List.drop_zero]
        rw [y1]
        have y2 : (A ++ V ++ (Z1.drop v.length ++ Z2)).take (A.length + v.length) = A ++ V := by
          rw [show A.length + v.length = (A ++ V).length by rw [List.length_append]; omega, List.take_left]
        rw [y2]
        have y3 : (A ++ V ++ (Z1.drop v.length ++ Z2)).drop (A.length + v.length + B.length) = Z2 := by
          rw [show A.length + v.length + B.length = (A ++ V ++ Z1.drop v.length).length by simp only [List.length_append, List.length_drop]; omega, ← List.append_assoc, List.drop_left]
        rw [y3]
theorem sp_insert_ok (N : Nat) : SpecOK Try.prog (sp_insert N) := by
  refine ⟨fun Z p κ => ?_, fun args w => Sem.pv_run _ _ _ (by kernel_rfl) w, fun p r hpr g w vs hv hs hρ => ?_⟩
  · show ((insert_S N _ _ _).bind _) = ((insert_S N _ _ _).bind _).bind κ
    cases insert_S N _ _ _ <;> rfl
  · obtain ⟨⟨⟨⟩, (i : Int), ⟨⟩, ⟨⟩⟩, (l : List Int), (u : List Int), ⟨⟩⟩ := p
    have hpr' : ((insert_S N i l u).bind fun r => some (((), ()), ((), r.1, r.2, ()))) = some r := hpr
    unfold insert_S at hpr'
    split at hpr'
    rotate_left
    · cases hpr'
    rename_i hc
    simp only [Option.bind_some] at hpr'
    cases hpr'
    obtain ⟨hi0, hil, hu0, hbig⟩ := hc
    simp only [encs, enc, RepVs] at hv
    obtain ⟨v0, us, rfl, h0, v1, us1, rfl, h1, v2, us2, rfl, h2, rfl⟩ := hv
    simp only [RepV] at h0 h1 h2
    obtain ⟨rfl, hi1⟩ := h1
    obtain ⟨i, rfl⟩ : ∃ k : Nat, i = k := ⟨i.toNat, by omega⟩
    have hB := hs.blk 0 (.lst (.int .i64) l) rfl
    have hB2 := hs.blk 1 (.lst (.int .i64) u) rfl
    obtain ⟨hlen, hB⟩ := hB
    obtain ⟨hlen2, hB2⟩ := hB2
    -- what is put in
    rcases hB2 with ⟨_, e⟩ | ⟨b2, c2, cs2, rest2, ty2, e2, hb2, hL2, hcap2, hrest2, hM2⟩
    · rw [e] at hu0; simp at hu0
    rcases h2 with ⟨e, _⟩ | ⟨b3, c3, n3, e, rfl⟩
    · simp only [id] at e; rw [e2] at e; cases e
    simp only [id] at e
    rw [e2] at e
    simp only [Option.some.injEq, Prod.mk.injEq] at e
    obtain ⟨rfl, rfl, rfl⟩ := e
    obtain ⟨rfl, hr2⟩ := RepL_int u cs2 hL2
    -- the list
    obtain ⟨base, c, rest, ty, hv0, hbase, hcap, hr, hold⟩ : ∃ (base : Option Addr) (c : Nat) (rest : List Value) (ty : TypeId), v0 = .slice base l.length c ∧ (base = none ∧ l = [] ∧ c = 0 ∨ ∃ b, base = some ⟨b, 0, none⟩ ∧ w.heap[b]? = some (.cells (l.map (Value.int .i64) ++ rest).toArray ty (0, 0)) ∧ rest.length = c - l.length ∧ b2 ≠ b) ∧ (l.length ≤ c ∧ c ≤ 9223372036854775807) ∧ (∀ x ∈ l, inR .i64 x) ∧ (∀ b, base = some ⟨b, 0, none⟩ → (∃ c n, g.ρ 0 = some (some (b, c, n))) ∧ g.M b = none) := by
      rcases hB with ⟨e, rfl⟩ | ⟨b, c, cs, rest, ty, e0, hb, hL, hcap, hrest, hM⟩
      · rcases h0 with ⟨_, rfl⟩ | ⟨b3, c3, n3, e4, _⟩
        · exact ⟨none, 0, [], 0, rfl, .inl ⟨rfl, rfl, rfl⟩, by simp, by simp, by simp⟩
        · simp only [id] at e4; rw [e] at e4; cases e4
      · rcases h0 with ⟨e, _⟩ | ⟨b3, c3, n3, e, rfl⟩
        · simp only [id] at e; rw [e0] at e; cases e
        · simp only [id] at e
          rw [e0] at e
          simp only [Option.some.injEq, Prod.mk.injEq] at e
          obtain ⟨rfl, rfl, rfl⟩ := e
          obtain ⟨rfl, hr⟩ := RepL_int l cs hL
          refine ⟨_, c, rest, ty, rfl, .inr ⟨b, rfl, hb, by simpa [Ty.cells] using hrest, fun e => ?_⟩, hcap, hr, fun b' e => ?_⟩
          · have := hs.inj 1 0 (.lst (.int .i64) u) (.lst (.int .i64) l) b _ _ _ _ rfl rfl rfl rfl (e ▸ e2) e0
            cases this
          · simp only [Option.some.injEq, Addr.mk.injEq, and_true] at e
            subst e
            exact ⟨⟨_, _, e0⟩, hM⟩
    subst hv0
    have hC := insert_cases (P := Try.prog) (f := 69) (ρ3 := layIns_ren.t 3) (w := w) (l := l) (v := u) (base := base) (c := c) (vb := b2) (vc := c2) (i := i) (ty := ty) (vty := ty2) (rest := rest) (vrest := rest2) (by omega) hu0 hbig hbase hcap hb2
      (fun b off n c i vb voff m vc cs vs w => Any2.slices_Insert_int_grow layIns b off n c i vb voff m vc cs vs w)
      (fun base n c vb voff m vc cs vs w => Any2.slices_Insert_int_end_grow layIns base n c vb voff m vc cs vs w)
      (fun b off n c i vb voff m vc cs vs w => Any2.slices_Insert_int_shift layIns b off n c i vb voff m vc cs vs w)
      (fun b off n c vb voff m vc vs w => Any2.slices_Insert_int_end_room layIns b off n c vb voff m vc vs w)
    refine Fn.ofCalls hC (fun e w' he => ?_)
    obtain ⟨b', c', rest', ty', rfl, hb', q1, q2, q3, q4, q5, q6, q7, q8⟩ := he
    refine ⟨_, rfl, ?_⟩
    have hl : (l.take i ++ u ++ l.drop i).length = l.length + u.length := by simp; omega
    obtain ⟨g', st, hs', hv'⟩ := Sim.repl (N := 2) (l' := l.take i ++ u ++ l.drop i) (b := b') (c := c') (rest' := rest') (ty := ty') (h1 := hOf (ss := [.dead, .lst (.int .i64), .lst (.int .i64)]) ((), u, l.take i ++ u ++ l.drop i, ())) (w' := w') hs rfl (by decide) (hρ 2 (Nat.le_refl 2)) (hb'.imp (fun h => hold b' h) (fun h => Nat.le_of_eq h.symm)) (fun k kk hk => by
      match k, hk with
      | 0, hk => exact .inl ⟨rfl, by simp [hOf, encBs, encB] at hk; exact hk.symm⟩
      | 1, hk => exact .inr (.inr ⟨by decide, by decide, hk⟩)
      | 2, hk => exact .inr (.inl ⟨rfl, (Option.some.inj (show some (Blk'.lst (.int .i64) (l.take i ++ u ++ l.drop i)) = some kk from hk)).symm⟩)
      | k + 3, hk =>
        have hk' : ([.dead, .lst (.int .i64) u, .lst (.int .i64) (l.take i ++ u ++ l.drop i)] : List Blk')[k + 3]? = some kk := hk
        simp at hk') q1 q2 q3 q4 q5 q6 (fun x hx => by
        rcases List.mem_append.1 hx with hx | hx
        · rcases List.mem_append.1 hx with hx | hx
          · exact hr x (List.mem_of_mem_take hx)
          · exact hr2 x hx
        · exact hr x (List.mem_of_mem_drop hx)) (by omega) (by rw [hl]; exact q7) (by rw [hl]; exact q8)
    refine ⟨g', st, hs', ?_⟩
    rw [hl] at hv'
    exact hv'
end Go.Proofs.Ytfcnhnbnjdccfaa

namespace Go.Proofs.Ytfcnhnbnjdccfaa
set_option linter.all false
open Go

def thinned_l1 (N : Nat) : Nat → (List Int) → Int → Int → Int → (List Int) → Option (List Int)
  | 0, _, _, _, _, _ => none
  | n_ + 1, common, many, i, k, out =>
    br (decide (i < (out.length : Int)))
      (br (decide (0 < many))
        (br (decide (k < (common.length : Int)))
          (rng i out.length <|
          get out i.toNat fun x_1 =>
          idx common k fun x_2 =>
          br (decide (x_1 = x_2))
            (chk (i + 1) <|
            chk (k + 1) <|
            thinned_l1 N n_ common many (i + 1) (k + 1) out)
            (chk (i + 1) <|
            (delete_S N i (i + 1) out).bind fun x_3 =>
            chk (many - 1) <|
            thinned_l1 N n_ common (many - 1) i k x_3))
          (chk (i + 1) <|
          (delete_S N i (i + 1) out).bind fun x_4 =>
          chk (many - 1) <|
          thinned_l1 N n_ common (many - 1) i k x_4))
        (some (out)))
      (some (out))
def thinned_S (N : Nat) (l : List Int) (common : List Int) (many : Int) : Option (List Int) :=
  grd (lmI (l.length : Int)) <|
  (thinned_l1 N N common many 0 0 (l.take (min l.length (List.replicate (l.length : Int).toNat (0 : Int)).length) ++ (List.replicate (l.length : Int).toNat (0 : Int)).drop (min l.length (List.replicate (l.length : Int).toNat (0 : Int)).length))).bind fun out_5 =>
  some out_5
noncomputable def thinned_sp (N : Nat) : List Spec := [sp_delete N]
theorem thinned_all (N : Nat) : AllP (SpecOK Try.prog) (thinned_sp N) := ⟨sp_delete_ok N, trivial⟩
noncomputable def thinned_c : Code := (Try.f100.body).getD .skip
noncomputable abbrev thinned_B : Body := { c := thinned_c, n := 51, res := [.tmp 6], outs := [⟨[.ols 0], [.lst (.int .i64)]⟩], m0 := 0 }
abbrev thinned_rt : altD thinned_B.outs → Option (List Int) := fun r => some r.2.1
abbrev thinned_l1_at : List PI := [.c [1, 1, 1, 0, 1, 0, 0, 0, 0], .c [1, 1, 1, 0, 1, 0, 0, 0, 1], .c [1, 1, 1, 0, 1, 0, 0, 1], .l [1, 1, 1, 0, 1, 0, 0], .b 0, .c [1, 1, 1, 1]]
abbrev thinned_l1_st : Sta := ⟨[1, 2, 7, 8, 9], ⟨[.sl (.int .i64), .i .i64, .ols 0, .i .i64, .i .i64], [.lst (.int .i64)]⟩⟩
abbrev thinned_l1_h (rec : (List Int) → Int → Int → Int → (List Int) → Option (List Int)) : Leaf (List Int) := ⟨thinned_l1_at, thinned_l1_st, fun p => rec p.1.1 p.1.2.1 p.1.2.2.2.1 p.1.2.2.2.2.1 p.2.1⟩
abbrev thinned_l1_e0 : Leaf (List Int) := ⟨[.c [1, 1, 1, 1, 0], .c [1, 1, 1, 1, 1]], ⟨[7], ⟨[.ols 0], [.lst (.int .i64)]⟩⟩, fun p => some (p.2.1)⟩
noncomputable def thinned_l1_L (N : Nat) : LoopS := { at_ := thinned_l1_at, sta := thinned_l1_st, exits := [([.c [1, 1, 1, 1, 0], .c [1, 1, 1, 1, 1]], ⟨[7], ⟨[.ols 0], [.lst (.int .i64)]⟩⟩)], run := fun p k => (thinned_l1 N N p.1.1 p.1.2.1 p.1.2.2.2.1 p.1.2.2.2.2.1 p.2.1).bind fun e => k (.inl (((), ()), (e, ()))) }
theorem thinned_l1_eq (N n_ : Nat) (common : List Int) (many : Int) (i : Int) (k : Int) (out : List Int) : ev (Z := List Int) Try.prog (thinned_sp N) thinned_B [] [thinned_l1_h (thinned_l1 N n_), thinned_l1_e0] none 400 true thinned_l1_at (stL thinned_l1_st ((common, many, (), i, k, ()), (out, ()))) (stH thinned_l1_st ((common, many, (), i, k, ()), (out, ()))) = thinned_l1 N (n_ + 1) common many i k out := by kernel_rfl
theorem thinned_l1_ok (N : Nat) {top : Bool} : LoopOK Try.prog thinned_B.c thinned_B.n thinned_B.m0 top (thinned_l1_L N) := loop_of_ev (Z := List Int) (N := N) (fun m p => thinned_l1 N m p.1.1 p.1.2.1 p.1.2.2.2.1 p.1.2.2.2.2.1 p.2.1) (fun e => .inl (((), ()), (e, ()))) (fun _ _ _ => rfl) (fun _ => rfl) (fun m z E Xc hE hX hrec hx => leaf_of_ev (B := thinned_B) (loops := []) (leaves := [thinned_l1_h (thinned_l1 N m), thinned_l1_e0]) (thinned_all N) mixed trivial hE hX ⟨hrec, (fun p hp => by obtain rfl := Option.some.inj hp; exact hx), trivial⟩ RetOK.no (fun p => thinned_l1_eq N m p.1.1 p.1.2.1 p.1.2.2.2.1 p.1.2.2.2.2.1 p.2.1))
abbrev thinned_st : Sta := ⟨[0, 1, 2], ⟨[.sl (.int .i64), .sl (.int .i64), .i .i64], []⟩⟩
theorem thinned_eq (N : Nat) (l : List Int) (common : List Int) (many : Int) : ev (Z := List Int) Try.prog (thinned_sp N) thinned_B [thinned_l1_L N] [] (some thinned_rt) 400 false [.c [0], .c [1]] (stL thinned_st ((l, common, many, ()), ())) (stH thinned_st ((l, common, many, ()), ())) = thinned_S N l common many := by kernel_rfl
noncomputable def sp_thinned (N : Nat) : Spec := { f := 100, ins := ⟨[.sl (.int .i64), .sl (.int .i64), .i .i64], []⟩, outs := [⟨[.ols 0], [.lst (.int .i64)]⟩], run := fun p k => (thinned_S N p.1.1 p.1.2.1 p.1.2.2.1).bind fun r => k (((), ()), (r, ())) }
theorem sp_thinned_ok (N : Nat) : SpecOK Try.prog (sp_thinned N) := fn_sound (B := thinned_B) (loops := [thinned_l1_L N]) (leaves := []) (fun p => thinned_S N p.1.1 p.1.2.1 p.1.2.2.1) (fun r => (((), ()), (r, ()))) thinned_rt (fun _ _ _ => rfl) (fun r z h => by cases h; rfl) Try.func100 (by kernel_rfl) (by kernel_rfl) (by kernel_rfl) rfl rfl (by kernel_rfl) (fun args w => Sem.pv_run _ _ _ (by kernel_rfl) w) (thinned_all N) mixed ⟨thinned_l1_ok N, trivial⟩ (fun z E Xc hE hX hret => trivial) (fun p => thinned_eq N p.1.1 p.1.2.1 p.1.2.2.1)

def middle_S (N : Nat) (e : List (List Int)) (e2 : List Int) (e3 : Int) (a : Int) (b : Int) : Option (List Int × Int) :=
  ((opened_S N e e2 e3 a b).bind fun e => match e with
  | .inl (x_1, y_2) =>
    (br (!decide (y_2 = 0))
      (some ([], y_2))
      ((common_S N x_1.2.2.2.1 x_1.2.2.2.2).bind fun x_3 =>
      chk ((x_1.2.2.2.1.length : Int) - (x_3.length : Int)) <|
      chk ((x_1.2.2.2.2.length : Int) - (x_3.length : Int)) <|
      chk (((x_1.2.2.2.1.length : Int) - (x_3.length : Int)) + ((x_1.2.2.2.2.length : Int) - (x_3.length : Int))) <|
      br (decide ((IntKind.i64.wrap (Int.tdiv (((x_1.2.2.2.1.length : Int) - (x_3.length : Int)) + ((x_1.2.2.2.2.length : Int) - (x_3.length : Int))) 2)) ≤ ((x_1.2.2.2.1.length : Int) - (x_3.length : Int))))
        ((thinned_S N x_1.2.2.2.1 x_3 (IntKind.i64.wrap (Int.tdiv (((x_1.2.2.2.1.length : Int) - (x_3.length : Int)) + ((x_1.2.2.2.2.length : Int) - (x_3.length : Int))) 2))).bind fun x_4 =>
        some (x_4, 0))
        (chk (((x_1.2.2.2.1.length : Int) - (x_3.length : Int)) + ((x_1.2.2.2.2.length : Int) - (x_3.length : Int))) <|
        chk (((x_1.2.2.2.1.length : Int) - (x_3.length : Int)) + ((x_1.2.2.2.2.length : Int) - (x_3.length : Int))) <|
        chk ((((x_1.2.2.2.1.length : Int) - (x_3.length : Int)) + ((x_1.2.2.2.2.length : Int) - (x_3.length : Int))) - (IntKind.i64.wrap (Int.tdiv (((x_1.2.2.2.1.length : Int) - (x_3.length : Int)) + ((x_1.2.2.2.2.length : Int) - (x_3.length : Int))) 2))) <|
        (thinned_S N x_1.2.2.2.2 x_3 ((((x_1.2.2.2.1.length : Int) - (x_3.length : Int)) + ((x_1.2.2.2.2.length : Int) - (x_3.length : Int))) - (IntKind.i64.wrap (Int.tdiv (((x_1.2.2.2.1.length : Int) - (x_3.length : Int)) + ((x_1.2.2.2.2.length : Int) - (x_3.length : Int))) 2)))).bind fun x_5 =>
        some (x_5, 0))))
  | .inr x_6 =>
    (br (!decide (x_6 = 0))
      (some ([], x_6))
      (none)))
noncomputable def middle_sp (N : Nat) : List Spec := [sp_common N, sp_opened N, sp_thinned N]
theorem middle_all (N : Nat) : AllP (SpecOK Try.prog) (middle_sp N) := ⟨sp_common_ok N, sp_opened_ok N, sp_thinned_ok N, trivial⟩
noncomputable def middle_c : Code := (Try.f50.body).getD .skip
noncomputable abbrev middle_B : Body := { c := middle_c, n := 78, res := [.tmp 6, .tmp 7], outs := [⟨[.sl (.int .i64), .i .i64], []⟩], m0 := 0 }
abbrev middle_rt : altD middle_B.outs → Option (List Int × Int) := fun r => some (r.1.1, r.1.2.1)
abbrev middle_st : Sta := ⟨[0, 1, 2], ⟨[.agg [.sl (.sl (.int .i64)), .sl (.int .i64), .i .i64], .i .i64, .i .i64], []⟩⟩
theorem middle_eq (N : Nat) (e : List (List Int)) (e2 : List Int) (e3 : Int) (a : Int) (b : Int) : ev (Z := List Int × Int) Try.prog (middle_sp N) middle_B [] [] (some middle_rt) 400 false [.c [0], .c [1]] (stL middle_st (((e, e2, e3, ()), a, b, ()), ())) (stH middle_st (((e, e2, e3, ()), a, b, ()), ())) = middle_S N e e2 e3 a b := by kernel_rfl
noncomputable def sp_middle (N : Nat) : Spec := { f := 50, ins := ⟨[.agg [.sl (.sl (.int .i64)), .sl (.int .i64), .i .i64], .i .i64, .i .i64], []⟩, outs := [⟨[.sl (.int .i64), .i .i64], []⟩], run := fun p k => (middle_S N p.1.1.1 p.1.1.2.1 p.1.1.2.2.1 p.1.2.1 p.1.2.2.1).bind fun r => k ((r.1, r.2, ()), ()) }
theorem sp_middle_ok (N : Nat) : SpecOK Try.prog (sp_middle N) := fn_sound (B := middle_B) (loops := []) (leaves := []) (fun p => middle_S N p.1.1.1 p.1.1.2.1 p.1.1.2.2.1 p.1.2.1 p.1.2.2.1) (fun r => ((r.1, r.2, ()), ())) middle_rt (fun _ _ _ => rfl) (fun r z h => by cases h; rfl) Try.func50 (by kernel_rfl) (by kernel_rfl) (by kernel_rfl) rfl rfl (by kernel_rfl) (fun args w => Sem.pv_run _ _ _ (by kernel_rfl) w) (middle_all N) mixed trivial (fun z E Xc hE hX hret => trivial) (fun p => middle_eq N p.1.1.1 p.1.1.2.1 p.1.1.2.2.1 p.1.2.1 p.1.2.2.1)

def efar1_j1 (N : Nat) (rec : (List Int) → (List Int) → Int → Int → Option (List Int)) (l : List Int) (u : List Int) (u2 : Int) (u3 : Int) : Option (List Int) :=
  chk (u3 + 1) <|
  rec l u u2 (u3 + 1)
def efar1_l1 (N : Nat) : Nat → (List Int) → (List Int) → Int → Int → Option (List Int)
  | 0, _, _, _, _ => none
  | n_ + 1, l, u, u2, u3 =>
    br (decide (u3 < u2))
      (idx u u3 fun x_1 =>
      br (decide (0 < (l.length : Int)))
        (idx l 0 fun x_2 =>
        br (decide (x_2 = x_1))
          (grd (decide ((0 : Int) ≤ 1 ∧ 1 ≤ (l.length : Int))) <|
          efar1_j1 N (efar1_l1 N n_) (l.drop 1) u u2 u3)
          (efar1_j1 N (efar1_l1 N n_) l u u2 u3))
        (efar1_j1 N (efar1_l1 N n_) l u u2 u3))
      (some (l))
def efar1_S (N : Nat) (l : List Int) (in_ : List Int) : Option Bool :=
  (efar1_l1 N N l in_ (in_.length : Int) 0).bind fun l_3 =>
  some (decide ((l_3.length : Int) = 0))
def efar_l3 (N : Nat) : Nat → Int → (List Int) → Int → (List Int) → Int → (List Int) → (List (List Int)) → Int → Int → (List (List Int)) → Int → Int → Int → Int → (List (List Int)) → (List Int) → Int → Option ((Unit) ⊕ (Int × List Int × List Int × Int × List Int × List (List Int) × Int × Int × List (List Int) × Int × Int × List (List Int) × List Int × Int))
  | 0, _, _, _, _, _, _, _, _, _, _, _, _, _, _, _, _, _ => none
  | n_ + 1, a, s, b, t, n, k, u, u2, u3, u4, u5, u6, u7, u8, x, x2, x3 =>
    br (decide (u8 < u7))
      ((dist_S N x x2 x3 a u8).bind fun (x_22, y_23) =>
      (dist_S N x x2 x3 u8 b).bind fun (x_24, y_25) =>
      br (!decide (y_23 = 0))
        (some (.inl ()))
        (br (!decide (y_25 = 0))
          (some (.inl ()))
          (chk (x_22 + x_24) <|
          br (decide ((x_22 + x_24) < n))
            (some (.inl ()))
            (chk (u8 + 1) <|
            efar_l3 N n_ a s b t n k u u2 u3 u4 u5 u6 u7 (u8 + 1) x x2 x3))))
      (some (.inr (a, s, t, n, k, u, u2, u3, u4, u5, u6, x, x2, x3)))
def efar_j1 (N : Nat) (rec : Int → (List Int) → (List (List Int)) → Int → Int → (List (List Int)) → Int → Int → (List (List Int)) → (List Int) → Int → Option ((Unit) ⊕ ((Unit) ⊕ ((Unit) ⊕ ((Unit) ⊕ (List (List Int) × Int × Int × List (List Int) × List Int × Int)))))) (a : Int) (s : List Int) (u : List (List Int)) (u2 : Int) (u3 : Int) (u4 : List (List Int)) (u5 : Int) (u6 : Int) (x : List (List Int)) (x2 : List Int) (x3 : Int) : Option ((Unit) ⊕ ((Unit) ⊕ ((Unit) ⊕ ((Unit) ⊕ (List (List Int) × Int × Int × List (List Int) × List Int × Int))))) :=
  chk (u6 + 1) <|
  rec a s u u2 u3 u4 u5 (u6 + 1) x x2 x3
def efar_l2 (N : Nat) : Nat → Int → (List Int) → (List (List Int)) → Int → Int → (List (List Int)) → Int → Int → (List (List Int)) → (List Int) → Int → Option ((Unit) ⊕ ((Unit) ⊕ ((Unit) ⊕ ((Unit) ⊕ (List (List Int) × Int × Int × List (List Int) × List Int × Int)))))
  | 0, _, _, _, _, _, _, _, _, _, _, _ => none
  | n_ + 1, a, s, u, u2, u3, u4, u5, u6, x, x2, x3 =>
    br (decide (u6 < u5))
      (idx u4 u6 fun x_11 =>
      (dist_S N x x2 x3 a u6).bind fun (x_12, y_13) =>
      (dist_S N x x2 x3 u6 a).bind fun (x_14, y_15) =>
      (commons_S N x x2 x3 a u6).bind fun (x_16, y_17) =>
      (middle_S N x x2 x3 a u6).bind fun (x_18, y_19) =>
      br (!decide (y_13 = 0))
        (some (.inl ()))
        (br (!decide (y_15 = 0))
          (some (.inl ()))
          (br (!decide (y_17 = 0))
            (some (.inl ()))
            (br (!decide (y_19 = 0))
              (some (.inl ()))
              (br (!decide (x_12 = x_14))
                (some (.inl ()))
                (br (decide (a = u6))
                  (br (!decide (x_12 = 0))
                    (some (.inl ()))
                    (chk ((s.length : Int) + (x_11.length : Int)) <|
                    chk (2 * (x_16.length : Int)) <|
                    chk (((s.length : Int) + (x_11.length : Int)) - (2 * (x_16.length : Int))) <|
                    br (!decide (x_12 = (((s.length : Int) + (x_11.length : Int)) - (2 * (x_16.length : Int)))))
                      (some (.inl ()))
                      ((efar1_S N x_16 s).bind fun x_20 =>
                      br (!x_20)
                        (some (.inl ()))
                        ((efar1_S N x_16 x_11).bind fun x_21 =>
                        br (!x_21)
                          (some (.inl ()))
                          ((efar_l3 N N a s u6 x_11 x_12 x_18 u u2 u3 u4 u5 u6 (x.length : Int) 0 x x2 x3).bind fun e => match e with
                          | .inl _ =>
                            some (.inr (.inl ()))
                          | .inr (a_26, s_27, t_28, n_29, k_30, u_31, u2_32, u3_33, u4_34, u5_35, u6_36, x_37, x2_38, x3_39) =>
                            br (decide ((k_30.length : Int) = 0))
                              (br (decide ((k_30.length : Int) = 0))
                                (chk (n_29 + 1) <|
                                br (decide ((IntKind.i64.wrap (Int.tdiv (n_29 + 1) 2)) < (s_27.length : Int)))
                                  (some (.inr (.inr (.inl ()))))
                                  (chk (n_29 + 1) <|
                                  br (decide ((IntKind.i64.wrap (Int.tdiv (n_29 + 1) 2)) < (t_28.length : Int)))
                                    (some (.inr (.inr (.inl ()))))
                                    (efar_j1 N (efar_l2 N n_) a_26 s_27 u_31 u2_32 u3_33 u4_34 u5_35 u6_36 x_37 x2_38 x3_39)))
                                (efar_j1 N (efar_l2 N n_) a_26 s_27 u_31 u2_32 u3_33 u4_34 u5_35 u6_36 x_37 x2_38 x3_39))
                              (br (decide (6 < (k_30.length : Int)))
                                (br (decide ((k_30.length : Int) = 0))
                                  (chk (n_29 + 1) <|
                                  br (decide ((IntKind.i64.wrap (Int.tdiv (n_29 + 1) 2)) < (s_27.length : Int)))
                                    (some (.inr (.inr (.inl ()))))
                                    (chk (n_29 + 1) <|
                                    br (decide ((IntKind.i64.wrap (Int.tdiv (n_29 + 1) 2)) < (t_28.length : Int)))
                                      (some (.inr (.inr (.inl ()))))
                                      (efar_j1 N (efar_l2 N n_) a_26 s_27 u_31 u2_32 u3_33 u4_34 u5_35 u6_36 x_37 x2_38 x3_39)))
                                  (efar_j1 N (efar_l2 N n_) a_26 s_27 u_31 u2_32 u3_33 u4_34 u5_35 u6_36 x_37 x2_38 x3_39))
                                ((dist_S N [k_30, s_27, t_28] [] 0 0 1).bind fun (x_40, y_41) =>
                                (dist_S N [k_30, s_27, t_28] [] 0 0 2).bind fun (x_42, y_43) =>
                                br (!decide (y_41 = 0))
                                  (some (.inr (.inr (.inr (.inl ())))))
                                  (br (!decide (y_43 = 0))
                                    (some (.inr (.inr (.inr (.inl ())))))
                                    (chk (n_29 + 1) <|
                                    br (decide ((IntKind.i64.wrap (Int.tdiv (n_29 + 1) 2)) < x_40))
                                      (some (.inr (.inr (.inr (.inl ())))))
                                      (chk (n_29 + 1) <|
                                      br (decide ((IntKind.i64.wrap (Int.tdiv (n_29 + 1) 2)) < x_42))
                                        (some (.inr (.inr (.inr (.inl ())))))
                                        (efar_j1 N (efar_l2 N n_) a_26 s_27 u_31 u2_32 u3_33 u4_34 u5_35 u6_36 x_37 x2_38 x3_39)))))))))))
                  (chk ((s.length : Int) + (x_11.length : Int)) <|
                  chk (2 * (x_16.length : Int)) <|
                  chk (((s.length : Int) + (x_11.length : Int)) - (2 * (x_16.length : Int))) <|
                  br (!decide (x_12 = (((s.length : Int) + (x_11.length : Int)) - (2 * (x_16.length : Int)))))
                    (some (.inl ()))
                    ((efar1_S N x_16 s).bind fun x_44 =>
                    br (!x_44)
                      (some (.inl ()))
                      ((efar1_S N x_16 x_11).bind fun x_45 =>
                      br (!x_45)
                        (some (.inl ()))
                        ((efar_l3 N N a s u6 x_11 x_12 x_18 u u2 u3 u4 u5 u6 (x.length : Int) 0 x x2 x3).bind fun e => match e with
                        | .inl _ =>
                          some (.inr (.inl ()))
                        | .inr (a_46, s_47, t_48, n_49, k_50, u_51, u2_52, u3_53, u4_54, u5_55, u6_56, x_57, x2_58, x3_59) =>
                          br (decide ((k_50.length : Int) = 0))
                            (br (decide ((k_50.length : Int) = 0))
                              (chk (n_49 + 1) <|
                              br (decide ((IntKind.i64.wrap (Int.tdiv (n_49 + 1) 2)) < (s_47.length : Int)))
                                (some (.inr (.inr (.inl ()))))
                                (chk (n_49 + 1) <|
                                br (decide ((IntKind.i64.wrap (Int.tdiv (n_49 + 1) 2)) < (t_48.length : Int)))
                                  (some (.inr (.inr (.inl ()))))
                                  (efar_j1 N (efar_l2 N n_) a_46 s_47 u_51 u2_52 u3_53 u4_54 u5_55 u6_56 x_57 x2_58 x3_59)))
                              (efar_j1 N (efar_l2 N n_) a_46 s_47 u_51 u2_52 u3_53 u4_54 u5_55 u6_56 x_57 x2_58 x3_59))
                            (br (decide (6 < (k_50.length : Int)))
                              (br (decide ((k_50.length : Int) = 0))
                                (chk (n_49 + 1) <|
                                br (decide ((IntKind.i64.wrap (Int.tdiv (n_49 + 1) 2)) < (s_47.length : Int)))
                                  (some (.inr (.inr (.inl ()))))
                                  (chk (n_49 + 1) <|
                                  br (decide ((IntKind.i64.wrap (Int.tdiv (n_49 + 1) 2)) < (t_48.length : Int)))
                                    (some (.inr (.inr (.inl ()))))
                                    (efar_j1 N (efar_l2 N n_) a_46 s_47 u_51 u2_52 u3_53 u4_54 u5_55 u6_56 x_57 x2_58 x3_59)))
                                (efar_j1 N (efar_l2 N n_) a_46 s_47 u_51 u2_52 u3_53 u4_54 u5_55 u6_56 x_57 x2_58 x3_59))
                              ((dist_S N [k_50, s_47, t_48] [] 0 0 1).bind fun (x_60, y_61) =>
                              (dist_S N [k_50, s_47, t_48] [] 0 0 2).bind fun (x_62, y_63) =>
                              br (!decide (y_61 = 0))
                                (some (.inr (.inr (.inr (.inl ())))))
                                (br (!decide (y_63 = 0))
                                  (some (.inr (.inr (.inr (.inl ())))))
                                  (chk (n_49 + 1) <|
                                  br (decide ((IntKind.i64.wrap (Int.tdiv (n_49 + 1) 2)) < x_60))
                                    (some (.inr (.inr (.inr (.inl ())))))
                                    (chk (n_49 + 1) <|
                                    br (decide ((IntKind.i64.wrap (Int.tdiv (n_49 + 1) 2)) < x_62))
                                      (some (.inr (.inr (.inr (.inl ())))))
                                      (efar_j1 N (efar_l2 N n_) a_46 s_47 u_51 u2_52 u3_53 u4_54 u5_55 u6_56 x_57 x2_58 x3_59))))))))))))))))
      (some (.inr (.inr (.inr (.inr (u, u2, u3, x, x2, x3))))))
def efar_l1 (N : Nat) : Nat → (List (List Int)) → Int → Int → (List (List Int)) → (List Int) → Int → Option ((Unit) ⊕ ((Unit) ⊕ ((Unit) ⊕ ((Unit) ⊕ (Unit)))))
  | 0, _, _, _, _, _, _ => none
  | n_ + 1, u, u2, u3, x, x2, x3 =>
    br (decide (u3 < u2))
      (idx u u3 fun x_10 =>
      (efar_l2 N N u3 x_10 u u2 u3 x (x.length : Int) 0 x x2 x3).bind fun e => match e with
      | .inl _ =>
        some (.inl ())
      | .inr (.inl _) =>
        some (.inr (.inl ()))
      | .inr (.inr (.inl _)) =>
        some (.inr (.inr (.inl ())))
      | .inr (.inr (.inr (.inl _))) =>
        some (.inr (.inr (.inr (.inl ()))))
      | .inr (.inr (.inr (.inr (u_64, u2_65, u3_66, x_67, x2_68, x3_69)))) =>
        chk (u3_66 + 1) <|
        efar_l1 N n_ u_64 u2_65 (u3_66 + 1) x_67 x2_68 x3_69)
      (some (.inr (.inr (.inr (.inr ())))))
def efar_S (N : Nat) (numbers : List Int) : Option Bool :=
  (hang_S N numbers).bind fun (x_1, y_2, y_3) =>
  (made_S N 4 6 0 x_1 y_2 y_3).bind fun (x_4, y_5, y_6, y_7, y_8, y_9) =>
  (efar_l1 N N x_4 (x_4.length : Int) 0 x_4 y_5 y_6).bind fun e => match e with
  | .inl _ =>
    some false
  | .inr (.inl _) =>
    some false
  | .inr (.inr (.inl _)) =>
    some false
  | .inr (.inr (.inr (.inl _))) =>
    some false
  | .inr (.inr (.inr (.inr _))) =>
    (awake_S N).bind fun x_70 =>
    some x_70
noncomputable abbrev rfar_self (self : (List Int) → (List Int) → Option Int) : Spec := { f := 55, ins := ⟨[.sl (.int .i64), .sl (.int .i64)], []⟩, outs := [⟨[.i .i64], []⟩], run := fun p k => (self p.1.1 p.1.2.1).bind fun r => k ((r, ()), ()) }
def rfar_S (N : Nat) (self : (List Int) → (List Int) → Option Int) (a : List Int) (b : List Int) : Option Int :=
  br (decide ((a.length : Int) = 0))
    (chk ((a.length : Int) + (b.length : Int)) <|
    some ((a.length : Int) + (b.length : Int)))
    (br (decide ((b.length : Int) = 0))
      (chk ((a.length : Int) + (b.length : Int)) <|
      some ((a.length : Int) + (b.length : Int)))
      (grd (decide ((0 : Int) ≤ 1 ∧ 1 ≤ (a.length : Int))) <|
      (self (a.drop 1) b).bind fun x_1 =>
      grd (decide ((0 : Int) ≤ 1 ∧ 1 ≤ (b.length : Int))) <|
      (self a (b.drop 1)).bind fun x_2 =>
      chk (1 + (min x_1 x_2)) <|
      idx a 0 fun x_3 =>
      idx b 0 fun x_4 =>
      br (decide (x_3 = x_4))
        (grd (decide ((0 : Int) ≤ 1 ∧ 1 ≤ (a.length : Int))) <|
        grd (decide ((0 : Int) ≤ 1 ∧ 1 ≤ (b.length : Int))) <|
        (self (a.drop 1) (b.drop 1)).bind fun x_5 =>
        some (min (1 + (min x_1 x_2)) x_5))
        (some (1 + (min x_1 x_2)))))
noncomputable def rfar_sp (N : Nat) (self : (List Int) → (List Int) → Option Int) : List Spec := [rfar_self self]
theorem rfar_all (N : Nat) (self : (List Int) → (List Int) → Option Int) (hself : SpecOK Try.prog (rfar_self self)) : AllP (SpecOK Try.prog) (rfar_sp N self) := ⟨hself, trivial⟩
noncomputable def rfar_c : Code := (Try.f55.body).getD .skip
noncomputable abbrev rfar_B : Body := { c := rfar_c, n := 44, res := [.tmp 4], outs := [⟨[.i .i64], []⟩], m0 := 0 }
abbrev rfar_rt : altD rfar_B.outs → Option Int := fun r => some r.1.1
abbrev rfar_st : Sta := ⟨[0, 1], ⟨[.sl (.int .i64), .sl (.int .i64)], []⟩⟩
theorem rfar_eq (N : Nat) (self : (List Int) → (List Int) → Option Int) (a : List Int) (b : List Int) : ev (Z := Int) Try.prog (rfar_sp N self) rfar_B [] [] (some rfar_rt) 400 false [.c [0], .c [1]] (stL rfar_st ((a, b, ()), ())) (stH rfar_st ((a, b, ()), ())) = rfar_S N self a b := by kernel_rfl
theorem rfar_self_ok (N : Nat) (self : (List Int) → (List Int) → Option Int) (hself : SpecOK Try.prog (rfar_self self)) : SpecOK Try.prog (rfar_self (rfar_S N self)) := fn_sound (B := rfar_B) (loops := []) (leaves := []) (fun p => rfar_S N self p.1.1 p.1.2.1) (fun r => ((r, ()), ())) rfar_rt (fun _ _ _ => rfl) (fun r z h => by cases h; rfl) Try.func55 (by kernel_rfl) (by kernel_rfl) (by kernel_rfl) rfl rfl (by kernel_rfl) (fun args w => Sem.pv_run _ _ _ (by kernel_rfl) w) (rfar_all N self hself) mixed trivial (fun z E Xc hE hX hret => trivial) (fun p => rfar_eq N self p.1.1 p.1.2.1)
def rfar_R (N : Nat) : Nat → (List Int) → (List Int) → Option Int
  | 0 => fun _ _ => none
  | n + 1 => rfar_S N (rfar_R N n)
theorem rfar_R_ok (N : Nat) : ∀ n, SpecOK Try.prog (rfar_self (rfar_R N n))
  | 0 => SpecOK.none (fun _ _ _ => rfl) (fun args w => Sem.pv_run _ _ _ (by kernel_rfl) w)
  | n + 1 => rfar_self_ok N (rfar_R N n) (rfar_R_ok N n)
noncomputable abbrev sp_rfar (N : Nat) : Spec := rfar_self (rfar_R N N)
theorem sp_rfar_ok (N : Nat) : SpecOK Try.prog (sp_rfar N) := rfar_R_ok N N

def within_j1 (N : Nat) (rec : (List Int) → (List Int) → Int → Int → Option (List Int × Int)) (l : List Int) (in_ : List Int) (at_ : Int) (i : Int) : Option (List Int × Int) :=
  chk (i + 1) <|
  rec l in_ at_ (i + 1)
def within_l1 (N : Nat) : Nat → (List Int) → (List Int) → Int → Int → Option (List Int × Int)
  | 0, _, _, _, _ => none
  | n_ + 1, l, in_, at_, i =>
    br (decide (i < (in_.length : Int)))
      (br (decide (at_ < (l.length : Int)))
        (idx in_ i fun x_1 =>
        idx l at_ fun x_2 =>
        br (decide (x_1 = x_2))
          (chk (at_ + 1) <|
          within_j1 N (within_l1 N n_) l in_ (at_ + 1) i)
          (within_j1 N (within_l1 N n_) l in_ at_ i))
        (some ((l, at_))))
      (some ((l, at_)))
def within_S (N : Nat) (l : List Int) (in_ : List Int) : Option Bool :=
  (within_l1 N N l in_ 0 0).bind fun (l_3, at__4) =>
  some (decide (at__4 = (l_3.length : Int)))
noncomputable def within_sp (N : Nat) : List Spec := []
theorem within_all (N : Nat) : AllP (SpecOK Try.prog) (within_sp N) := trivial
noncomputable def within_c : Code := (Try.f56.body).getD .skip
noncomputable abbrev within_B : Body := { c := within_c, n := 34, res := [.tmp 4], outs := [⟨[.b], []⟩], m0 := 0 }
abbrev within_rt : altD within_B.outs → Option Bool := fun r => some r.1.1
abbrev within_l1_at : List PI := [.c [1, 1, 0, 1, 0, 0, 0, 0], .c [1, 1, 0, 1, 0, 0, 0, 1], .c [1, 1, 0, 1, 0, 0, 1], .l [1, 1, 0, 1, 0, 0], .b 0, .c [1, 1, 1]]
abbrev within_l1_st : Sta := ⟨[0, 1, 5, 6], ⟨[.sl (.int .i64), .sl (.int .i64), .i .i64, .i .i64], []⟩⟩
abbrev within_l1_h (rec : (List Int) → (List Int) → Int → Int → Option (List Int × Int)) : Leaf (List Int × Int) := ⟨within_l1_at, within_l1_st, fun p => rec p.1.1 p.1.2.1 p.1.2.2.1 p.1.2.2.2.1⟩
abbrev within_l1_e0 : Leaf (List Int × Int) := ⟨[.c [1, 1, 1, 0], .c [1, 1, 1, 1]], ⟨[0, 5], ⟨[.sl (.int .i64), .i .i64], []⟩⟩, fun p => some ((p.1.1, p.1.2.1))⟩
abbrev within_j1_at : List PI := [.c [1, 1, 0, 1, 0, 0, 1, 1], .l [1, 1, 0, 1, 0, 0], .b 0, .c [1, 1, 1]]
abbrev within_j1_st : Sta := ⟨[0, 1, 5, 6], ⟨[.sl (.int .i64), .sl (.int .i64), .i .i64, .i .i64], []⟩⟩
abbrev within_j1_k (N : Nat) (rec : (List Int) → (List Int) → Int → Int → Option (List Int × Int)) : Leaf (List Int × Int) := ⟨within_j1_at, within_j1_st, fun p => within_j1 N rec p.1.1 p.1.2.1 p.1.2.2.1 p.1.2.2.2.1⟩
theorem within_j1_eq (N : Nat) (rec : (List Int) → (List Int) → Int → Int → Option (List Int × Int)) (l : List Int) (in_ : List Int) (at_ : Int) (i : Int) : ev (Z := List Int × Int) Try.prog (within_sp N) within_B [] [within_l1_h rec, within_l1_e0] none 400 true within_j1_at (stL within_j1_st ((l, in_, at_, i, ()), ())) (stH within_j1_st ((l, in_, at_, i, ()), ())) = within_j1 N rec l in_ at_ i := by kernel_rfl
theorem within_j1_lf (N : Nat) (rec : (List Int) → (List Int) → Int → Int → Option (List Int × Int)) {z : List Int × Int} {top : Bool} {E : EE} {Xc : Ctx} (hE : EOK within_B.m0 E) (hX : CxOK top Xc) (hrec : LeafOK Try.prog within_B.c within_B.n within_B.m0 E Xc z (within_l1_h rec)) (h0 : LeafOK Try.prog within_B.c within_B.n within_B.m0 E Xc z within_l1_e0) : LeafOK Try.prog within_B.c within_B.n within_B.m0 E Xc z (within_j1_k N rec) := leaf_of_ev (B := within_B) (loops := []) (leaves := [within_l1_h rec, within_l1_e0]) (within_all N) mixed trivial hE hX ⟨hrec, h0, trivial⟩ RetOK.no (fun p => within_j1_eq N rec p.1.1 p.1.2.1 p.1.2.2.1 p.1.2.2.2.1)
noncomputable def within_l1_L (N : Nat) : LoopS := { at_ := within_l1_at, sta := within_l1_st, exits := [([.c [1, 1, 1, 0], .c [1, 1, 1, 1]], ⟨[0, 5], ⟨[.sl (.int .i64), .i .i64], []⟩⟩)], run := fun p k => (within_l1 N N p.1.1 p.1.2.1 p.1.2.2.1 p.1.2.2.2.1).bind fun e => k (.inl ((e.1, e.2, ()), ())) }
theorem within_l1_eq (N n_ : Nat) (l : List Int) (in_ : List Int) (at_ : Int) (i : Int) : ev (Z := List Int × Int) Try.prog (within_sp N) within_B [] [within_l1_h (within_l1 N n_), within_l1_e0, within_j1_k N (within_l1 N n_)] none 400 true within_l1_at (stL within_l1_st ((l, in_, at_, i, ()), ())) (stH within_l1_st ((l, in_, at_, i, ()), ())) = within_l1 N (n_ + 1) l in_ at_ i := by kernel_rfl
theorem within_l1_ok (N : Nat) {top : Bool} : LoopOK Try.prog within_B.c within_B.n within_B.m0 top (within_l1_L N) := loop_of_ev (Z := List Int × Int) (N := N) (fun m p => within_l1 N m p.1.1 p.1.2.1 p.1.2.2.1 p.1.2.2.2.1) (fun e => .inl ((e.1, e.2, ()), ())) (fun _ _ _ => rfl) (fun _ => rfl) (fun m z E Xc hE hX hrec hx => leaf_of_ev (B := within_B) (loops := []) (leaves := [within_l1_h (within_l1 N m), within_l1_e0, within_j1_k N (within_l1 N m)]) (within_all N) mixed trivial hE hX ⟨hrec, (fun p hp => by obtain rfl := Option.some.inj hp; exact hx), within_j1_lf N _ hE hX hrec (fun p hp => by obtain rfl := Option.some.inj hp; exact hx), trivial⟩ RetOK.no (fun p => within_l1_eq N m p.1.1 p.1.2.1 p.1.2.2.1 p.1.2.2.2.1))
abbrev within_st : Sta := ⟨[0, 1], ⟨[.sl (.int .i64), .sl (.int .i64)], []⟩⟩
theorem within_eq (N : Nat) (l : List Int) (in_ : List Int) : ev (Z := Bool) Try.prog (within_sp N) within_B [within_l1_L N] [] (some within_rt) 400 false [.c [0], .c [1]] (stL within_st ((l, in_, ()), ())) (stH within_st ((l, in_, ()), ())) = within_S N l in_ := by kernel_rfl
noncomputable def sp_within (N : Nat) : Spec := { f := 56, ins := ⟨[.sl (.int .i64), .sl (.int .i64)], []⟩, outs := [⟨[.b], []⟩], run := fun p k => (within_S N p.1.1 p.1.2.1).bind fun r => k ((r, ()), ()) }
theorem sp_within_ok (N : Nat) : SpecOK Try.prog (sp_within N) := fn_sound (B := within_B) (loops := [within_l1_L N]) (leaves := []) (fun p => within_S N p.1.1 p.1.2.1) (fun r => ((r, ()), ())) within_rt (fun _ _ _ => rfl) (fun r z h => by cases h; rfl) Try.func56 (by kernel_rfl) (by kernel_rfl) (by kernel_rfl) rfl rfl (by kernel_rfl) (fun args w => Sem.pv_run _ _ _ (by kernel_rfl) w) (within_all N) mixed ⟨within_l1_ok N, trivial⟩ (fun z E Xc hE hX hret => trivial) (fun p => within_eq N p.1.1 p.1.2.1)

def rconf_j1 (N : Nat) (rec : Int → Int → (List (List Int)) → (List Int) → Int → (List (Int × Int)) → Option (Int × List (List Int) × List Int × Int × (List (Int × Int)))) (a : Int) (b : Int) (e : List (List Int)) (e2 : List Int) (e3 : Int) (out : List (Int × Int)) : Option (Int × List (List Int) × List Int × Int × (List (Int × Int))) :=
  chk (b + 1) <|
  rec a (b + 1) e e2 e3 out
def rconf_l2 (N : Nat) : Nat → Int → Int → (List (List Int)) → (List Int) → Int → (List (Int × Int)) → Option (Int × List (List Int) × List Int × Int × (List (Int × Int)))
  | 0, _, _, _, _, _, _ => none
  | n_ + 1, a, b, e, e2, e3, out =>
    br (decide (b < (e.length : Int)))
      (idx e a fun x_2 =>
      idx e b fun x_3 =>
      (rfar_R N N x_2 x_3).bind fun x_4 =>
      chk (2 * e3) <|
      br (decide (x_4 ≤ (2 * e3)))
        (lim (out.length + [(a, b)].length) <|
        rconf_j1 N (rconf_l2 N n_) a b e e2 e3 (out ++ [(a, b)]))
        (rconf_j1 N (rconf_l2 N n_) a b e e2 e3 out))
      (some ((a, e, e2, e3, out)))
def rconf_l1 (N : Nat) : Nat → Int → (List (List Int)) → (List Int) → Int → (List (Int × Int)) → Option (List (Int × Int))
  | 0, _, _, _, _, _ => none
  | n_ + 1, a, e, e2, e3, out =>
    br (decide (a < (e.length : Int)))
      (chk (a + 1) <|
      (rconf_l2 N N a (a + 1) e e2 e3 out).bind fun (a_5, e_6, e2_7, e3_8, out_9) =>
      chk (a_5 + 1) <|
      rconf_l1 N n_ (a_5 + 1) e_6 e2_7 e3_8 out_9)
      (some (out))
def rconf_S (N : Nat) (e : List (List Int)) (e2 : List Int) (e3 : Int) : Option ((List (Int × Int)) × Int) :=
  (rcheck_S N e e2 e3).bind fun x_1 =>
  br (!decide (x_1 = 0))
    (some ([], x_1))
    ((rconf_l1 N N 0 e e2 e3 []).bind fun out_10 =>
    some (out_10, 0))
noncomputable def rconf_sp (N : Nat) : List Spec := [sp_rcheck N, sp_rfar N]
theorem rconf_all (N : Nat) : AllP (SpecOK Try.prog) (rconf_sp N) := ⟨sp_rcheck_ok N, sp_rfar_ok N, trivial⟩
noncomputable def rconf_c : Code := (Try.f54.body).getD .skip
noncomputable abbrev rconf_B : Body := { c := rconf_c, n := 51, res := [.tmp 2, .tmp 3], outs := [⟨[.sl (.pair (.int .i64) (.int .i64)), .i .i64], []⟩], m0 := 0 }
abbrev rconf_rt : altD rconf_B.outs → Option ((List (Int × Int)) × Int) := fun r => some (r.1.1, r.1.2.1)
abbrev rconf_l2_at : List PI := [.c [1, 1, 1, 0, 1, 0, 0, 1, 0, 0, 1, 0, 0, 0, 0], .c [1, 1, 1, 0, 1, 0, 0, 1, 0, 0, 1, 0, 0, 0, 1], .c [1, 1, 1, 0, 1, 0, 0, 1, 0, 0, 1, 0, 0, 1], .l [1, 1, 1, 0, 1, 0, 0, 1, 0, 0, 1, 0, 0], .b 2, .b 1, .c [1, 1, 1, 0, 1, 0, 0, 1, 1], .l [1, 1, 1, 0, 1, 0, 0], .b 0, .c [1, 1, 1, 1]]
abbrev rconf_l2_st : Sta := ⟨[1, 5, 6, 7], ⟨[.own 0 0, .ols 1, .i .i64, .i .i64], [.segs [.sl (.sl (.int .i64)), .sl (.int .i64), .i .i64], .lst (.pair (.int .i64) (.int .i64))]⟩⟩
abbrev rconf_l2_h (rec : Int → Int → (List (List Int)) → (List Int) → Int → (List (Int × Int)) → Option (Int × List (List Int) × List Int × Int × (List (Int × Int)))) : Leaf (Int × List (List Int) × List Int × Int × (List (Int × Int))) := ⟨rconf_l2_at, rconf_l2_st, fun p => rec p.1.2.2.1 p.1.2.2.2.1 p.2.1.1 p.2.1.2.1 p.2.1.2.2.1 p.2.2.1⟩
abbrev rconf_l2_e0 : Leaf (Int × List (List Int) × List Int × Int × (List (Int × Int))) := ⟨[.c [1, 1, 1, 0, 1, 0, 0, 1, 1], .l [1, 1, 1, 0, 1, 0, 0], .b 0, .c [1, 1, 1, 1]], ⟨[1, 5, 6], ⟨[.own 0 0, .ols 1, .i .i64], [.segs [.sl (.sl (.int .i64)), .sl (.int .i64), .i .i64], .lst (.pair (.int .i64) (.int .i64))]⟩⟩, fun p => some ((p.1.2.2.1, p.2.1.1, p.2.1.2.1, p.2.1.2.2.1, p.2.2.1))⟩
abbrev rconf_j1_at : List PI := [.c [1, 1, 1, 0, 1, 0, 0, 1, 0, 0, 1, 0, 0, 1, 1], .l [1, 1, 1, 0, 1, 0, 0, 1, 0, 0, 1, 0, 0], .b 2, .b 1, .c [1, 1, 1, 0, 1, 0, 0, 1, 1], .l [1, 1, 1, 0, 1, 0, 0], .b 0, .c [1, 1, 1, 1]]
abbrev rconf_j1_st : Sta := ⟨[1, 5, 6, 7], ⟨[.own 0 0, .ols 1, .i .i64, .i .i64], [.segs [.sl (.sl (.int .i64)), .sl (.int .i64), .i .i64], .lst (.pair (.int .i64) (.int .i64))]⟩⟩
abbrev rconf_j1_k (N : Nat) (rec : Int → Int → (List (List Int)) → (List Int) → Int → (List (Int × Int)) → Option (Int × List (List Int) × List Int × Int × (List (Int × Int)))) : Leaf (Int × List (List Int) × List Int × Int × (List (Int × Int))) := ⟨rconf_j1_at, rconf_j1_st, fun p => rconf_j1 N rec p.1.2.2.1 p.1.2.2.2.1 p.2.1.1 p.2.1.2.1 p.2.1.2.2.1 p.2.2.1⟩
theorem rconf_j1_eq (N : Nat) (rec : Int → Int → (List (List Int)) → (List Int) → Int → (List (Int × Int)) → Option (Int × List (List Int) × List Int × Int × (List (Int × Int)))) (a : Int) (b : Int) (e : List (List Int)) (e2 : List Int) (e3 : Int) (out : List (Int × Int)) : ev (Z := Int × List (List Int) × List Int × Int × (List (Int × Int))) Try.prog (rconf_sp N) rconf_B [] [rconf_l2_h rec, rconf_l2_e0] none 400 true rconf_j1_at (stL rconf_j1_st (((), (), a, b, ()), ((e, e2, e3, ()), out, ()))) (stH rconf_j1_st (((), (), a, b, ()), ((e, e2, e3, ()), out, ()))) = rconf_j1 N rec a b e e2 e3 out := by kernel_rfl
theorem rconf_j1_lf (N : Nat) (rec : Int → Int → (List (List Int)) → (List Int) → Int → (List (Int × Int)) → Option (Int × List (List Int) × List Int × Int × (List (Int × Int)))) {z : Int × List (List Int) × List Int × Int × (List (Int × Int))} {top : Bool} {E : EE} {Xc : Ctx} (hE : EOK rconf_B.m0 E) (hX : CxOK top Xc) (hrec : LeafOK Try.prog rconf_B.c rconf_B.n rconf_B.m0 E Xc z (rconf_l2_h rec)) (h0 : LeafOK Try.prog rconf_B.c rconf_B.n rconf_B.m0 E Xc z rconf_l2_e0) : LeafOK Try.prog rconf_B.c rconf_B.n rconf_B.m0 E Xc z (rconf_j1_k N rec) := leaf_of_ev (B := rconf_B) (loops := []) (leaves := [rconf_l2_h rec, rconf_l2_e0]) (rconf_all N) mixed trivial hE hX ⟨hrec, h0, trivial⟩ RetOK.no (fun p => rconf_j1_eq N rec p.1.2.2.1 p.1.2.2.2.1 p.2.1.1 p.2.1.2.1 p.2.1.2.2.1 p.2.2.1)
noncomputable def rconf_l2_L (N : Nat) : LoopS := { at_ := rconf_l2_at, sta := rconf_l2_st, exits := [([.c [1, 1, 1, 0, 1, 0, 0, 1, 1], .l [1, 1, 1, 0, 1, 0, 0], .b 0, .c [1, 1, 1, 1]], ⟨[1, 5, 6], ⟨[.own 0 0, .ols 1, .i .i64], [.segs [.sl (.sl (.int .i64)), .sl (.int .i64), .i .i64], .lst (.pair (.int .i64) (.int .i64))]⟩⟩)], run := fun p k => (rconf_l2 N N p.1.2.2.1 p.1.2.2.2.1 p.2.1.1 p.2.1.2.1 p.2.1.2.2.1 p.2.2.1).bind fun e => k (.inl (((), (), e.1, ()), ((e.2.1, e.2.2.1, e.2.2.2.1, ()), e.2.2.2.2, ()))) }
theorem rconf_l2_eq (N n_ : Nat) (a : Int) (b : Int) (e : List (List Int)) (e2 : List Int) (e3 : Int) (out : List (Int × Int)) : ev (Z := Int × List (List Int) × List Int × Int × (List (Int × Int))) Try.prog (rconf_sp N) rconf_B [] [rconf_l2_h (rconf_l2 N n_), rconf_l2_e0, rconf_j1_k N (rconf_l2 N n_)] none 400 true rconf_l2_at (stL rconf_l2_st (((), (), a, b, ()), ((e, e2, e3, ()), out, ()))) (stH rconf_l2_st (((), (), a, b, ()), ((e, e2, e3, ()), out, ()))) = rconf_l2 N (n_ + 1) a b e e2 e3 out := by kernel_rfl
theorem rconf_l2_ok (N : Nat) {top : Bool} : LoopOK Try.prog rconf_B.c rconf_B.n rconf_B.m0 top (rconf_l2_L N) := loop_of_ev (Z := Int × List (List Int) × List Int × Int × (List (Int × Int))) (N := N) (fun m p => rconf_l2 N m p.1.2.2.1 p.1.2.2.2.1 p.2.1.1 p.2.1.2.1 p.2.1.2.2.1 p.2.2.1) (fun e => .inl (((), (), e.1, ()), ((e.2.1, e.2.2.1, e.2.2.2.1, ()), e.2.2.2.2, ()))) (fun _ _ _ => rfl) (fun _ => rfl) (fun m z E Xc hE hX hrec hx => leaf_of_ev (B := rconf_B) (loops := []) (leaves := [rconf_l2_h (rconf_l2 N m), rconf_l2_e0, rconf_j1_k N (rconf_l2 N m)]) (rconf_all N) mixed trivial hE hX ⟨hrec, (fun p hp => by obtain rfl := Option.some.inj hp; exact hx), rconf_j1_lf N _ hE hX hrec (fun p hp => by obtain rfl := Option.some.inj hp; exact hx), trivial⟩ RetOK.no (fun p => rconf_l2_eq N m p.1.2.2.1 p.1.2.2.2.1 p.2.1.1 p.2.1.2.1 p.2.1.2.2.1 p.2.2.1))
abbrev rconf_l1_at : List PI := [.c [1, 1, 1, 0, 1, 0, 0, 0, 0], .c [1, 1, 1, 0, 1, 0, 0, 0, 1], .c [1, 1, 1, 0, 1, 0, 0, 1], .l [1, 1, 1, 0, 1, 0, 0], .b 0, .c [1, 1, 1, 1]]
abbrev rconf_l1_st : Sta := ⟨[1, 5, 6], ⟨[.own 0 0, .ols 1, .i .i64], [.segs [.sl (.sl (.int .i64)), .sl (.int .i64), .i .i64], .lst (.pair (.int .i64) (.int .i64))]⟩⟩
abbrev rconf_l1_h (rec : Int → (List (List Int)) → (List Int) → Int → (List (Int × Int)) → Option (List (Int × Int))) : Leaf (List (Int × Int)) := ⟨rconf_l1_at, rconf_l1_st, fun p => rec p.1.2.2.1 p.2.1.1 p.2.1.2.1 p.2.1.2.2.1 p.2.2.1⟩
abbrev rconf_l1_e0 : Leaf (List (Int × Int)) := ⟨[.c [1, 1, 1, 1, 0], .c [1, 1, 1, 1, 1]], ⟨[5], ⟨[.ols 0], [.lst (.pair (.int .i64) (.int .i64))]⟩⟩, fun p => some (p.2.1)⟩
noncomputable def rconf_l1_L (N : Nat) : LoopS := { at_ := rconf_l1_at, sta := rconf_l1_st, exits := [([.c [1, 1, 1, 1, 0], .c [1, 1, 1, 1, 1]], ⟨[5], ⟨[.ols 0], [.lst (.pair (.int .i64) (.int .i64))]⟩⟩)], run := fun p k => (rconf_l1 N N p.1.2.2.1 p.2.1.1 p.2.1.2.1 p.2.1.2.2.1 p.2.2.1).bind fun e => k (.inl (((), ()), (e, ()))) }
theorem rconf_l1_eq (N n_ : Nat) (a : Int) (e : List (List Int)) (e2 : List Int) (e3 : Int) (out : List (Int × Int)) : ev (Z := (List (Int × Int))) Try.prog (rconf_sp N) rconf_B [rconf_l2_L N] [rconf_l1_h (rconf_l1 N n_), rconf_l1_e0] none 400 true rconf_l1_at (stL rconf_l1_st (((), (), a, ()), ((e, e2, e3, ()), out, ()))) (stH rconf_l1_st (((), (), a, ()), ((e, e2, e3, ()), out, ()))) = rconf_l1 N (n_ + 1) a e e2 e3 out := by kernel_rfl
theorem rconf_l1_ok (N : Nat) {top : Bool} : LoopOK Try.prog rconf_B.c rconf_B.n rconf_B.m0 top (rconf_l1_L N) := loop_of_ev (Z := (List (Int × Int))) (N := N) (fun m p => rconf_l1 N m p.1.2.2.1 p.2.1.1 p.2.1.2.1 p.2.1.2.2.1 p.2.2.1) (fun e => .inl (((), ()), (e, ()))) (fun _ _ _ => rfl) (fun _ => rfl) (fun m z E Xc hE hX hrec hx => leaf_of_ev (B := rconf_B) (loops := [rconf_l2_L N]) (leaves := [rconf_l1_h (rconf_l1 N m), rconf_l1_e0]) (rconf_all N) mixed ⟨rconf_l2_ok N, trivial⟩ hE hX ⟨hrec, (fun p hp => by obtain rfl := Option.some.inj hp; exact hx), trivial⟩ RetOK.no (fun p => rconf_l1_eq N m p.1.2.2.1 p.2.1.1 p.2.1.2.1 p.2.1.2.2.1 p.2.2.1))
abbrev rconf_st : Sta := ⟨[0], ⟨[.agg [.sl (.sl (.int .i64)), .sl (.int .i64), .i .i64]], []⟩⟩
theorem rconf_eq (N : Nat) (e : List (List Int)) (e2 : List Int) (e3 : Int) : ev (Z := (List (Int × Int)) × Int) Try.prog (rconf_sp N) rconf_B [rconf_l2_L N, rconf_l1_L N] [] (some rconf_rt) 400 false [.c [0], .c [1]] (stL rconf_st (((e, e2, e3, ()), ()), ())) (stH rconf_st (((e, e2, e3, ()), ()), ())) = rconf_S N e e2 e3 := by kernel_rfl
noncomputable def sp_rconf (N : Nat) : Spec := { f := 54, ins := ⟨[.agg [.sl (.sl (.int .i64)), .sl (.int .i64), .i .i64]], []⟩, outs := [⟨[.sl (.pair (.int .i64) (.int .i64)), .i .i64], []⟩], run := fun p k => (rconf_S N p.1.1.1 p.1.1.2.1 p.1.1.2.2.1).bind fun r => k ((r.1, r.2, ()), ()) }
theorem sp_rconf_ok (N : Nat) : SpecOK Try.prog (sp_rconf N) := fn_sound (B := rconf_B) (loops := [rconf_l2_L N, rconf_l1_L N]) (leaves := []) (fun p => rconf_S N p.1.1.1 p.1.1.2.1 p.1.1.2.2.1) (fun r => ((r.1, r.2, ()), ())) rconf_rt (fun _ _ _ => rfl) (fun r z h => by cases h; rfl) Try.func54 (by kernel_rfl) (by kernel_rfl) (by kernel_rfl) rfl rfl (by kernel_rfl) (fun args w => Sem.pv_run _ _ _ (by kernel_rfl) w) (rconf_all N) mixed ⟨rconf_l2_ok N, rconf_l1_ok N, trivial⟩ (fun z E Xc hE hX hret => trivial) (fun p => rconf_eq N p.1.1.1 p.1.1.2.1 p.1.1.2.2.1)

def etexts_l1 (N : Nat) : Nat → Int → Int → (List (Int × Int)) → (List (Int × Int)) → Int → Int → (List (List Int)) → (List Int) → Int → (List (List Int)) → (List Int) → Int → (List (List Int)) → (List Int) → Int → Option ((Unit) ⊕ (Int × Int × List (List Int) × List Int × Int × List (List Int) × List Int × Int × List (List Int) × List Int × Int))
  | 0, _, _, _, _, _, _, _, _, _, _, _, _, _, _, _ => none
  | n_ + 1, a, b, want, u, u2, u3, x, x2, x3, own, own2, own3, y, y2, y3 =>
    br (decide (u3 < u2))
      (idx u u3 fun x_13 =>
      idx want u3 fun x_14 =>
      br (!(decide (x_13.1 = x_14.1) && decide (x_13.2 = x_14.2)))
        (some (.inl ()))
        (chk (u3 + 1) <|
        etexts_l1 N n_ a b want u u2 (u3 + 1) x x2 x3 own own2 own3 y y2 y3))
      (some (.inr (a, b, x, x2, x3, own, own2, own3, y, y2, y3)))
def etexts_S (N : Nat) (x : List (List Int)) (x2 : List Int) (x3 : Int) (a : Int) (b : Int) : Option Bool :=
  (great_S N x x2 x3).bind fun x_1 =>
  br x_1
    ((awake_S N).bind fun x_2 =>
    some x_2)
    ((copye_S N x x2 x3).bind fun (x_3, y_4, y_5) =>
    (copye_S N x x2 x3).bind fun (x_6, y_7, y_8) =>
    (conf_S N x_3 y_4 y_5).bind fun (x_9, y_10) =>
    (rconf_S N x_6 y_7 y_8).bind fun (x_11, y_12) =>
    br (!decide (y_10 = y_12))
      (some false)
      (br (!decide ((x_9.length : Int) = (x_11.length : Int)))
        (some false)
        ((etexts_l1 N N a b x_11 x_9 (x_9.length : Int) 0 x x2 x3 x_3 y_4 y_5 x_6 y_7 y_8).bind fun e => match e with
        | .inl _ =>
          some false
        | .inr (a_15, b_16, x_17, x2_18, x3_19, own_20, own2_21, own3_22, y_23, y2_24, y3_25) =>
          (dist_S N own_20 own2_21 own3_22 a_15 b_16).bind fun (x_26, y_27) =>
          (commons_S N own_20 own2_21 own3_22 a_15 b_16).bind fun (x_28, y_29) =>
          (middle_S N own_20 own2_21 own3_22 a_15 b_16).bind fun (x_30, y_31) =>
          (rtwo_S N y_23 y2_24 y3_25 a_15 b_16).bind fun x_32 =>
          br (!decide (x_32 = 0))
            (br (decide (y_27 = x_32))
              (br (decide (y_29 = x_32))
                (br (decide (y_31 = x_32))
                  (chk (x_26 + (x_28.length : Int)) <|
                  chk ((x_26 + (x_28.length : Int)) + (x_30.length : Int)) <|
                  br (decide (((x_26 + (x_28.length : Int)) + (x_30.length : Int)) = 0))
                    ((same_S N own_20 own2_21 own3_22 x_17 x2_18 x3_19).bind fun x_33 =>
                    br x_33
                      ((awake_S N).bind fun x_34 =>
                      some x_34)
                      (some false))
                    (some false))
                  (some false))
                (some false))
              (some false))
            (idx y_23 a_15 fun x_35 =>
            idx y_23 b_16 fun x_36 =>
            (rfar_R N N x_35 x_36).bind fun x_37 =>
            br (!decide (y_27 = 0))
              (some false)
              (br (!decide (y_29 = 0))
                (some false)
                (br (!decide (y_31 = 0))
                  (some false)
                  (br (!decide (x_26 = x_37))
                    (some false)
                    (chk (2 * (x_28.length : Int)) <|
                    chk ((x_35.length : Int) + (x_36.length : Int)) <|
                    chk (((x_35.length : Int) + (x_36.length : Int)) - x_37) <|
                    br (!decide ((2 * (x_28.length : Int)) = (((x_35.length : Int) + (x_36.length : Int)) - x_37)))
                      (some false)
                      ((within_S N x_28 x_35).bind fun x_38 =>
                      br (!x_38)
                        (some false)
                        ((within_S N x_28 x_36).bind fun x_39 =>
                        br (!x_39)
                          (some false)
                          (br (decide ((x_30.length : Int) ≤ 12))
                            ((rfar_R N N x_30 x_35).bind fun x_40 =>
                            chk (x_37 + 1) <|
                            br (decide (x_40 ≤ (IntKind.i64.wrap (Int.tdiv (x_37 + 1) 2))))
                              ((rfar_R N N x_30 x_36).bind fun x_41 =>
                              chk (x_37 + 1) <|
                              br (decide (x_41 ≤ (IntKind.i64.wrap (Int.tdiv (x_37 + 1) 2))))
                                ((same_S N own_20 own2_21 own3_22 x_17 x2_18 x3_19).bind fun x_42 =>
                                br x_42
                                  ((awake_S N).bind fun x_43 =>
                                  some x_43)
                                  (some false))
                                (some false))
                              (some false))
                            (some false))))))))))))
noncomputable def etexts_sp (N : Nat) : List Spec := [sp_dist N, sp_commons N, sp_conf N, sp_awake N, sp_copye N, sp_rtwo N, sp_great N, sp_same N, sp_middle N, sp_rfar N, sp_within N, sp_rconf N]
theorem etexts_all (N : Nat) : AllP (SpecOK Try.prog) (etexts_sp N) := ⟨sp_dist_ok N, sp_commons_ok N, sp_conf_ok N, sp_awake_ok N, sp_copye_ok N, sp_rtwo_ok N, sp_great_ok N, sp_same_ok N, sp_middle_ok N, sp_rfar_ok N, sp_within_ok N, sp_rconf_ok N, trivial⟩
noncomputable def etexts_c : Code := (Try.f9.body).getD .skip
noncomputable abbrev etexts_B : Body := { c := etexts_c, n := 206, res := [.tmp 6], outs := [⟨[.b], []⟩], m0 := 0 }
abbrev etexts_rt : altD etexts_B.outs → Option Bool := fun r => some r.1.1
abbrev etexts_l1_at : List PI := [.c [1, 1, 1, 1, 1, 1, 0, 1, 0, 0, 0], .c [1, 1, 1, 1, 1, 1, 0, 1, 0, 0, 1], .l [1, 1, 1, 1, 1, 1, 0, 1, 0, 0], .b 0, .c [1, 1, 1, 1, 1, 1, 1]]
abbrev etexts_l1_st : Sta := ⟨[1, 2, 3, 7, 8, 11, 51, 52, 53], ⟨[.i .i64, .i .i64, .own 0 0, .own 1 0, .own 2 0, .sl (.pair (.int .i64) (.int .i64)), .sl (.pair (.int .i64) (.int .i64)), .i .i64, .i .i64], [.segs [.sl (.sl (.int .i64)), .sl (.int .i64), .i .i64], .segs [.sl (.sl (.int .i64)), .sl (.int .i64), .i .i64], .segs [.sl (.sl (.int .i64)), .sl (.int .i64), .i .i64]]⟩⟩
abbrev etexts_l1_h (rec : Int → Int → (List (Int × Int)) → (List (Int × Int)) → Int → Int → (List (List Int)) → (List Int) → Int → (List (List Int)) → (List Int) → Int → (List (List Int)) → (List Int) → Int → Option ((Unit) ⊕ (Int × Int × List (List Int) × List Int × Int × List (List Int) × List Int × Int × List (List Int) × List Int × Int))) : Leaf ((Unit) ⊕ (Int × Int × List (List Int) × List Int × Int × List (List Int) × List Int × Int × List (List Int) × List Int × Int)) := ⟨etexts_l1_at, etexts_l1_st, fun p => rec p.1.1 p.1.2.1 p.1.2.2.2.2.2.1 p.1.2.2.2.2.2.2.1 p.1.2.2.2.2.2.2.2.1 p.1.2.2.2.2.2.2.2.2.1 p.2.1.1 p.2.1.2.1 p.2.1.2.2.1 p.2.2.1.1 p.2.2.1.2.1 p.2.2.1.2.2.1 p.2.2.2.1.1 p.2.2.2.1.2.1 p.2.2.2.1.2.2.1⟩
abbrev etexts_l1_e0 : Leaf ((Unit) ⊕ (Int × Int × List (List Int) × List Int × Int × List (List Int) × List Int × Int × List (List Int) × List Int × Int)) := ⟨[.c [1, 1, 1, 1, 1, 1, 0, 1, 0, 0, 1, 1, 0, 0, 1, 1, 0, 0], .c [1, 1, 1, 1, 1, 1, 0, 1, 0, 0, 1, 1, 0, 0, 1, 1, 0, 1], .b 1, .c [1, 1, 1, 1, 1, 1, 0, 1, 0, 0, 1, 1, 1], .l [1, 1, 1, 1, 1, 1, 0, 1, 0, 0], .b 0, .c [1, 1, 1, 1, 1, 1, 1]], ⟨[], ⟨[], []⟩⟩, fun p => some (.inl ())⟩
abbrev etexts_l1_e1 : Leaf ((Unit) ⊕ (Int × Int × List (List Int) × List Int × Int × List (List Int) × List Int × Int × List (List Int) × List Int × Int)) := ⟨[.c [1, 1, 1, 1, 1, 1, 1, 0], .c [1, 1, 1, 1, 1, 1, 1, 1]], ⟨[1, 2, 3, 7, 8], ⟨[.i .i64, .i .i64, .own 0 0, .own 1 0, .own 2 0], [.segs [.sl (.sl (.int .i64)), .sl (.int .i64), .i .i64], .segs [.sl (.sl (.int .i64)), .sl (.int .i64), .i .i64], .segs [.sl (.sl (.int .i64)), .sl (.int .i64), .i .i64]]⟩⟩, fun p => some (.inr (p.1.1, p.1.2.1, p.2.1.1, p.2.1.2.1, p.2.1.2.2.1, p.2.2.1.1, p.2.2.1.2.1, p.2.2.1.2.2.1, p.2.2.2.1.1, p.2.2.2.1.2.1, p.2.2.2.1.2.2.1))⟩
noncomputable def etexts_l1_L (N : Nat) : LoopS := { at_ := etexts_l1_at, sta := etexts_l1_st, exits := [([.c [1, 1, 1, 1, 1, 1, 0, 1, 0, 0, 1, 1, 0, 0, 1, 1, 0, 0], .c [1, 1, 1, 1, 1, 1, 0, 1, 0, 0, 1, 1, 0, 0, 1, 1, 0, 1], .b 1, .c [1, 1, 1, 1, 1, 1, 0, 1, 0, 0, 1, 1, 1], .l [1, 1, 1, 1, 1, 1, 0, 1, 0, 0], .b 0, .c [1, 1, 1, 1, 1, 1, 1]], ⟨[], ⟨[], []⟩⟩), ([.c [1, 1, 1, 1, 1, 1, 1, 0], .c [1, 1, 1, 1, 1, 1, 1, 1]], ⟨[1, 2, 3, 7, 8], ⟨[.i .i64, .i .i64, .own 0 0, .own 1 0, .own 2 0], [.segs [.sl (.sl (.int .i64)), .sl (.int .i64), .i .i64], .segs [.sl (.sl (.int .i64)), .sl (.int .i64), .i .i64], .segs [.sl (.sl (.int .i64)), .sl (.int .i64), .i .i64]]⟩⟩)], run := fun p k => (etexts_l1 N N p.1.1 p.1.2.1 p.1.2.2.2.2.2.1 p.1.2.2.2.2.2.2.1 p.1.2.2.2.2.2.2.2.1 p.1.2.2.2.2.2.2.2.2.1 p.2.1.1 p.2.1.2.1 p.2.1.2.2.1 p.2.2.1.1 p.2.2.1.2.1 p.2.2.1.2.2.1 p.2.2.2.1.1 p.2.2.2.1.2.1 p.2.2.2.1.2.2.1).bind fun e => match e with | .inl x => k (.inl ((), ())) | .inr x => k (.inr (.inl ((x.1, x.2.1, (), (), (), ()), ((x.2.2.1, x.2.2.2.1, x.2.2.2.2.1, ()), (x.2.2.2.2.2.1, x.2.2.2.2.2.2.1, x.2.2.2.2.2.2.2.1, ()), (x.2.2.2.2.2.2.2.2.1, x.2.2.2.2.2.2.2.2.2.1, x.2.2.2.2.2.2.2.2.2.2, ()), ())))) }
theorem etexts_l1_eq (N n_ : Nat) (a : Int) (b : Int) (want : List (Int × Int)) (u : List (Int × Int)) (u2 : Int) (u3 : Int) (x : List (List Int)) (x2 : List Int) (x3 : Int) (own : List (List Int)) (own2 : List Int) (own3 : Int) (y : List (List Int)) (y2 : List Int) (y3 : Int) : ev (Z := (Unit) ⊕ (Int × Int × List (List Int) × List Int × Int × List (List Int) × List Int × Int × List (List Int) × List Int × Int)) Try.prog (etexts_sp N) etexts_B [] [etexts_l1_h (etexts_l1 N n_), etexts_l1_e0, etexts_l1_e1] none 400 true etexts_l1_at (stL etexts_l1_st ((a, b, (), (), (), want, u, u2, u3, ()), ((x, x2, x3, ()), (own, own2, own3, ()), (y, y2, y3, ()), ()))) (stH etexts_l1_st ((a, b, (), (), (), want, u, u2, u3, ()), ((x, x2, x3, ()), (own, own2, own3, ()), (y, y2, y3, ()), ()))) = etexts_l1 N (n_ + 1) a b want u u2 u3 x x2 x3 own own2 own3 y y2 y3 := by kernel_rfl
theorem etexts_l1_ok (N : Nat) {top : Bool} : LoopOK Try.prog etexts_B.c etexts_B.n etexts_B.m0 top (etexts_l1_L N) := loop_of_ev (Z := (Unit) ⊕ (Int × Int × List (List Int) × List Int × Int × List (List Int) × List Int × Int × List (List Int) × List Int × Int)) (N := N) (fun m p => etexts_l1 N m p.1.1 p.1.2.1 p.1.2.2.2.2.2.1 p.1.2.2.2.2.2.2.1 p.1.2.2.2.2.2.2.2.1 p.1.2.2.2.2.2.2.2.2.1 p.2.1.1 p.2.1.2.1 p.2.1.2.2.1 p.2.2.1.1 p.2.2.1.2.1 p.2.2.1.2.2.1 p.2.2.2.1.1 p.2.2.2.1.2.1 p.2.2.2.1.2.2.1) (fun e => match e with | .inl x => .inl ((), ()) | .inr x => .inr (.inl ((x.1, x.2.1, (), (), (), ()), ((x.2.2.1, x.2.2.2.1, x.2.2.2.2.1, ()), (x.2.2.2.2.2.1, x.2.2.2.2.2.2.1, x.2.2.2.2.2.2.2.1, ()), (x.2.2.2.2.2.2.2.2.1, x.2.2.2.2.2.2.2.2.2.1, x.2.2.2.2.2.2.2.2.2.2, ()), ())))) (fun _ p k => bind_congr_ (etexts_l1 N N p.1.1 p.1.2.1 p.1.2.2.2.2.2.1 p.1.2.2.2.2.2.2.1 p.1.2.2.2.2.2.2.2.1 p.1.2.2.2.2.2.2.2.2.1 p.2.1.1 p.2.1.2.1 p.2.1.2.2.1 p.2.2.1.1 p.2.2.1.2.1 p.2.2.1.2.2.1 p.2.2.2.1.1 p.2.2.2.1.2.1 p.2.2.2.1.2.2.1) _ _ (fun e => by rcases e with x | x <;> rfl)) (fun _ => rfl) (fun m z E Xc hE hX hrec hx => leaf_of_ev (B := etexts_B) (loops := []) (leaves := [etexts_l1_h (etexts_l1 N m), etexts_l1_e0, etexts_l1_e1]) (etexts_all N) mixed trivial hE hX ⟨hrec, (fun p hp => by obtain rfl := Option.some.inj hp; exact hx), (fun p hp => by obtain rfl := Option.some.inj hp; exact hx), trivial⟩ RetOK.no (fun p => etexts_l1_eq N m p.1.1 p.1.2.1 p.1.2.2.2.2.2.1 p.1.2.2.2.2.2.2.1 p.1.2.2.2.2.2.2.2.1 p.1.2.2.2.2.2.2.2.2.1 p.2.1.1 p.2.1.2.1 p.2.1.2.2.1 p.2.2.1.1 p.2.2.1.2.1 p.2.2.1.2.2.1 p.2.2.2.1.1 p.2.2.2.1.2.1 p.2.2.2.1.2.2.1))
abbrev etexts_st : Sta := ⟨[0, 1, 2], ⟨[.agg [.sl (.sl (.int .i64)), .sl (.int .i64), .i .i64], .i .i64, .i .i64], []⟩⟩
theorem etexts_eq (N : Nat) (x : List (List Int)) (x2 : List Int) (x3 : Int) (a : Int) (b : Int) : ev (Z := Bool) Try.prog (etexts_sp N) etexts_B [etexts_l1_L N] [] (some etexts_rt) 400 false [.c [0], .c [1]] (stL etexts_st (((x, x2, x3, ()), a, b, ()), ())) (stH etexts_st (((x, x2, x3, ()), a, b, ()), ())) = etexts_S N x x2 x3 a b := by kernel_rfl
noncomputable def sp_etexts (N : Nat) : Spec := { f := 9, ins := ⟨[.agg [.sl (.sl (.int .i64)), .sl (.int .i64), .i .i64], .i .i64, .i .i64], []⟩, outs := [⟨[.b], []⟩], run := fun p k => (etexts_S N p.1.1.1 p.1.1.2.1 p.1.1.2.2.1 p.1.2.1 p.1.2.2.1).bind fun r => k ((r, ()), ()) }
theorem sp_etexts_ok (N : Nat) : SpecOK Try.prog (sp_etexts N) := fn_sound (B := etexts_B) (loops := [etexts_l1_L N]) (leaves := []) (fun p => etexts_S N p.1.1.1 p.1.1.2.1 p.1.1.2.2.1 p.1.2.1 p.1.2.2.1) (fun r => ((r, ()), ())) etexts_rt (fun _ _ _ => rfl) (fun r z h => by cases h; rfl) Try.func9 (by kernel_rfl) (by kernel_rfl) (by kernel_rfl) rfl rfl (by kernel_rfl) (fun args w => Sem.pv_run _ _ _ (by kernel_rfl) w) (etexts_all N) mixed ⟨etexts_l1_ok N, trivial⟩ (fun z E Xc hE hX hret => trivial) (fun p => etexts_eq N p.1.1.1 p.1.1.2.1 p.1.1.2.2.1 p.1.2.1 p.1.2.2.1)

def copyo_S (N : Nat) (l : List Int) : Option (List Int) :=
  grd (lmI (l.length : Int)) <|
  some (l.take (min l.length (List.replicate (l.length : Int).toNat (0 : Int)).length) ++ (List.replicate (l.length : Int).toNat (0 : Int)).drop (min l.length (List.replicate (l.length : Int).toNat (0 : Int)).length))
def copyeo_S (N : Nat) (e : List (List Int)) (e2 : List Int) (e3 : Int) : Option (List (List Int) × Int × List Int) :=
  (copyr_S N e).bind fun x_1 =>
  (copyo_S N e2).bind fun x_2 =>
  some (x_1, e3, x_2)
def eword_l1 (N : Nat) : Nat → (List (Int × Int)) → Int → Int → (List (List Int)) → (List Int) → Int → (List (List Int)) → Int → (List Int) → Option ((Unit) ⊕ (Unit))
  | 0, _, _, _, _, _, _, _, _, _ => none
  | n_ + 1, u, u2, u3, x, x2, x3, y, y2, y3 =>
    br (decide (u3 < u2))
      (idx u u3 fun x_16 =>
      (least_S N x x2 x3 x_16.1 x_16.2).bind fun (x_17, y_18) =>
      (least_S N y y3 y2 x_16.1 x_16.2).bind fun (x_19, y_20) =>
      (least_S N x x2 x3 x_16.2 x_16.1).bind fun (x_21, y_22) =>
      (count_S N x x2 x3 x_16.1 x_16.2).bind fun (x_23, y_24) =>
      (count_S N x x2 x3 x_16.2 x_16.1).bind fun (x_25, y_26) =>
      br (!decide (y_18 = 0))
        (some (.inl ()))
        (br (!decide (y_20 = 0))
          (some (.inl ()))
          (br (!decide (y_22 = 0))
            (some (.inl ()))
            (br (!decide (y_24 = 0))
              (some (.inl ()))
              (br (!decide (y_26 = 0))
                (some (.inl ()))
                (chk (x_17 + 1) <|
                br (!decide (x_19 = (x_17 + 1)))
                  (chk (x_17 - 1) <|
                  br (!decide (x_19 = (x_17 - 1)))
                    (some (.inl ()))
                    (br (!decide (x_21 = x_17))
                      (some (.inl ()))
                      (br (!decide (x_23 = x_25))
                        (some (.inl ()))
                        (idx x x_16.1 fun x_27 =>
                        chk (x_17 + (x_27.length : Int)) <|
                        idx x x_16.2 fun x_28 =>
                        chk ((x_17 + (x_27.length : Int)) + (x_28.length : Int)) <|
                        chk (((x_17 + (x_27.length : Int)) + (x_28.length : Int)) + (x2.length : Int)) <|
                        br (!decide ((Int.tmod (((x_17 + (x_27.length : Int)) + (x_28.length : Int)) + (x2.length : Int)) 2) = 0))
                          (some (.inl ()))
                          (chk (u3 + 1) <|
                          eword_l1 N n_ u u2 (u3 + 1) x x2 x3 y y2 y3)))))
                  (br (!decide (x_21 = x_17))
                    (some (.inl ()))
                    (br (!decide (x_23 = x_25))
                      (some (.inl ()))
                      (idx x x_16.1 fun x_29 =>
                      chk (x_17 + (x_29.length : Int)) <|
                      idx x x_16.2 fun x_30 =>
                      chk ((x_17 + (x_29.length : Int)) + (x_30.length : Int)) <|
                      chk (((x_17 + (x_29.length : Int)) + (x_30.length : Int)) + (x2.length : Int)) <|
                      br (!decide ((Int.tmod (((x_17 + (x_29.length : Int)) + (x_30.length : Int)) + (x2.length : Int)) 2) = 0))
                        (some (.inl ()))
                        (chk (u3 + 1) <|
                        eword_l1 N n_ u u2 (u3 + 1) x x2 x3 y y2 y3))))))))))
      (some (.inr ()))
def eword_S (N : Nat) (numbers : List Int) (place : Int) (word : Int) : Option Bool :=
  (hang_S N numbers).bind fun (x_1, y_2, y_3) =>
  (made_S N 3 6 9 x_1 y_2 y_3).bind fun (x_4, y_5, y_6, y_7, y_8, y_9) =>
  (copyeo_S N x_4 y_5 y_6).bind fun (x_10, y_11, y_12) =>
  chk ((y_5.length : Int) + 1) <|
  grd (!decide (((y_5.length : Int) + 1) = 0)) <|
  (insert_S N (Int.tmod (IntKind.i64.wrap place) ((y_5.length : Int) + 1)) y_12 [(Int.tmod (IntKind.i64.wrap word) 10)]).bind fun (x_13, y_14) =>
  (lpairs_S N x_4 y_5 y_6).bind fun x_15 =>
  (eword_l1 N N x_15 (x_15.length : Int) 0 x_4 y_5 y_6 x_10 y_11 y_14).bind fun e => match e with
  | .inl _ =>
    some false
  | .inr _ =>
    (awake_S N).bind fun x_31 =>
    some x_31
end Go.Proofs.Ytfcnhnbnjdccfaa

namespace Go.Proofs.Ytfcnhnbnjdccfaa
set_option linter.all false
open Go

section
variable {N : Nat} {T : List (List Int)} {H : List Int} {f : Int}
theorem count_v (hN : 20 ≤ N) (h : Fine T H f) {a b : Int} (ha : 0 ≤ a ∧ a < T.length) (hb : 0 ≤ b ∧ b < T.length) : count_S N T H f a b = some ((tv mayA H (T.getD a.toNat []) (T.getD b.toNat []) (0, 0, 0)).2, 0) := by
  unfold count_S
  obtain ⟨_, _, _, e⟩ := opened_good hN (h.open ha hb)
  rw [e]
  have la := h.l (T.getD a.toNat []) (getD_mem (by omega))
  have lb := h.l (T.getD b.toNat []) (getD_mem (by omega))
  simp only [Option.bind_some, decide_true, Bool.not_true, br_false, all_S]
  rw [firsta_v (by omega) h.h la.2 lb.2]
  rfl
/-! ### The order of both texts -/
theorem cnt_cons (q : Int × Int) (D : List (List (Int × Int))) (v : Int) : ((D.map fun r => q :: r).countP fun r => decide (toldN r = v)) = D.countP fun r => decide (toldN r = v - (if q.1 = 3 then 0 else 1)) := by
  rw [List.countP_map]
  congr 1
  funext r
  simp only [Function.comp]
  rw [show toldN (q :: r) = (if q.1 = 3 then 0 else 1) + toldN r from rfl]
  apply decide_eq_decide.2
  omega
theorem rdx_swap (H A B : List Int) : ∀ (n h i k : Nat) (v : Int), ((rdx H A B n (h, i, k)).countP fun r => decide (toldN r = v)) = (rdx H B A n (h, k, i)).countP fun r => decide (toldN r = v)
  | 0, _, _, _, _ => rfl
  | n + 1, h, i, k, v => by
    unfold rdx movesL
    simp only [List.flatMap_cons, List.flatMap_append, List.flatMap_map, List.countP_append, List.countP_flatMap, Function.comp, cnt_cons]
    rw [rdx_swap H A B n (h + 1) i k]
    have e1 : ∀ j, ((rdx H A B n (h + 1, j + 1, k)).countP fun r => decide (toldN r = v - (if (1 : Int) = 3 then 0 else 1))) = (rdx H B A n (h + 1, k, j + 1)).countP fun r => decide (toldN r = v - (if (2 : Int) = 3 then 0 else 1)) := fun j => rdx_swap H A B n (h + 1) (j + 1) k _
    have e2 : ∀ j, ((rdx H A B n (h + 1, i, j + 1)).countP fun r => decide (toldN r = v - (if (2 : Int) = 3 then 0 else 1))) = (rdx H B A n (h + 1, j + 1, i)).countP fun r => decide (toldN r = v - (if (1 : Int) = 3 then 0 else 1)) := fun j => rdx_swap H A B n (h + 1) i (j + 1) _
    have m1 : ((List.countP fun r => decide (toldN r = v)) ∘ fun (a : Nat) => (rdx H A B n (h + 1, a + 1, k)).map fun r => ((1 : Int), (a : Int)) :: r) = ((List.countP fun r => decide (toldN r = v)) ∘ fun (a : Nat) => (rdx H B A n (h + 1, k, a + 1)).map fun r => ((2 : Int), (a : Int)) :: r) := funext fun a => by
      simp only [Function.comp, cnt_cons]
      exact e1 a
    have m2 : ((List.countP fun r => decide (toldN r = v)) ∘ fun (a : Nat) => (rdx H A B n (h + 1, i, a + 1)).map fun r => ((2 : Int), (a : Int)) :: r) = ((List.countP fun r => decide (toldN r = v)) ∘ fun (a : Nat) => (rdx H B A n (h + 1, a + 1, i)).map fun r => ((1 : Int), (a : Int)) :: r) := funext fun a => by
      simp only [Function.comp, cnt_cons]
      exact e2 a
    rw [m1, m2]
    omega
theorem ways_sym (H A B : List Int) : (tv mayA H A B (0, 0, 0)).2 = (tv mayA H B A (0, 0, 0)).2 := by
  have e1 := rdAll_count (H := H) (A := A) (B := B)
  have e2 := rdAll_count (H := H) (A := B) (B := A)
  have e3 : (tv mayA H A B (0, 0, 0)).1 = (tv mayA H B A (0, 0, 0)).1 := tvx_sym H A B H.length 0 0 0
  rw [e1, e2, e3]
  unfold rdAll
  rw [rdx_swap]
theorem copyo_v {l : List Int} (h : l.length ≤ 1000000) : copyo_S N l = some l := by
  unfold copyo_S
  rw [grd_eq (lmI_iff.2 (by omega))]
  simp
theorem copyeo_v (h : T.length ≤ 1000 ∧ H.length ≤ 1000) (hl : ∀ x ∈ T, x.length ≤ 1000000) (hN : 1010 ≤ N) : copyeo_S N T H f = some (T, f, H) := by
  unfold copyeo_S copyr_S
  rw [grd_eq (lmI_iff.2 (by omega))]
  have := copyr_l1_p (N := N) (u := T) (by omega) hl N 0 (List.replicate (T.length : Int).toNat []) (by omega) (by omega) (by simp) (by simp)
  rw [show ((0 : Nat) : Int) = 0 from rfl] at this
  rw [this]
  simp only [Option.bind_some]
  rw [copyo_v (by omega)]; rfl
theorem eword_l1_p (hN : 20 ≤ N) {p : Nat} {w : Int} (hF : Fine T H f) (hF2 : Fine T (H.take p ++ w :: H.drop p) f) : ∀ (n k : Nat), (prs T.length).length < n + k → k ≤ (prs T.length).length →
    eword_l1 N n (prs T.length) ((prs T.length).length : Int) k T H f T f (H.take p ++ w :: H.drop p) = some (.inr ())
  | 0, k, h, _ => by omega
  | n + 1, k, h, hk => by
    unfold eword_l1
    have hT := hF.n
    have pl := prs_len T.length
    have hT2 : T.length * T.length ≤ 5 * 5 := Nat.mul_le_mul (by omega) (by omega)
    by_cases c : k < (prs T.length).length
    · have hx : (prs T.length).getD k (0, 0) ∈ prs T.length := getD_mem c
      have hx2 := mem_prs.1 hx
      have hk' : (prs T.length)[((k : Nat) : Int).toNat]? = some ((prs T.length).getD k (0, 0)) := by simp [List.getD, c]
      clear hx
      generalize (prs T.length).getD k (0, 0) = q at *
      obtain ⟨a, b⟩ := q
      dsimp only at hx2
      have ha : 0 ≤ a ∧ a < T.length := by omega
      have hb : 0 ≤ b ∧ b < T.length := by omega
      rw [br_dec (by omega), idx_eq (by omega) hk', least_v hN hF ha hb, least_v hN hF2 ha hb, least_v hN hF hb ha, count_v hN hF ha hb, count_v hN hF hb ha]
      simp only [Option.bind_some, decide_true, Bool.not_true, br_false]
      have lA := hF.l (T.getD a.toNat []) (getD_mem (by omega))
      have lB := hF.l (T.getD b.toNat []) (getD_mem (by omega))
      have hH := hF.h
      have hTa : T[a.toNat]? = some (T.getD a.toNat []) := by
        have : a.toNat < T.length := by omega
        simp [List.getD, this]
      have hTb : T[b.toNat]? = some (T.getD b.toNat []) := by
        have : b.toNat < T.length := by omega
        simp [List.getD, this]
      have next := eword_l1_p hN hF hF2 n (k + 1) (by omega) (by omega)
      rw [show ((k + 1 : Nat) : Int) = (k : Int) + 1 by omega] at next
      generalize T.getD a.toNat [] = A at *
      generalize T.getD b.toNat [] = B at *
      have tb := tv_bnd mayA (H := H) lA.2 lB.2
      have lv : leastV H A B = (A.length : Int) + B.length + H.length - 2 * (tv mayA H A B (0, 0, 0)).1 := rfl
      have even : Int.tmod (leastV H A B + (A.length : Int) + (B.length : Int) + (H.length : Int)) 2 = 0 := by
        rw [Int.tmod_eq_emod_of_nonneg (by omega)]; omega
      have tail : (br (!decide (leastV H B A = leastV H A B))
              (some (.inl ()))
              (br (!decide ((tv mayA H A B (0, 0, 0)).2 = (tv mayA H B A (0, 0, 0)).2))
                (some (.inl ()))
                (idx T a fun x_29 =>
                chk (leastV H A B + (x_29.length : Int)) <|
                idx T b fun x_30 =>
                chk ((leastV H A B + (x_29.length : Int)) + (x_30.length : Int)) <|
                chk (((leastV H A B + (x_29.length : Int)) + (x_30.length : Int)) + (H.length : Int)) <|
                br (!decide ((Int.tmod (((leastV H A B + (x_29.length : Int)) + (x_30.length : Int)) + (H.length : Int)) 2) = 0))
                  (some (.inl ()))
                  (chk ((k : Int) + 1) <|
                  eword_l1 N n (prs T.length) ((prs T.length).length : Int) ((k : Int) + 1) T H f T f (H.take p ++ w :: H.drop p))))) = some (.inr ()) := by
        rw [br_nd (leastV_sym H B A), br_nd (ways_sym H A B), idx_eq ha.1 hTa, chk_eq (by omega), idx_eq hb.1 hTb, chk_eq (by omega), chk_eq (by omega), br_nd even, chk_eq (by omega)]
        exact next
      rw [chk_eq (by omega)]
      rcases leastV_word H A B w p with e | e
      · rw [br_nd e]
        exact tail
      · rw [br_nnd (by omega), chk_eq (by omega), br_nd e]
        exact tail
    · rw [br_ndec (by omega)]
theorem eword_true {ns : List Int} {place word : Int} (h0 : (Ty.sl (.int .u8)).inB ns) (h1 : (Ty.int .u8).inB place) (h2 : (Ty.int .u8).inB word) : eword_S 1100 ns place word = some true := by
  have u8 : ∀ {n : Int}, (Ty.int .u8).inB n → 0 ≤ n ∧ n ≤ 255 := fun {n} h => by
    have h1 : IntKind.u8.min = 0 := by decide
    have h2 : IntKind.u8.max = 255 := by decide
    unfold Ty.inB inR at h
    rw [h1, h2] at h
    exact h
  have hp := u8 h1
  have hw := u8 h2
  unfold eword_S hang_S
  simp only [Option.bind_some]
  obtain ⟨T, H, f, b2, b3, e, hb, hT, hn, hH, hl, hf⟩ := made_p (N := 1100) (by omega) (tx := 3) (wo := 6) (he := 9) (by omega) (by omega) (by omega) (b := ns) (b2 := 0) (b3 := 0) ⟨h0.1, by omega, by omega⟩
  rw [e]
  simp only [Option.bind_some]
  have hF : Fine T H f := Fine.of_txt hT (by omega) (by omega) hH (by omega) (by omega)
  rw [copyeo_v (by omega) (fun x hx => by have := hF.l x hx; omega) (by omega)]
  simp only [Option.bind_some]
  rw [chk_eq (by omega), grd_eq (by simp; omega), wrap64 (by omega), wrap64 (by omega)]
  have p1 := Int.tmod_lt_of_pos place (show (0 : Int) < (H.length : Int) + 1 by omega)
  have p2 := Int.tmod_nonneg ((H.length : Int) + 1) hp.1
  have w1 := Int.tmod_lt_of_pos word (show (0 : Int) < 10 by omega)
  have w2 := Int.tmod_nonneg 10 hw.1
  generalize Int.tmod place ((H.length : Int) + 1) = p at *
  generalize Int.tmod word 10 = w at *
  obtain ⟨p, rfl⟩ : ∃ k : Nat, p = k := ⟨p.toNat, by omega⟩
  unfold insert_S
  rw [if_pos ⟨by omega, by omega, by simp, by simp; omega⟩]
  simp only [Option.bind_some, Int.toNat_natCast]
  have hnew : H.take p ++ [w] ++ H.drop p = H.take p ++ w :: H.drop p := by simp
  rw [hnew]
  have hlen : (H.take p ++ w :: H.drop p).length = H.length + 1 := by simp; omega
  have hF2 : Fine T (H.take p ++ w :: H.drop p) f := ⟨hF.n, by omega, hF.l, hF.w, fun x hx => by
    rcases List.mem_append.1 hx with hx | hx
    · exact hF.hw x (List.mem_of_mem_take hx)
    · rcases List.mem_cons.1 hx with rfl | hx
      · omega
      · exact hF.hw x (List.mem_of_mem_drop hx), hF.f⟩
  have pl := prs_len T.length
  have hT2 : T.length * T.length ≤ 5 * 5 := Nat.mul_le_mul (by omega) (by omega)
  rw [lpairs_v (by omega) (by omega)]
  simp only [Option.bind_some]
  have e1 := eword_l1_p (N := 1100) (by omega) hF hF2 1100 0 (by omega) (by omega)
  rw [show ((0 : Nat) : Int) = 0 from rfl] at e1
  rw [e1]
  simp only [Option.bind_some, awake_v]
end
end Go.Proofs.Ytfcnhnbnjdccfaa

namespace Go.Proofs.Ytfcnhnbnjdccfaa
set_option linter.all false
open Go

section
variable {N : Nat} {T : List (List Int)} {H : List Int} {f : Int}
/-- A list without so many words that are not common. -/
def thin : List Int → List Int → Nat → List Int
  | l, _, 0 => l
  | [], _, _ + 1 => []
  | x :: l, y :: c, m + 1 => if x = y then x :: thin l c (m + 1) else thin l (y :: c) m
  | _ :: l, [], m + 1 => thin l [] m
theorem thin_sub : ∀ (l c : List Int) (m : Nat), (thin l c m).Sublist l
  | l, _, 0 => by unfold thin; exact List.Sublist.refl _
  | [], _, _ + 1 => by unfold thin; exact List.Sublist.refl _
  | x :: l, y :: c, m + 1 => by
    unfold thin
    split
    · exact (thin_sub l c (m + 1)).cons_cons x
    · exact (thin_sub l (y :: c) m).cons x
  | x :: l, [], m + 1 => by unfold thin; exact (thin_sub l [] m).cons x
theorem thin_keep : ∀ (l c : List Int) (m : Nat), c.Sublist l → c.Sublist (thin l c m)
  | l, c, 0, h => by unfold thin; exact h
  | [], c, m + 1, h => by unfold thin; exact h
  | x :: l, y :: c, m + 1, h => by
    unfold thin
    by_cases e : x = y
    · rw [if_pos e]
      subst e
      refine (thin_keep l c (m + 1) ?_).cons_cons x
      cases h with
      | cons _ h => exact (List.sublist_cons_self x c).trans h
      | cons_cons _ h => exact h
    · rw [if_neg e]
      refine thin_keep l (y :: c) m ?_
      cases h with
      | cons _ h => exact h
      | cons_cons _ h => exact absurd rfl e
  | x :: l, [], m + 1, h => List.nil_sublist _
theorem thin_len : ∀ (l c : List Int) (m : Nat), c.Sublist l → m + c.length ≤ l.length → (thin l c m).length + m = l.length
  | l, c, 0, h, _ => by unfold thin; rfl
  | [], c, m + 1, h, hl => by simp at hl
  | x :: l, y :: c, m + 1, h, hl => by
    unfold thin
    simp only [List.length_cons] at hl
    by_cases e : x = y
    · rw [if_pos e]
      subst e
      have h' : c.Sublist l := by
        cases h with
        | cons _ h => exact (List.sublist_cons_self x c).trans h
        | cons_cons _ h => exact h
      have := thin_len l c (m + 1) h' (by omega)
      simp only [List.length_cons]; omega
    · rw [if_neg e]
      have h' : (y :: c).Sublist l := by
        cases h with
        | cons _ h => exact h
        | cons_cons _ h => exact absurd rfl e
      have := thin_len l (y :: c) m h' (by simp only [List.length_cons]; omega)
      simp only [List.length_cons]; omega
  | x :: l, [], m + 1, h, hl => by
    unfold thin
    simp only [List.length_cons, List.length_nil] at hl
    have := thin_len l [] m (List.nil_sublist _) (by simp only [List.length_nil]; omega)
    simp only [List.length_cons]; omega
theorem thinned_l1_p {c0 : List Int} (hc0 : c0.length ≤ 100) : ∀ (n : Nat) (p r c : List Int) (m k : Nat), p.length + r.length ≤ 100 → r.length < n → k ≤ c0.length → c0.drop k = c → m ≤ 100 →
    thinned_l1 N n c0 m p.length k (p ++ r) = some (p ++ thin r c m)
  | 0, p, r, c, m, k, _, h, _, _, _ => by omega
  | n + 1, p, r, c, m, k, hl, h, hk, hc, hm => by
    unfold thinned_l1
    cases r with
    | nil =>
      rw [br_ndec (by simp)]
      have : thin [] c m = [] := by cases m <;> (unfold thin; rfl)
      rw [this]
    | cons x r =>
      simp only [List.length_cons] at hl h
      rw [br_dec (by simp; omega)]
      cases m with
      | zero =>
        rw [br_ndec (by simp)]
        unfold thin; rfl
      | succ m =>
        rw [br_dec (by omega)]
        have hget : (p ++ x :: r)[((p.length : Nat) : Int).toNat]? = some x := by simp
        have hdel : delete_S N (p.length : Int) ((p.length : Int) + 1) (p ++ x :: r) = some (p ++ r) := by
          unfold delete_S
          rw [if_pos ⟨by omega, by omega, by simp; omega, by simp; omega⟩]
          rw [show ((p.length : Int)).toNat = p.length by omega, show ((p.length : Int) + 1).toNat = p.length + 1 by omega, List.take_left, List.drop_length_add_append]
          simp
        by_cases hkc : k < c0.length
        · have hck : c0[((k : Nat) : Int).toNat]? = some (c0.getD k 0) := by simp [List.getD, hkc]
          have hd := drop_cons hkc
          rw [hc] at hd
          generalize c0.getD k 0 = y at *
          rw [br_dec (by omega), rng_eq (by simp; omega), get_eq hget, idx_eq (by omega) hck, hd]
          unfold thin
          by_cases e : x = y
          · rw [br_dec e, if_pos e, chk_eq (by omega), chk_eq (by omega)]
            have := thinned_l1_p hc0 n (p ++ [x]) r (c0.drop (k + 1)) (m + 1) (k + 1) (by simp; omega) (by omega) (by omega) rfl (by omega)
            rw [show (((p ++ [x]).length : Nat) : Int) = (p.length : Int) + 1 by simp, show ((k + 1 : Nat) : Int) = (k : Int) + 1 by omega] at this
            simpa using this
          · rw [br_ndec e, if_neg e, chk_eq (by omega), hdel]
            simp only [Option.bind_some]
            rw [chk_eq (by omega), show ((m + 1 : Nat) : Int) - 1 = (m : Int) by omega]
            exact thinned_l1_p hc0 n p r (y :: c0.drop (k + 1)) m k (by omega) (by omega) hk (by rw [← hd, hc]) (by omega)
        · have hd : c = [] := by rw [← hc, List.drop_of_length_le (by omega)]
          subst hd
          rw [br_ndec (by omega), chk_eq (by omega), hdel]
          simp only [Option.bind_some]
          rw [chk_eq (by omega), show ((m + 1 : Nat) : Int) - 1 = (m : Int) by omega]
          unfold thin
          exact thinned_l1_p hc0 n p r [] m k (by omega) (by omega) hk hc (by omega)
theorem thinned_v {l c : List Int} {m : Nat} (hl : l.length ≤ 50) (hc : c.length ≤ 50) (hm : m ≤ 50) (hN : 100 ≤ N) : thinned_S N l c m = some (thin l c m) := by
  unfold thinned_S
  rw [grd_eq (lmI_iff.2 (by omega))]
  have := thinned_l1_p (N := N) (c0 := c) (by omega) N [] l c m 0 (by simp; omega) (by omega) (by omega) rfl (by omega)
  simp only [List.length_nil, List.nil_append, Int.natCast_zero, show ((0 : Nat) : Int) = 0 from rfl] at this
  have e : l.take (min l.length (List.replicate (l.length : Int).toNat (0 : Int)).length) ++ (List.replicate (l.length : Int).toNat (0 : Int)).drop (min l.length (List.replicate (l.length : Int).toNat (0 : Int)).length) = l := by simp
  rw [e, this]; rfl
/-- Words between two texts. -/
def midV (A B : List Int) : List Int := if distI A B / 2 ≤ (A.length : Int) - (cw A B).length then thin A (cw A B) (distI A B / 2).toNat else thin B (cw A B) (distI A B - distI A B / 2).toNat
theorem lc_of_sub {a b : List Int} (h : a.Sublist b) : lc a b = a.length := by
  have h1 := lc_max a b a (List.Sublist.refl _) h
  have h2 := lc_le_left a b
  omega
theorem mid_ok {A B : List Int} : distI (midV A B) A ≤ (distI A B + 1) / 2 ∧ distI (midV A B) B ≤ (distI A B + 1) / 2 ∧ ((midV A B).length ≤ A.length ∨ (midV A B).length ≤ B.length) ∧ ∀ x ∈ midV A B, x ∈ A ∨ x ∈ B := by
  obtain ⟨s1, s2, s3⟩ := cw_spec A B
  have d0 : distI A B = (A.length : Int) + B.length - 2 * (cw A B).length := rfl
  have a1 := s1.length_le
  have b1 := s2.length_le
  unfold midV
  by_cases c : distI A B / 2 ≤ (A.length : Int) - (cw A B).length
  · rw [if_pos c]
    have k1 := thin_sub A (cw A B) (distI A B / 2).toNat
    have k2 := thin_keep A (cw A B) (distI A B / 2).toNat s1
    have k3 := thin_len A (cw A B) (distI A B / 2).toNat s1 (by omega)
    generalize thin A (cw A B) (distI A B / 2).toNat = K at *
    have e1 := lc_of_sub k1
    have e2 := lc_max K B (cw A B) k2 s2
    refine ⟨?_, ?_, .inl (by omega), fun x hx => .inl (k1.subset hx)⟩
    · rw [distI_eq K A, e1]; omega
    · rw [distI_eq K B]; omega
  · rw [if_neg c]
    have k1 := thin_sub B (cw A B) (distI A B - distI A B / 2).toNat
    have k2 := thin_keep B (cw A B) (distI A B - distI A B / 2).toNat s2
    have k3 := thin_len B (cw A B) (distI A B - distI A B / 2).toNat s2 (by omega)
    generalize thin B (cw A B) (distI A B - distI A B / 2).toNat = K at *
    have e1 := lc_of_sub k1
    have e2 := lc_max K A (cw A B) k2 s1
    refine ⟨?_, ?_, .inr (by omega), fun x hx => .inr (k1.subset hx)⟩
    · rw [distI_eq K A]; omega
    · rw [distI_eq K B, e1]; omega
theorem tdiv2 {n : Int} (h : 0 ≤ n ∧ n ≤ 1000) : IntKind.i64.wrap (Int.tdiv n 2) = n / 2 := by
  rw [Int.tdiv_eq_ediv_of_nonneg h.1, wrap64 (by omega)]
theorem middle_v (hN : 100 ≤ N) (h : Fine T H f) {a b : Int} (ha : 0 ≤ a ∧ a < T.length) (hb : 0 ≤ b ∧ b < T.length) : middle_S N T H f a b = some (midV (T.getD a.toNat []) (T.getD b.toNat []), 0) := by
  unfold middle_S
  obtain ⟨_, _, _, e⟩ := opened_good (N := N) (by omega) (h.open ha hb)
  rw [e]
  have la := h.l (T.getD a.toNat []) (getD_mem (by omega))
  have lb := h.l (T.getD b.toNat []) (getD_mem (by omega))
  simp only [Option.bind_some, decide_true, Bool.not_true, br_false]
  generalize T.getD a.toNat [] = A at *
  generalize T.getD b.toNat [] = B at *
  obtain ⟨s1, s2, s3⟩ := cw_spec A B
  have a1 := s1.length_le
  have b1 := s2.length_le
  have d0 : distI A B = (A.length : Int) + B.length - 2 * (cw A B).length := rfl
  rw [common_v (by omega) la.2 lb.2]
  simp only [Option.bind_some]
  rw [chk_eq (by omega), chk_eq (by omega), chk_eq (by omega), show ((A.length : Int) - ((cw A B).length : Int)) + ((B.length : Int) - ((cw A B).length : Int)) = distI A B by omega, tdiv2 (by omega)]
  unfold midV
  by_cases c : distI A B / 2 ≤ (A.length : Int) - (cw A B).length
  · rw [br_dec c, if_pos c]
    have := thinned_v (N := N) (l := A) (c := cw A B) (m := (distI A B / 2).toNat) (by omega) (by omega) (by omega) hN
    rw [show (((distI A B / 2).toNat : Nat) : Int) = distI A B / 2 by omega] at this
    rw [this]; rfl
  · rw [br_ndec c, if_neg c, chk_eq (by omega), chk_eq (by omega), chk_eq (by omega)]
    have := thinned_v (N := N) (l := B) (c := cw A B) (m := (distI A B - distI A B / 2).toNat) (by omega) (by omega) (by omega) hN
    rw [show (((distI A B - distI A B / 2).toNat : Nat) : Int) = distI A B - distI A B / 2 by omega] at this
    rw [this]; rfl
theorem middle_bad (hN : 20 ≤ N) {a b : Int} (h : openE T H f a b ≠ 0) : middle_S N T H f a b = some ([], openE T H f a b) := by
  unfold middle_S
  rw [opened_bad hN h]
  simp [h, br]
theorem commons_v (hN : 20 ≤ N) (h : Fine T H f) {a b : Int} (ha : 0 ≤ a ∧ a < T.length) (hb : 0 ≤ b ∧ b < T.length) : commons_S N T H f a b = some (cw (T.getD a.toNat []) (T.getD b.toNat []), 0) := by
  unfold commons_S
  obtain ⟨_, _, _, e⟩ := opened_good hN (h.open ha hb)
  rw [e]
  have la := h.l (T.getD a.toNat []) (getD_mem (by omega))
  have lb := h.l (T.getD b.toNat []) (getD_mem (by omega))
  simp only [Option.bind_some, decide_true, Bool.not_true, br_false]
  rw [common_v hN la.2 lb.2]; rfl
theorem commons_bad (hN : 20 ≤ N) {a b : Int} (h : openE T H f a b ≠ 0) : commons_S N T H f a b = some ([], openE T H f a b) := by
  unfold commons_S
  rw [opened_bad hN h]
  simp [h, br]
/-! ### Whether words stand in others in their order -/
theorem efar1_l1_p {I : List Int} (hI : I.length ≤ 1000) : ∀ (n k : Nat) (l : List Int), I.length < n + k → k ≤ I.length → l.length ≤ 1000 → l.Sublist (I.drop k) → efar1_l1 N n l I (I.length : Int) k = some []
  | 0, k, l, h, _, _, _ => by omega
  | n + 1, k, l, h, hk, hl, hs => by
    unfold efar1_l1
    by_cases c : k < I.length
    · have hd := drop_cons c
      have hk' : I[((k : Nat) : Int).toNat]? = some (I.getD k 0) := by simp [List.getD, c]
      rw [hd] at hs
      generalize I.getD k 0 = w at *
      rw [br_dec (by omega), idx_eq (by omega) hk']
      have next := fun l' hl' hs' => efar1_l1_p hI n (k + 1) l' (by omega) (by omega) hl' hs'
      rw [show ((k + 1 : Nat) : Int) = (k : Int) + 1 by omega] at next
      cases l with
      | nil =>
        rw [br_ndec (by simp)]
        unfold efar1_j1
        rw [chk_eq (by omega)]
        exact next [] (by simp) (List.nil_sublist _)
      | cons x l =>
        simp only [List.length_cons] at hl
        rw [br_dec (by simp), idx_eq (a := x) (by omega) (by simp)]
        by_cases e : x = w
        · subst e
          rw [br_dec rfl, grd_eq (by simp; omega)]
          unfold efar1_j1
          rw [chk_eq (by omega), List.drop_succ_cons, List.drop_zero]
          refine next l (by omega) ?_
          cases hs with
          | cons _ h => exact (List.sublist_cons_self x l).trans h
          | cons_cons _ h => exact h
        · rw [br_ndec e]
          unfold efar1_j1
          rw [chk_eq (by omega)]
          refine next (x :: l) (by simp only [List.length_cons]; omega) ?_
          cases hs with
          | cons _ h => exact h
          | cons_cons _ h => exact absurd rfl e
    · rw [br_ndec (by omega)]
      rw [List.drop_of_length_le (by omega)] at hs
      rw [List.sublist_nil.1 hs]
theorem efar1_v {l I : List Int} (hI : I.length ≤ 1000) (hN : I.length < N) (hs : l.Sublist I) : efar1_S N l I = some true := by
  unfold efar1_S
  have := hs.length_le
  have := efar1_l1_p (N := N) hI N 0 l (by omega) (by omega) (by omega) (by simpa using hs)
  rw [show ((0 : Nat) : Int) = 0 from rfl] at this
  rw [this]; rfl
theorem efar_l3_p (hN : 20 ≤ N) (h : Fine T H f) {a b : Nat} {s t k : List Int} {u u4 : List (List Int)} {u2 u3 u5 u6 : Int} (ha : a < T.length) (hb : b < T.length) : ∀ (n j : Nat), T.length < n + j → j ≤ T.length →
    efar_l3 N n a s b t (distI (T.getD a []) (T.getD b [])) k u u2 u3 u4 u5 u6 (T.length : Int) j T H f = some (.inr (a, s, t, distI (T.getD a []) (T.getD b []), k, u, u2, u3, u4, u5, u6, T, H, f))
  | 0, j, h1, _ => by omega
  | n + 1, j, h1, h2 => by
    unfold efar_l3
    have hT := h.n
    by_cases c : j < T.length
    · have la := h.l (T.getD a []) (getD_mem ha)
      have lb := h.l (T.getD b []) (getD_mem hb)
      have lj := h.l (T.getD j []) (getD_mem c)
      have tri := distI_tri (T.getD a []) (T.getD j []) (T.getD b [])
      have n1 := distI_nonneg (T.getD a []) (T.getD j [])
      have n2 := distI_nonneg (T.getD j []) (T.getD b [])
      have m1 : distI (T.getD a []) (T.getD j []) ≤ 12 := by unfold distI; omega
      have m2 : distI (T.getD j []) (T.getD b []) ≤ 12 := by unfold distI; omega
      rw [br_dec (by omega), dist_v hN h (by omega) (by omega), dist_v hN h (by omega) (by omega)]
      simp only [Option.bind_some, decide_true, Bool.not_true, br_false, Int.toNat_natCast]
      rw [chk_eq (by omega), br_ndec (by omega), chk_eq (by omega)]
      have next := efar_l3_p hN h (s := s) (t := t) (k := k) (u := u) (u2 := u2) (u3 := u3) (u4 := u4) (u5 := u5) (u6 := u6) ha hb n (j + 1) (by omega) (by omega)
      rw [show ((j + 1 : Nat) : Int) = (j : Int) + 1 by omega] at next
      exact next
    · rw [br_ndec (by omega)]
theorem br_same {Z : Type} {c d : Bool} {E X : Option Z} (h : c = true → d = true) : br c (br (!d) E X) X = X := by
  cases c with
  | false => rfl
  | true => rw [h rfl]; rfl
theorem efar_l2_p (hN : 120 ≤ N) (h : Fine T H f) {a : Nat} {u : List (List Int)} {u2 u3 : Int} (ha : a < T.length) : ∀ (n j : Nat), T.length < n + j → j ≤ T.length →
    efar_l2 N n a (T.getD a []) u u2 u3 T (T.length : Int) j T H f = some (.inr (.inr (.inr (.inr (u, u2, u3, T, H, f)))))
  | 0, j, h1, _ => by omega
  | n + 1, j, h1, h2 => by
    unfold efar_l2
    have hT := h.n
    by_cases c : j < T.length
    · have la := h.l (T.getD a []) (getD_mem ha)
      have lj := h.l (T.getD j []) (getD_mem c)
      have wa := h.w (T.getD a []) (getD_mem ha)
      have wj := h.w (T.getD j []) (getD_mem c)
      have next := efar_l2_p hN h (u := u) (u2 := u2) (u3 := u3) ha n (j + 1) (by omega) (by omega)
      rw [show ((j + 1 : Nat) : Int) = (j : Int) + 1 by omega] at next
      have l3 := fun (k : List Int) => efar_l3_p (N := N) (by omega) h (s := T.getD a []) (t := T.getD j []) (k := k) (u := u) (u2 := u2) (u3 := u3) (u4 := T) (u5 := (T.length : Int)) (u6 := (j : Int)) ha c N 0 (by omega) (by omega)
      rw [show ((0 : Nat) : Int) = 0 from rfl] at l3
      have hTj : T[((j : Nat) : Int).toNat]? = some (T.getD j []) := by simp [List.getD, c]
      rw [br_dec (by omega), idx_eq (by omega) hTj, dist_v (by omega) h (by omega) (by omega), dist_v (by omega) h (by omega) (by omega), commons_v (by omega) h (by omega) (by omega), middle_v (by omega) h (by omega) (by omega)]
      simp only [Option.bind_some, decide_true, Bool.not_true, br_false, Int.toNat_natCast]
      rw [br_nd (distI_symm _ _), br_same (fun e => by
        simp only [decide_eq_true_eq] at e ⊢
        have : a = j := by omega
        subst this; exact distI_self _)]
      obtain ⟨s1, s2, s3⟩ := cw_spec (T.getD a []) (T.getD j [])
      obtain ⟨m1, m2, m3, m4⟩ := mid_ok (A := T.getD a []) (B := T.getD j [])
      have n0 := distI_nonneg (T.getD a []) (T.getD j [])
      have d0 : distI (T.getD a []) (T.getD j []) = ((T.getD a []).length : Int) + (T.getD j []).length - 2 * (cw (T.getD a []) (T.getD j [])).length := rfl
      have a1 := s1.length_le
      have b1 := s2.length_le
      rw [chk_eq (by omega), chk_eq (by omega), chk_eq (by omega), br_nd d0, efar1_v (by omega) (by omega) s1]
      simp only [Option.bind_some, Bool.not_true, br_false]
      rw [efar1_v (by omega) (by omega) s2]
      simp only [Option.bind_some, Bool.not_true, br_false]
      rw [l3]
      simp only [Option.bind_some]
      have hF2 : (midV (T.getD a []) (T.getD j [])).length ≠ 0 → Fine [midV (T.getD a []) (T.getD j []), T.getD a [], T.getD j []] [] 0 := by
        intro hk
        refine ⟨by simp, by simp, fun x hx => ?_, fun x hx => ?_, InR.nil, by omega⟩
        · simp only [List.mem_cons, List.not_mem_nil, or_false] at hx
          rcases hx with rfl | rfl | rfl
          · omega
          · exact la
          · exact lj
        · simp only [List.mem_cons, List.not_mem_nil, or_false] at hx
          rcases hx with rfl | rfl | rfl
          · intro y hy
            rcases m4 y hy with h | h
            · exact wa y h
            · exact wj y h
          · exact wa
          · exact wj
      generalize midV (T.getD a []) (T.getD j []) = K at *
      have hn2 : distI (T.getD a []) (T.getD j []) ≤ 12 := by omega
      by_cases k0 : (K.length : Int) = 0
      · have hK : K = [] := List.eq_nil_of_length_eq_zero (by omega)
        subst hK
        have e1 : distI [] (T.getD a []) = (T.getD a []).length := by unfold distI; cases (T.getD a []) <;> simp [cw]
        have e2 : distI [] (T.getD j []) = (T.getD j []).length := by unfold distI; cases (T.getD j []) <;> simp [cw]
        rw [br_dec k0, br_dec k0, chk_eq (by omega), tdiv2 (by omega), br_ndec (by omega), chk_eq (by omega), br_ndec (by omega)]
        unfold efar_j1
        rw [chk_eq (by omega)]
        exact next
      · have hY := hF2 (by omega)
        rw [br_ndec k0, br_ndec (by omega), dist_v (by omega) hY (by simp) (by simp), dist_v (by omega) hY (by simp) (by simp)]
        have e1 : ([K, T.getD a [], T.getD j []] : List (List Int)).getD (0 : Int).toNat [] = K := rfl
        have e2 : ([K, T.getD a [], T.getD j []] : List (List Int)).getD (1 : Int).toNat [] = T.getD a [] := rfl
        have e3 : ([K, T.getD a [], T.getD j []] : List (List Int)).getD (2 : Int).toNat [] = T.getD j [] := rfl
        rw [e1, e2, e3]
        simp only [Option.bind_some, decide_true, Bool.not_true, br_false]
        rw [chk_eq (by omega), tdiv2 (by omega), br_ndec (by omega), chk_eq (by omega), br_ndec (by omega)]
        unfold efar_j1
        rw [chk_eq (by omega)]
        exact next
    · rw [br_ndec (by omega)]
theorem efar_l1_p (hN : 120 ≤ N) (h : Fine T H f) : ∀ (n j : Nat), T.length < n + j → j ≤ T.length → efar_l1 N n T (T.length : Int) j T H f = some (.inr (.inr (.inr (.inr ()))))
  | 0, j, h1, _ => by omega
  | n + 1, j, h1, h2 => by
    unfold efar_l1
    have hT := h.n
    by_cases c : j < T.length
    · have hTj : T[((j : Nat) : Int).toNat]? = some (T.getD j []) := by simp [List.getD, c]
      have e := efar_l2_p hN h (u := T) (u2 := (T.length : Int)) (u3 := (j : Int)) c N 0 (by omega) (by omega)
      rw [show ((0 : Nat) : Int) = 0 from rfl] at e
      rw [br_dec (by omega), idx_eq (by omega) hTj, e]
      simp only [Option.bind_some]
      rw [chk_eq (by omega)]
      have next := efar_l1_p hN h n (j + 1) (by omega) (by omega)
      rw [show ((j + 1 : Nat) : Int) = (j : Int) + 1 by omega] at next
      exact next
    · rw [br_ndec (by omega)]
theorem efar_true {ns : List Int} (h1 : ns.length ≤ 9223372036854775807) : efar_S 1100 ns = some true := by
  unfold efar_S hang_S
  simp only [Option.bind_some]
  obtain ⟨T, H, f, b2, b3, e, hb, hT, hn, hH, hl, hf⟩ := made_p (N := 1100) (by omega) (tx := 4) (wo := 6) (he := 0) (by omega) (by omega) (by omega) (b := ns) (b2 := 0) (b3 := 0) ⟨h1, by omega, by omega⟩
  rw [e]
  simp only [Option.bind_some]
  have hF : Fine T H f := Fine.of_txt hT (by omega) hn hH (by omega) (by omega)
  have e1 := efar_l1_p (N := 1100) (by omega) hF 1100 0 (by omega) (by omega)
  rw [show ((0 : Nat) : Int) = 0 from rfl] at e1
  rw [e1]
  simp only [Option.bind_some, awake_v]
end
end Go.Proofs.Ytfcnhnbnjdccfaa

namespace Go.Proofs.Ytfcnhnbnjdccfaa
set_option linter.all false
open Go

section
variable {N : Nat} {T : List (List Int)} {H : List Int} {f : Int}
theorem rfar_R_p : ∀ (n : Nat) (a b : List Int), a.length + b.length < n → a.length + b.length ≤ 1000 → rfar_R N n a b = some (distI a b)
  | 0, a, b, h, _ => by omega
  | n + 1, a, b, h, hl => by
    show rfar_S N (rfar_R N n) a b = _
    unfold rfar_S
    rw [distI_eq]
    cases a with
    | nil =>
      rw [br_dec (by simp), chk_eq (by simp only [List.length_nil] at *; omega)]
      simp [lc]
    | cons x a =>
      cases b with
      | nil =>
        rw [br_ndec (by simp; omega), br_dec (by simp), chk_eq (by simp only [List.length_nil] at *; omega)]
        rw [lc_nil_right]; simp
      | cons y b =>
        simp only [List.length_cons] at h hl
        rw [br_ndec (by simp; omega), br_ndec (by simp; omega), grd_eq (by simp; omega), List.drop_succ_cons, List.drop_zero, rfar_R_p n a (y :: b) (by simp only [List.length_cons]; omega) (by simp only [List.length_cons]; omega)]
        simp only [Option.bind_some]
        rw [grd_eq (by simp; omega), List.drop_succ_cons, List.drop_zero, rfar_R_p n (x :: a) b (by simp only [List.length_cons]; omega) (by simp only [List.length_cons]; omega)]
        simp only [Option.bind_some]
        have l1 := lc_le_left a (y :: b)
        have l2 := lc_le_left (x :: a) b
        have l4 := lc_le_left a b
        have t1 := lc_tail a b y
        have t2 := lc_tail b a x
        rw [lc_symm b (x :: a), lc_symm b a] at t2
        have d1 := distI_eq a (y :: b)
        have d2 := distI_eq (x :: a) b
        have d3 := distI_eq a b
        have n1 := distI_nonneg a (y :: b)
        have n2 := distI_nonneg (x :: a) b
        simp only [List.length_cons] at d1 d2 l1 l2
        rw [chk_eq (by omega), idx_eq (a := x) (by omega) (by simp), idx_eq (a := y) (by omega) (by simp)]
        by_cases e : x = y
        · rw [br_dec e, grd_eq (by simp; omega), grd_eq (by simp; omega), rfar_R_p n a b (by omega) (by omega)]
          simp only [Option.bind_some, Option.some.injEq, List.length_cons]
          have : lc (x :: a) (y :: b) = lc a b + 1 := by subst e; simp [lc]; omega
          rw [this]
          omega
        · rw [br_ndec e]
          simp only [Option.some.injEq, List.length_cons]
          have : lc (x :: a) (y :: b) = max (lc a (y :: b)) (lc (x :: a) b) := by simp [lc, e]
          rw [this]
          omega
theorem rfar_v {a b : List Int} (h : a.length + b.length < N) (hl : a.length + b.length ≤ 1000) : rfar_R N N a b = some (distI a b) := rfar_R_p N a b h hl
theorem within_l1_p {l I : List Int} (hI : I.length ≤ 1000) (hl : l.length ≤ 1000) : ∀ (n k p : Nat), I.length < n + k → k ≤ I.length → p ≤ l.length → (l.drop p).Sublist (I.drop k) → within_l1 N n l I p k = some (l, (l.length : Int))
  | 0, k, p, h, _, _, _ => by omega
  | n + 1, k, p, h, hk, hp, hs => by
    unfold within_l1
    by_cases c : k < I.length
    · rw [br_dec (by omega)]
      by_cases d : p < l.length
      · have hd := drop_cons c
        have hd2 := drop_cons d
        have hk' : I[((k : Nat) : Int).toNat]? = some (I.getD k 0) := by simp [List.getD, c]
        have hp' : l[((p : Nat) : Int).toNat]? = some (l.getD p 0) := by simp [List.getD, d]
        rw [hd, hd2] at hs
        generalize I.getD k 0 = w at *
        generalize l.getD p 0 = y at *
        rw [br_dec (by omega), idx_eq (by omega) hk', idx_eq (by omega) hp']
        by_cases e : w = y
        · subst e
          rw [br_dec rfl, chk_eq (by omega)]
          unfold within_j1
          rw [chk_eq (by omega)]
          have := within_l1_p hI hl n (k + 1) (p + 1) (by omega) (by omega) (by omega) (by
            cases hs with
            | cons _ h => exact (List.sublist_cons_self w _).trans h
            | cons_cons _ h => exact h)
          rw [show ((k + 1 : Nat) : Int) = (k : Int) + 1 by omega, show ((p + 1 : Nat) : Int) = (p : Int) + 1 by omega] at this
          exact this
        · rw [br_ndec e]
          unfold within_j1
          rw [chk_eq (by omega)]
          have := within_l1_p hI hl n (k + 1) p (by omega) (by omega) hp (by
            rw [hd2]
            cases hs with
            | cons _ h => exact h
            | cons_cons _ h => exact absurd rfl e)
          rw [show ((k + 1 : Nat) : Int) = (k : Int) + 1 by omega] at this
          exact this
      · rw [br_ndec (by omega)]
        congr 2; omega
    · rw [br_ndec (by omega)]
      rw [List.drop_of_length_le (l := I) (by omega)] at hs
      have := congrArg List.length (List.sublist_nil.1 hs)
      rw [List.length_drop] at this
      simp only [List.length_nil] at this
      congr 2; omega
theorem within_v {l I : List Int} (hI : I.length ≤ 1000) (hN : I.length < N) (hs : l.Sublist I) : within_S N l I = some true := by
  unfold within_S
  have := hs.length_le
  have := within_l1_p (N := N) (l := l) hI (by omega) N 0 0 (by omega) (by omega) (by omega) (by simpa using hs)
  rw [show ((0 : Nat) : Int) = 0 from rfl] at this
  rw [this]
  simp
theorem rconf_l2_p (hN : 20 ≤ N) (h : Fine T H f) {a s : Nat} {O : List (Int × Int)} (ha : a < T.length) (hO : O.length ≤ 1000) : ∀ (n k : Nat), T.length < n + k → s ≤ k → k ≤ T.length →
    rconf_l2 N n a k T H f (O ++ rowTo (cE T f) a s k) = some ((a : Int), T, H, f, O ++ rowTo (cE T f) a s T.length)
  | 0, k, h1, h2, h3 => by omega
  | n + 1, k, h1, h2, h3 => by
    unfold rconf_l2
    have hT := h.n
    have hf := h.f
    by_cases c : k < T.length
    · have la := h.l (T.getD a []) (getD_mem ha)
      have lk := h.l (T.getD k []) (getD_mem c)
      have hTa : T[((a : Nat) : Int).toNat]? = some (T.getD a []) := by simp [List.getD, ha]
      have hTk : T[((k : Nat) : Int).toNat]? = some (T.getD k []) := by simp [List.getD, c]
      rw [br_dec (by omega), idx_eq (by omega) hTa, idx_eq (by omega) hTk, rfar_v (by omega) (by omega)]
      simp only [Option.bind_some]
      rw [chk_eq (by omega)]
      have rl := rowTo_len (cE T f) a s k
      have next := rconf_l2_p hN h (s := s) ha hO n (k + 1) (by omega) (by omega) (by omega)
      rw [show ((k + 1 : Nat) : Int) = (k : Int) + 1 by omega] at next
      by_cases d : distI (T.getD a []) (T.getD k []) ≤ 2 * f
      · rw [br_dec d, lim_eq (by simp; omega)]
        unfold rconf_j1
        rw [chk_eq (by omega), List.append_assoc, ← rowTo_yes h2 (by simpa [cE] using d)]
        exact next
      · rw [br_ndec d]
        unfold rconf_j1
        rw [chk_eq (by omega), ← rowTo_no (p := cE T f) (a := a) h2 (by simpa [cE] using d)]
        exact next
    · have e : k = T.length := by omega
      rw [br_ndec (by omega), e]
theorem rconf_l1_p (hN : 20 ≤ N) (h : Fine T H f) : ∀ (n k : Nat), T.length < n + k → k ≤ T.length → rconf_l1 N n k T H f (allTo (cE T f) T.length 1 k) = some (allTo (cE T f) T.length 1 T.length)
  | 0, k, h1, h2 => by omega
  | n + 1, k, h1, h2 => by
    unfold rconf_l1
    have hT := h.n
    by_cases c : k < T.length
    · have al := allTo_len (cE T f) T.length 1 k
      have : k * T.length ≤ 5 * 5 := Nat.mul_le_mul (by omega) (by omega)
      rw [br_dec (by omega), chk_eq (by omega)]
      have e := rconf_l2_p (N := N) hN h (s := k + 1) (O := allTo (cE T f) T.length 1 k) c (by omega) N (k + 1) (by omega) (by omega) (by omega)
      rw [rowTo_zero, List.append_nil, show ((k + 1 : Nat) : Int) = (k : Int) + 1 by omega] at e
      rw [e]
      simp only [Option.bind_some]
      rw [chk_eq (by omega)]
      have next := rconf_l1_p hN h n (k + 1) (by omega) (by omega)
      rw [allTo_succ, show ((k + 1 : Nat) : Int) = (k : Int) + 1 by omega] at next
      exact next
    · have e : k = T.length := by omega
      rw [br_ndec (by omega), e]
theorem rconf_v (hN : 20 ≤ N) (hm : Small T H) (h : Fine T H f) : rconf_S N T H f = some (allTo (cE T f) T.length 1 T.length, 0) := by
  unfold rconf_S
  have hT := h.n
  rw [rcheck_v hN hm, h.check]
  simp only [Option.bind_some, decide_true, Bool.not_true, br_false]
  have := rconf_l1_p (N := N) hN h N 0 (by omega) (by omega)
  rw [show allTo (cE T f) T.length 1 0 = [] from rfl, show ((0 : Nat) : Int) = 0 from rfl] at this
  rw [this]; rfl
theorem etexts_l1_p {W : List (Int × Int)} {a b f2 f3 : Int} {T2 T3 : List (List Int)} {H2 H3 : List Int} (hW : W.length ≤ 1000) : ∀ (n k : Nat), W.length < n + k → k ≤ W.length → etexts_l1 N n a b W W (W.length : Int) k T H f T2 H2 f2 T3 H3 f3 = some (.inr (a, b, T, H, f, T2, H2, f2, T3, H3, f3))
  | 0, k, h, _ => by omega
  | n + 1, k, h, hk => by
    unfold etexts_l1
    by_cases c : k < W.length
    · rw [br_dec (by omega), idx_get (0, 0) (by omega) (by omega), idx_get (0, 0) (by omega) (by omega)]
      simp only [decide_true, Bool.and_self, Bool.not_true, br_false]
      rw [chk_eq (by omega)]
      have := etexts_l1_p (a := a) (b := b) (f2 := f2) (f3 := f3) (T2 := T2) (T3 := T3) (H2 := H2) (H3 := H3) hW n (k + 1) (by omega) (by omega)
      rw [show ((k + 1 : Nat) : Int) = (k : Int) + 1 by omega] at this
      exact this
    · rw [br_ndec (by omega)]
theorem etexts_true {a b : Int} (h0 : (Ty.pair (.sl (.sl (.int .i64))) (.pair (.sl (.int .i64)) (.int .i64))).inB (T, H, f)) (h1 : (Ty.int .i64).inB a) (h2 : (Ty.int .i64).inB b) : etexts_S 1100 T H f a b = some true := by
  unfold etexts_S
  rcases great_v (N := 1100) (by omega) T H f with e | ⟨e, hm⟩
  · rw [e]; simp only [Option.bind_some, br_true, awake_v]
  · rw [e]
    simp only [Option.bind_some, br_false]
    have hmn := hm.n
    rw [copye_small (by omega) hm]
    simp only [Option.bind_some]
    have loop : ∃ W, W.length ≤ 25 ∧ conf_S 1100 T H f = some (W, checkE T H f) ∧ rconf_S 1100 T H f = some (W, checkE T H f) := by
      by_cases c : checkE T H f = 0
      · have hF := fine_of c
        have al := allTo_len (cE T f) T.length 1 T.length
        have hn := hF.n
        have hn2 : T.length * T.length ≤ 5 * 5 := Nat.mul_le_mul (by omega) (by omega)
        exact ⟨allTo (cE T f) T.length 1 T.length, by omega, by rw [conf_v (by omega) hF, c], by rw [rconf_v (by omega) hm hF, c]⟩
      · refine ⟨[], by simp, ?_, ?_⟩
        · unfold conf_S
          rw [check_v (by omega)]
          simp only [Option.bind_some]
          rw [br_nnd c]
        · unfold rconf_S
          rw [rcheck_v (by omega) hm]
          simp only [Option.bind_some]
          rw [br_nnd c]
    obtain ⟨W, hW, e1, e2⟩ := loop
    have e3 := etexts_l1_p (N := 1100) (T := T) (H := H) (f := f) (W := W) (a := a) (b := b) (f2 := f) (f3 := f) (T2 := T) (T3 := T) (H2 := H) (H3 := H) (by omega) 1100 0 (by omega) (by omega)
    rw [show ((0 : Nat) : Int) = 0 from rfl] at e3
    rw [e1, e2]
    simp only [Option.bind_some, decide_true, Bool.not_true, br_false]
    rw [e3]
    simp only [Option.bind_some]
    rw [rtwo_v (by omega) hm]
    by_cases c : openE T H f a b = 0
    · obtain ⟨hF, ha, hb, _⟩ := opened_good (N := 1100) (by omega) c
      have la := hF.l (T.getD a.toNat []) (getD_mem (by omega))
      have lb := hF.l (T.getD b.toNat []) (getD_mem (by omega))
      have hTa : T[a.toNat]? = some (T.getD a.toNat []) := by
        have : a.toNat < T.length := by omega
        simp [List.getD, this]
      have hTb : T[b.toNat]? = some (T.getD b.toNat []) := by
        have : b.toNat < T.length := by omega
        simp [List.getD, this]
      rw [dist_v (by omega) hF ha hb, commons_v (by omega) hF ha hb, middle_v (by omega) hF ha hb]
      simp only [Option.bind_some]
      rw [br_nd c, idx_eq ha.1 hTa, idx_eq hb.1 hTb]
      generalize T.getD a.toNat [] = A at *
      generalize T.getD b.toNat [] = B at *
      obtain ⟨s1, s2, s3⟩ := cw_spec A B
      obtain ⟨m1, m2, m3, m4⟩ := mid_ok (A := A) (B := B)
      have n0 := distI_nonneg A B
      have d0 : distI A B = (A.length : Int) + B.length - 2 * (cw A B).length := rfl
      have a1 := s1.length_le
      have b1 := s2.length_le
      rw [rfar_v (by omega) (by omega)]
      simp only [Option.bind_some, decide_true, Bool.not_true, br_false]
      rw [chk_eq (by omega), chk_eq (by omega), chk_eq (by omega), br_nd (by omega), within_v (by omega) (by omega) s1]
      simp only [Option.bind_some, Bool.not_true, br_false]
      rw [within_v (by omega) (by omega) s2]
      simp only [Option.bind_some, Bool.not_true, br_false]
      rw [br_dec (by omega), rfar_v (by omega) (by omega)]
      simp only [Option.bind_some]
      rw [chk_eq (by omega), tdiv2 (by omega), br_dec m1, rfar_v (by omega) (by omega)]
      simp only [Option.bind_some]
      rw [chk_eq (by omega), br_dec m2, same_v (by omega) hm, awake_v]
      rfl
    · rw [dist_bad (by omega) c, commons_bad (by omega) c, middle_bad (by omega) c]
      simp only [Option.bind_some, decide_true, br_true]
      rw [br_nnd c, chk_eq (by simp), chk_eq (by simp), br_dec (by simp), same_v (by omega) hm, awake_v]
      rfl
end
end Go.Proofs.Ytfcnhnbnjdccfaa

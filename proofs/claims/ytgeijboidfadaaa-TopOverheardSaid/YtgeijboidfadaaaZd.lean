/-
  Parts of a proof, put together: Sv23, Sv24, Sv25.
  Conditions: none.
-/
import Derived.Test.YtgeijboidfadaaaZc
namespace Go.Proofs.Ytgeijboidfadaaa
set_option linter.all false
open Go

def exK : (es : List (List PI × Sta)) → exD es → List PI × LL × HH
  | [], e => nomatch e
  | x :: _, .inl p => (x.1, stL x.2 p, stH x.2 p)
  | _ :: xs, .inr e => exK xs e
theorem atExit_eq {Z : Type} {go : List PI → LL → HH → Option Z} : ∀ (es : List (List PI × Sta)) (e : exD es), atExit go es e = go (exK es e).1 (exK es e).2.1 (exK es e).2.2
  | [], e => nomatch e
  | x :: _, .inl p => rfl
  | _ :: xs, .inr e => atExit_eq xs e
/-- Is it a function's own frame? -/
def CxOK (top : Bool) (Xc : Ctx) : Prop := top = true → Xc.b.roundOf = none
/-- A loop goes the way that it is said to go. -/
structure LoopOK (P : Program) (c : Code) (n m0 : Nat) (top : Bool) (x : LoopS) : Prop where
  nat : ∀ (Z : Type) (p : x.sta.sh.den) (κ : exD x.exits → Option Z), x.run p κ = (x.run p some).bind κ
  run : ∀ (p : x.sta.sh.den) (e : exD x.exits), x.run p some = some e → ∀ (E : EE), EOK m0 E → ∀ (Xc : Ctx) (a : Act) (w : World), CxOK top Xc → SR n m0 E (stL x.sta p) (stH x.sta p) a w →
    (∀ a w, SR n m0 E (exK x.exits e).2.1 (exK x.exits e).2.2 a w → At P Xc ((exK x.exits e).1.map (itm c)) a w) → At P Xc (x.at_.map (itm c)) a w
def LeafOK {Z : Type} (P : Program) (c : Code) (n m0 : Nat) (E : EE) (Xc : Ctx) (z : Z) (x : Leaf Z) : Prop :=
  ∀ p, x.fn p = some z → ∀ a w, SR n m0 E (stL x.sta p) (stH x.sta p) a w → At P Xc (x.at_.map (itm c)) a w
/-- What holds where a function returns. -/
def RetR (P : Program) (B : Body) (E : EE) (o : StSh) (r : o.den) (a : Act) (w : World) : Prop :=
  ∃ g, Sim g (hOf r.2) w ∧ (∀ i, o.blks.length ≤ i → g.ρ i = none) ∧ E a.defers g w ∧ ∀ (fn : Func) (w1 : World), fn.results = B.res.toArray → (∃ Ds, (∀ D ∈ Ds, ∃ x, w.heap[D]? = some (.deferred x)) ∧ Upd Ds w w1) → ∃ vs, RepVs g (encs id o.avs r.1) vs ∧ (results fn a.tmps).run P w1 = .ok (tupled vs) w1
def RetOK {Z : Type} (P : Program) (B : Body) (E : EE) (Xc : Ctx) (z : Z) (rt : Option (altD B.outs → Option Z)) : Prop :=
  ∀ f, rt = some f → ∀ r, f r = some z → ∀ a w k, isOut k = true → RetR P B E (altOf B.outs r).1 (altOf B.outs r).2 a w → At P Xc k a w
def AllP.{u} {α : Type u} (p : α → Prop) : List α → Prop
  | [] => True
  | x :: xs => p x ∧ AllP p xs
theorem AllP.mem.{u} {α : Type u} {p : α → Prop} : ∀ {l : List α}, AllP p l → ∀ x ∈ l, p x
  | [], _, x, h => by cases h
  | y :: l, h, x, hx => by
    rcases List.mem_cons.1 hx with rfl | hx
    · exact h.1
    · exact AllP.mem h.2 x hx

section
variable {P : Program} {specs : List Spec} {B : Body} {loops : List LoopS} {top : Bool} {E : EE} {Z : Type} {z : Z} {leaves : List (Leaf Z)} {rt : Option (altD B.outs → Option Z)} {Xc : Ctx}

theorem atLeaf_some {m0 : Nat} {k : List PI} {L : LL} {H : HH} {κ : Option Z} : ∀ (xs : List (Leaf Z)), atLeaf m0 k L H κ xs = some z →
    (∃ x ∈ xs, x.at_ = k ∧ ∃ as y σ, lkups L x.sta.tmps = some as ∧ fitAll x.sta.sh (pins m0) as H = some (y, σ) ∧ x.fn y = some z) ∨ κ = some z
  | [], h => .inr h
  | x :: xs, h => by
    simp only [atLeaf] at h
    split at h
    · rename_i hk
      obtain ⟨as, h1, h2⟩ := bind_some h
      obtain ⟨y, h3, h4⟩ := bind_some h2
      exact .inl ⟨x, by simp, hk, as, y.1, y.2, h1, h3, h4⟩
    · rcases atLeaf_some xs h with ⟨x', hx', r⟩ | h
      · exact .inl ⟨x', by simp [hx'], r⟩
      · exact .inr h
theorem atLoop_some {m0 : Nat} {go : List PI → LL → HH → Option Z} {k : List PI} {L : LL} {H : HH} {κ : Option Z} : ∀ (xs : List LoopS), atLoop m0 go k L H κ xs = some z →
    (∃ x ∈ xs, x.at_ = k ∧ ∃ as y σ, lkups L x.sta.tmps = some as ∧ fitAll x.sta.sh (pins m0) as H = some (y, σ) ∧ (x.run y fun e => atExit go x.exits e) = some z) ∨ κ = some z
  | [], h => .inr h
  | x :: xs, h => by
    have ih := atLoop_some (m0 := m0) (go := go) (k := k) (L := L) (H := H) (κ := κ) xs
    have next : atLoop m0 go k L H κ xs = some z → (∃ x' ∈ x :: xs, x'.at_ = k ∧ ∃ as y σ, lkups L x'.sta.tmps = some as ∧ fitAll x'.sta.sh (pins m0) as H = some (y, σ) ∧ (x'.run y fun e => atExit go x'.exits e) = some z) ∨ κ = some z := fun h => by
      rcases ih h with ⟨x', hx', r⟩ | h
      · exact .inl ⟨x', by simp [hx'], r⟩
      · exact .inr h
    simp only [atLoop] at h
    split at h
    · rename_i hk
      split at h
      · rename_i y hy
        obtain ⟨as, h1, h2⟩ := bind_some hy
        exact .inl ⟨x, by simp, hk, as, y.1, y.2, h1, h2, h⟩
      · cases xs with
        | nil => cases h
        | cons q qs => exact next h
    · exact next h
theorem fitAlt_some {pre : List (Option (Option Nat))} {as : List AV} {H : HH} : ∀ (os : List StSh) (r : altD os), fitAlt pre as H os = some r → ∃ σ, fitAll (altOf os r).1 pre as H = some ((altOf os r).2, σ)
  | [], r, _ => nomatch r
  | [s], r, h => by
    simp only [fitAlt] at h
    obtain ⟨y, hy, rfl⟩ := map_some h
    exact ⟨y.2, hy⟩
  | s :: t :: ss, r, h => by
    simp only [fitAlt] at h
    split at h
    · rename_i y hy
      simp only [Option.some.injEq] at h
      subst h
      exact ⟨y.2, hy⟩
    · obtain ⟨y, hy, rfl⟩ := map_some h
      exact fitAlt_some (t :: ss) y hy
theorem ret_sound (hE : EOK B.m0 E) (hret : RetOK P B E Xc z rt) {L : LL} {H : HH} (h : atRet P B L H rt = some z) {a : Act} {w : World} (hS : SR B.n B.m0 E L H a w) {k : List Item} (hk : isOut k = true) : At P Xc k a w := by
  unfold atRet at h
  split at h
  · cases h
  · rename_i f
    obtain ⟨as, h1, h2⟩ := bind_some h
    obtain ⟨y, h3, h4⟩ := bind_some h2
    obtain ⟨g0, s0, t0, _⟩ := hS.ex
    have bl : ∀ w1, (∃ Ds, (∀ D ∈ Ds, ∃ x, w.heap[D]? = some (.deferred x)) ∧ Upd Ds w w1) → ∀ (g : Gh), Sim g (fun i => H[i]?) w → ∀ id ps, H[id]? = some (.segs ps) → RepBlk g w1 id (.segs ps) := by
      rintro w1 ⟨Ds, hD, hU⟩ g hs id ps hid
      obtain ⟨b, c, n, us, ty, e1, e2, hp, hM⟩ := hs.blk id _ hid
      exact ⟨b, c, n, us, ty, e1, hU.blk e2 (fun hb => by obtain ⟨x, hx⟩ := hD b hb; rw [e2] at hx; cases hx), hp, hM⟩
    obtain ⟨σ, h3⟩ := fitAlt_some _ y h3
    obtain ⟨g, q1, q2, q3, q4⟩ := cut_g hE hS (y := (altOf B.outs y).2) (σ := σ) h3 (Q := fun vs => ∃ w1, (∃ Ds, (∀ D ∈ Ds, ∃ x, w.heap[D]? = some (.deferred x)) ∧ Upd Ds w w1) ∧ (B.res.mapM (resF a.tmps)).run P w1 = .ok vs w1) (fun g htm hs vs hQ => by
      obtain ⟨w1, hU, hrun⟩ := hQ
      obtain ⟨vs', hv, hrun'⟩ := resOf_spec (P := P) (w := w1) htm (bl w1 hU g hs) B.res as h1
      rw [hrun] at hrun'; cases hrun'; exact hv)
    refine hret f rfl y h4 a w k hk ⟨g, q1, q3, q4, fun fn w1 hr hU => ?_⟩
    obtain ⟨vs1, _, hrun1⟩ := resOf_spec (P := P) (w := w1) t0 (bl w1 hU g0 s0) B.res as h1
    exact ⟨vs1, q2 vs1 ⟨w1, hU, hrun1⟩, results_sound hr hrun1⟩
theorem ev_sound (hall : AllP (SpecOK P) specs) (hmix : P.follows .mixedOrders = true) (hloops : AllP (LoopOK P B.c B.n B.m0 top) loops) (hE : EOK B.m0 E) (hX : CxOK top Xc) (hleaf : AllP (LeafOK P B.c B.n B.m0 E Xc z) leaves) (hret : RetOK P B E Xc z rt) :
    ∀ (fu : Nat) (skip : Bool) (k : List PI) (L : LL) (H : HH), ev P specs B loops leaves rt fu skip k L H = some z → ∀ a w, SR B.n B.m0 E L H a w → At P Xc (k.map (itm B.c)) a w
  | 0, _, _, _, _ => fun h => by cases h
  | fu + 1, skip, k, L, H => by
    have ih := ev_sound hall hmix hloops hE hX hleaf hret fu
    have node : (match k with
        | [] => atRet P B L H rt
        | .c p :: r => match sub B.c p with
          | .region _ ops draw => evOps P specs B.n ops (fun acc L' H' => if !draw || (backB ops.toList 0 && apartB acc.reverse (befs ops.toList []) 0) then ev P specs B loops leaves rt fu false (nrm B.c 99 r) L' H' else none) ops.toList [] L H
          | .cond x _ _ => (opd L x).bind fun v => match v with
            | .b v => br v (ev P specs B loops leaves rt fu false (nrm B.c 99 (.c (p ++ [0]) :: r)) L H) (ev P specs B loops leaves rt fu false (nrm B.c 99 (.c (p ++ [1]) :: r)) L H)
            | _ => none
          | .ret => atRet P B L H rt
          | _ => none
        | _ => none) = some z → ∀ a w, SR B.n B.m0 E L H a w → At P Xc (k.map (itm B.c)) a w := by
      intro h a w hS
      split at h
      · exact ret_sound hE hret h hS rfl
      · rename_i p r
        split at h
        · rename_i id ops draw hsub
          simp only [List.map_cons, itm, hsub]
          exact region_sound hall.mem hmix hE h hS (fun L' H' hk a w hS' => At.nrmk 99 (ih false _ L' H' hk a w hS'))
        · rename_i x c1 c2 hsub
          obtain ⟨v, hv, h2⟩ := bind_some h
          split at h2
          · rename_i b
            simp only [List.map_cons, itm, hsub]
            obtain ⟨g, _, htm, _⟩ := hS.ex
            have hev : a.eval x = .bool b := by
              have := opd_eval (tm := a.tmps) (df := a.defers) (fun t _ a ha => htm t a ha) hv
              exact this
            refine .head (stepR_cond hev) ?_
            have e0 : sub B.c (p ++ [0]) = c1 := by rw [sub_app, hsub]; cases c1 <;> rfl
            have e1 : sub B.c (p ++ [1]) = c2 := by rw [sub_app, hsub]; cases c2 <;> rfl
            rcases br_some h2 with ⟨rfl, h3⟩ | ⟨rfl, h3⟩
            · have := At.nrmk 99 (ih false _ L H h3 a w hS)
              simp only [List.map_cons, itm, e0] at this
              exact this
            · have := At.nrmk 99 (ih false _ L H h3 a w hS)
              simp only [List.map_cons, itm, e1] at this
              exact this
          · cases h2
        · rename_i hsub
          refine ret_sound hE hret h hS ?_
          simp only [List.map_cons, itm, hsub, isOut]
        · cases h
      · cases h
    intro h a w hS
    simp only [ev] at h
    split at h
    · exact node h a w hS
    · rcases atLeaf_some _ h with ⟨x, hx, rfl, as, y, σ, h1, h2, h3⟩ | h
      · exact hleaf.mem x hx y h3 a w (cut_sound hE hS h1 h2)
      · rcases atLoop_some _ h with ⟨x, hx, rfl, as, y, σ, h1, h2, h3⟩ | h
        · have hx' := hloops.mem x hx
          rw [hx'.nat] at h3
          obtain ⟨e, he, h4⟩ := bind_some h3
          rw [atExit_eq] at h4
          exact hx'.run y e he E hE Xc a w hX (cut_sound hE hS h1 h2) (fun a w hS' => ih false _ _ _ h4 a w hS')
        · exact node h a w hS
theorem leaf_of_ev (hall : AllP (SpecOK P) specs) (hmix : P.follows .mixedOrders = true) (hloops : AllP (LoopOK P B.c B.n B.m0 top) loops) (hE : EOK B.m0 E) (hX : CxOK top Xc) (hleaf : AllP (LeafOK P B.c B.n B.m0 E Xc z) leaves) (hret : RetOK P B E Xc z rt) {at_ : List PI} {sta : Sta} {fn : sta.sh.den → Option Z} {fu : Nat}
    (hev : ∀ p, ev P specs B loops leaves rt fu true at_ (stL sta p) (stH sta p) = fn p) : LeafOK P B.c B.n B.m0 E Xc z ⟨at_, sta, fn⟩ :=
  fun p hp a w hS => ev_sound hall hmix hloops hE hX hleaf hret fu true at_ _ _ (by rw [hev p]; exact hp) a w hS
theorem RetOK.no : RetOK P B E Xc z (none : Option (altD B.outs → Option Z)) := fun f h => by cases h
end
/-- A loop, by the equation of its rounds. -/
theorem loop_of_ev {P : Program} {c : Code} {n m0 : Nat} {top : Bool} {x : LoopS} {Z : Type} {N : Nat} (F : Nat → x.sta.sh.den → Option Z) (glue : Z → exD x.exits) (hrun : ∀ (Y : Type) (p : x.sta.sh.den) (κ : exD x.exits → Option Y), x.run p κ = (F N p).bind fun e => κ (glue e)) (h0 : ∀ p, F 0 p = none)
    (hstep : ∀ (m : Nat) (z : Z) (E : EE) (Xc : Ctx), EOK m0 E → CxOK top Xc → LeafOK P c n m0 E Xc z ⟨x.at_, x.sta, F m⟩ →
      (∀ a w, SR n m0 E (exK x.exits (glue z)).2.1 (exK x.exits (glue z)).2.2 a w → At P Xc ((exK x.exits (glue z)).1.map (itm c)) a w) → LeafOK P c n m0 E Xc z ⟨x.at_, x.sta, F (m + 1)⟩) : LoopOK P c n m0 top x := by
  refine ⟨fun Y p κ => ?_, fun p e he E hE Xc a w hX hS hx => ?_⟩
  · rw [hrun, hrun]
    cases F N p <;> rfl
  · rw [hrun] at he
    obtain ⟨z, hz, h2⟩ := bind_some he
    cases h2
    have key : ∀ m, LeafOK P c n m0 E Xc z ⟨x.at_, x.sta, F m⟩ := by
      intro m
      induction m with
      | zero => intro p hp; rw [show (Leaf.mk x.at_ x.sta (F 0)).fn p = F 0 p from rfl, h0] at hp; cases hp
      | succ m ih => exact hstep m z E Xc hE hX ih hx
    exact key N p hz a w hS

/-! ### Functions -/
/-- The blocks of deferred calls that wait: none holds a call. -/
def MarkOK (lo : Nat) (ds : List Deferred) (g : Gh) (w : World) : Prop := ∃ Ds : List Nat, ds = Ds.map (fun D => { target := .collected D, args := #[] }) ∧ Ds.Nodup ∧ ∀ D ∈ Ds, lo ≤ D ∧ w.heap[D]? = some (.deferred (some [])) ∧ g.M D = none
theorem Sim.kind {g : Gh} {h : Nat → Option Blk'} {w : World} (hs : Sim g h w) {j : Nat} {k : Blk'} {b c n : Nat} (hj : h j = some k) (hm : k.mut = true) (he : g.ρ j = some (some (b, c, n))) : (∃ vs ty z, w.heap[b]? = some (.cells vs ty z)) ∨ ∃ es q, w.heap[b]? = some (.map es q) := by
  have hB := hs.blk j k hj
  cases k <;> simp only [Blk'.mut, Bool.false_eq_true] at hm
  case segs => obtain ⟨b1, _, _, _, _, e, h3, _, hM⟩ := hB; rw [e] at he; cases he; exact .inl ⟨_, _, _, h3⟩
  case lst =>
    obtain ⟨_, ⟨e, _⟩ | ⟨b1, _, _, _, _, e, h3, _, _, _, hM⟩⟩ := hB
    · rw [e] at he; cases he
    · rw [e] at he; cases he; exact .inl ⟨_, _, _, h3⟩
  case map => obtain ⟨b1, _, _, _, _, e, h3, hM, _⟩ := hB; rw [e] at he; cases he; exact .inr ⟨_, _, h3⟩
theorem Sw.kind {g : Gh} {h : Nat → Option Blk'} {w : World} (hs : Sim g h w) {wr : List Nat} {b : Nat} (hb : Sw g h wr b) : (∃ vs ty z, w.heap[b]? = some (.cells vs ty z)) ∨ ∃ es q, w.heap[b]? = some (.map es q) := by
  obtain ⟨i, _, k, c, n, h1, h2, h3⟩ := hb; exact hs.kind h1 h2 h3
theorem MarkOK.step {lo : Nat} {ds : List Deferred} {g g' : Gh} {h : Nat → Option Blk'} {w w' : World} {wr : List Nat} {nw : Nat → Prop} (hs : Sim g h w) (st : Stp (Sw g h wr) nw g w g' w') (hk : MarkOK lo ds g w) : MarkOK lo ds g' w' := by
  obtain ⟨Ds, e, hn, hD⟩ := hk
  refine ⟨Ds, e, hn, fun D hd => ?_⟩
  obtain ⟨h1, h2, h3⟩ := hD D hd
  have hno : ¬ Sw g h wr D := fun hx => by
    rcases Sw.kind hs hx with ⟨_, _, _, h4⟩ | ⟨_, _, h4⟩ <;> (rw [h2] at h4; cases h4)
  refine ⟨h1, by rw [st.same D (lt_of_blk h2) hno]; exact h2, ?_⟩
  cases hM : g'.M D with
  | none => rfl
  | some o =>
    rcases st.Mn D o hM with h4 | ⟨_, h4 | h4, _⟩
    · rw [h3] at h4; cases h4
    · have := lt_of_blk h2; omega
    · exact absurd h4 hno
theorem repVs_get {g : Gh} : ∀ {as : List AV} {vs : List Value}, RepVs g as vs → vs.length = as.length ∧ ∀ (i : Nat) (a : AV), as[i]? = some a → ∃ v, vs[i]? = some v ∧ RepV g a v
  | [], vs, h => by simp only [RepVs] at h; subst h; exact ⟨rfl, fun i a ha => by simp at ha⟩
  | b :: as, vs, h => by
    simp only [RepVs] at h
    obtain ⟨v, us, rfl, h1, h2⟩ := h
    obtain ⟨e, h3⟩ := repVs_get h2
    refine ⟨by simp [e], fun i a ha => ?_⟩
    cases i with
    | zero => simp at ha; subst ha; exact ⟨v, rfl, h1⟩
    | succ i => simpa using h3 i a (by simpa using ha)
theorem lookup_range : ∀ (as : List AV) (k t : Nat) (a : AV), ((List.range' k as.length).zip as).lookup t = some a → k ≤ t ∧ as[t - k]? = some a
  | [], k, t, a, h => by simp at h
  | b :: as, k, t, a, h => by
    simp only [List.length_cons, List.range'_succ, List.zip_cons_cons, List.lookup_cons] at h
    by_cases e : t = k
    · subst e; simp at h; subst h; simp
    · have : (t == k) = false := by simpa using e
      rw [this] at h
      obtain ⟨h1, h2⟩ := lookup_range as (k + 1) t a h
      refine ⟨by omega, ?_⟩
      rw [show t - k = (t - (k + 1)) + 1 by omega]
      simpa using h2
theorem encs_len (f : Nat → Nat) : ∀ (ss : List Sh) (p : Shs.den ss), (encs f ss p).length = ss.length
  | [], _ => rfl
  | s :: ss, p => by simp [encs, encs_len f ss p.2]
theorem encBs_at (f : Nat → Nat) : ∀ (ss : List BSh) (p : BShs.den ss) (j : Nat) (k : Blk'), (encBs f ss p)[j]? = some k → ∃ (s : BSh) (q : s.den), ss[j]? = some s ∧ k = encB f s q
  | [], _, j, k, h => by simp [encBs] at h
  | s :: ss, p, 0, k, h => by simp only [encBs, List.getElem?_cons_zero, Option.some.injEq] at h; exact ⟨s, p.1, rfl, h.symm⟩
  | s :: ss, p, j + 1, k, h => by
    simp only [encBs, List.getElem?_cons_succ] at h
    simpa using encBs_at f ss p.2 j k h
theorem fn_sound {P : Program} {specs : List Spec} {B : Body} {loops : List LoopS} {f : FuncId} {ins : StSh} {run : {Y : Type} → ins.den → (altD B.outs → Option Y) → Option Y} {fn : Func} {Z : Type} {leaves : List (Leaf Z)} (F : ins.den → Option Z) (glue : Z → altD B.outs) (rt0 : altD B.outs → Option Z) {tmps : List Tmp} {fu : Nat} {k0 : List PI}
    (hrun : ∀ (Y : Type) (p : ins.den) (κ : altD B.outs → Option Y), run p κ = (F p).bind fun r => κ (glue r)) (hglue : ∀ r z, rt0 r = some z → glue z = r)
    (hf : P.funcs[f]? = some fn) (hb : fn.body = some B.c) (hn : fn.ntmps = B.n) (hr : fn.results = B.res.toArray) (hm : B.m0 = ins.blks.length) (htm : tmps = List.range' 0 ins.avs.length) (hk : nrm B.c 99 [.c []] = k0)
    (hcall : ∀ args w, (callFunc f args).run P w = .ok (.enter f args) w) (hall : AllP (SpecOK P) specs) (hmix : P.follows .mixedOrders = true) (hloops : AllP (LoopOK P B.c B.n B.m0 true) loops)
    (hleaf : ∀ (z : Z) (E : EE) (Xc : Ctx), EOK B.m0 E → CxOK true Xc → RetOK P B E Xc z (some rt0) → AllP (LeafOK P B.c B.n B.m0 E Xc z) leaves)
    (hev : ∀ p, ev P specs B loops leaves (some rt0) fu false k0 (stL ⟨tmps, ins⟩ p) (stH ⟨tmps, ins⟩ p) = F p) (hlive : ins.blks.all BSh.live = true := by rfl) : SpecOK P { f := f, ins := ins, outs := B.outs, run := run } := by
  refine ⟨fun Y p κ => ?_, hcall, fun p r hpr g w vs hv hs hρ => ?_⟩
  · dsimp only
    rw [hrun, hrun]
    cases F p <;> rfl
  · dsimp only at p r hpr hv hs hρ
    rw [hrun] at hpr
    obtain ⟨z, hz, h2⟩ := bind_some hpr
    simp only [Option.some.injEq] at h2
    subst h2
    -- from the start
    have hkn : ∀ i, i < ins.blks.length → ∃ x k, hOf p.2 i = some k ∧ k.mut = true ∧ g.ρ i = some x := by
      intro i hi
      have hb : (encBs id ins.blks p.2)[i]? = some ((encBs id ins.blks p.2)[i]'(by rw [encBs_len]; exact hi)) := List.getElem?_eq_getElem _
      obtain ⟨s, q, hs0, e⟩ := encBs_at id ins.blks p.2 i _ hb
      have hl := encB_mut id s q (List.all_eq_true.1 hlive s (List.mem_of_getElem? hs0))
      rw [e] at hb
      obtain ⟨x, hx⟩ := (hs.blk i _ hb).known hl
      exact ⟨x, _, hb, hl, hx⟩
    have hE0 : EOK0 B.m0 (fun _ => Ent (Sw g (hOf p.2) (List.range ins.blks.length)) B.m0 g w) := Ent.ok (fun i b c k hi e => by
      rw [hm] at hi
      obtain ⟨x, k', h1, h2, _⟩ := hkn i hi
      exact ⟨i, by simpa using hi, k', c, k, h1, h2, e⟩) (fun i hi => by
      rw [hm] at hi
      obtain ⟨x, _, _, _, h3⟩ := hkn i hi
      exact ⟨x, h3⟩)
    let E : EE := fun ds g' w' => Ent (Sw g (hOf p.2) (List.range ins.blks.length)) B.m0 g w g' w' ∧ MarkOK w.heap.size ds g' w'
    have hE : EOK B.m0 E := ⟨⟨fun hn hs st he => ⟨hE0.step (ds := []) hn hs st he.1, he.2.step hs st⟩, fun ds g w he => ⟨hE0.bump ds g w he.1, he.2⟩, fun ds g w σ he h1 h2 => ⟨hE0.reb ds g w σ he.1 h1 h2, he.2⟩⟩, ⟨w.heap.size, fun ds g w' he => he.1.size, fun ds g w' D he hD => by
        obtain ⟨Ds, rfl, _, hDs⟩ := he.2
        obtain ⟨D', h1, h2⟩ := List.mem_map.1 hD
        cases h2
        exact lt_of_blk (hDs D h1).2.1, fun ds g w1 w2 T he hu hT => ⟨he.1.upd hu (fun k hk => .inl (hT k hk).1), by
        obtain ⟨Ds, rfl, hn, hDs⟩ := he.2
        refine ⟨Ds, rfl, hn, fun D hD => ⟨(hDs D hD).1, hu.blk (hDs D hD).2.1 (fun hk => (hT D hk).2 (List.mem_map.2 ⟨D, hD, rfl⟩)), (hDs D hD).2.2⟩⟩⟩⟩, fun ds g w1 w2 he hu hb hM => ⟨he.1.upd hu (fun k hk => by cases hk), by
        obtain ⟨Ds, rfl, hn, hDs⟩ := he.2
        refine ⟨w1.heap.size :: Ds, rfl, List.nodup_cons.2 ⟨fun hk => ?_, hn⟩, fun D hD => ?_⟩
        · have := lt_of_blk (hDs _ hk).2.1; omega
        · rcases List.mem_cons.1 hD with rfl | hD
          · exact ⟨he.1.size, hb, hM⟩
          · exact ⟨(hDs D hD).1, hu.blk (hDs D hD).2.1, (hDs D hD).2.2⟩⟩⟩
    have hent : E [] g w := ⟨⟨rfl, rfl, rfl, Nat.le_refl _, fun _ _ _ => rfl, fun _ _ h => h, fun _ _ h => .inl h, fun _ _ => rfl, fun i b c k hi e => by
      rw [hρ i (by omega)] at e; cases e⟩, [], rfl, List.nodup_nil, by simp⟩
    refine Fn.of hf hb fun cs => ?_
    have hret : RetOK P B E (fctx P f (Post ⟨f, ins, B.outs, run⟩ p (altOf B.outs (glue z)).1 (altOf B.outs (glue z)).2 g w) cs) z (some rt0) := by
      rintro f' hf' r hrz a w' k hko ⟨g', q1, q3, ⟨q4, Ds, hds, hnd, hD⟩, q5⟩
      cases hf'
      have := hglue r z hrz
      subst this
      have hko' : k = [] ∨ ∃ k', k = .code .ret :: k' := by
        match k, hko with
        | [], _ => exact .inl rfl
        | .code .ret :: k', _ => exact .inr ⟨k', rfl⟩
      obtain ⟨tm, ds⟩ := a
      dsimp only at hds; subst hds
      refine At.out rfl hko' ?_
      have post : ∀ w1, Upd Ds w' w1 → w1.heap.size = w'.heap.size → ∃ vs, (results fn tm).run P w1 = .ok (tupled vs) w1 ∧ Post ⟨f, ins, B.outs, run⟩ p (altOf B.outs (glue z)).1 (altOf B.outs (glue z)).2 g w (tupled vs) w1 := by
        intro w1 hU hsz
        obtain ⟨vs, hv, hrs⟩ := q5 fn w1 hr ⟨Ds, fun D hd => ⟨_, (hD D hd).2.1⟩, hU⟩
        refine ⟨vs, hrs, g', ⟨hU.os.trans q4.os, hU.tape.trans q4.tape, hU.output.trans q4.output, by rw [hsz]; exact q4.size, fun b hb hS => ?_, ⟨fun i x hx => ?_, q4.M⟩, fun i h0 h1 => ?_, fun i b c k h0 h1 => ?_, q4.Mn⟩, ⟨fun b o hb => hU.blk (q1.mem b o hb) (fun hd => by rw [(hD b hd).2.2] at hb; cases hb), fun i k hk => (q1.blk i k hk).step (GE.refl g') (fun hm b c n e hlt hM => ⟨hU.same b hlt (fun hd => by
            rcases q1.kind hk hm e with ⟨_, _, _, h4⟩ | ⟨_, _, h4⟩ <;> (rw [(hD b hd).2.1] at h4; cases h4)), hM⟩), q1.inj⟩, resVal_tup hv⟩
        · rw [hU.same b (Nat.lt_of_lt_of_le hb q4.size) (fun hd => by have := (hD b hd).1; omega)]
          exact q4.same b hb hS
        · rcases Nat.lt_or_ge i B.m0 with h | h
          · rw [q4.pin i h]; exact hx
          · rw [hρ i (by rw [← hm]; exact h)] at hx; cases hx
        · refine ⟨?_, ?_⟩
          · rcases Nat.lt_or_ge i ins.blks.length with h | h
            · rw [q4.pin i (by omega)] at h1; exact absurd h0 h1
            · exact h
          · rcases Nat.lt_or_ge i (altOf B.outs (glue z)).1.blks.length with h | h
            · exact h
            · exact absurd (q3 i h) h1
        · rcases Nat.lt_or_ge i B.m0 with h | h
          · rw [q4.pin i h, h0] at h1; cases h1
          · exact q4.oth i b c k h h1
      suffices ∀ (Ds' : List Nat) (w1 : World), Ds'.Nodup → (∀ D ∈ Ds', w1.heap[D]? = some (.deferred (some []))) → (∀ D ∈ Ds', D ∈ Ds) → Upd Ds w' w1 → w1.heap.size = w'.heap.size → Out P (fctx P f (Post ⟨f, ins, B.outs, run⟩ p (altOf B.outs (glue z)).1 (altOf B.outs (glue z)).2 g w) cs) tm (Ds'.map fun D => { target := .collected D, args := #[] }) w1 from
        this Ds w' hnd (fun D hd => (hD D hd).2.1) (fun _ h => h) (Upd.refl _ _) rfl
      intro Ds'
      induction Ds' with
      | nil =>
        intro w1 _ _ _ hu hs
        obtain ⟨vs, h1, h2⟩ := post w1 hu hs
        exact Out.done hf h1 h2
      | cons D Ds' ih =>
        intro w1 hnd1 hD1 hin hu hs
        refine Out.mark (hD1 D (by simp)) ?_
        have hp := Put.mk' (.deferred none) (hD1 D (by simp))
        refine ih _ (List.nodup_cons.1 hnd1).2 (fun E hE => hp.upd.blk (hD1 E (by simp [hE])) ?_) (fun E hE => hin E (by simp [hE])) (hu.trans (hp.upd.mono (fun k hk => ?_))) (hp.size.trans hs)
        · intro e
          simp at e
          subst e
          exact (List.nodup_cons.1 hnd1).1 hE
        · simp at hk
          subst hk
          exact hin _ (by simp)
    have hX : CxOK true (fctx P f (Post ⟨f, ins, B.outs, run⟩ p (altOf B.outs (glue z)).1 (altOf B.outs (glue z)).2 g w) cs) := fun _ => rfl
    have hsound := ev_sound hall hmix hloops hE hX (hleaf z _ (fctx P f (Post ⟨f, ins, B.outs, run⟩ p (altOf B.outs (glue z)).1 (altOf B.outs (glue z)).2 g w) cs) hE hX hret) hret fu false k0 _ _ (by rw [hev p]; exact hz)
    have hlen : vs.length = ins.avs.length := by rw [(repVs_get hv).1, encs_len]
    have hstart : SR B.n B.m0 E (stL ⟨tmps, ins⟩ p) (stH ⟨tmps, ins⟩ p) { tmps := vs.toArray ++ Array.replicate (fn.ntmps - vs.toArray.size) undef, defers := [] } w := by
      refine ⟨⟨g, hs, fun t a ha => ?_, fun i hi => ?_, hent⟩, by simp; omega, by rw [hm]; simp [stH, encBs_len]⟩
      · have ha' : ((List.range' 0 (encs id ins.avs p.1).length).zip (encs id ins.avs p.1)).lookup t = some a := by
          rw [encs_len, ← htm]; exact ha
        obtain ⟨_, h3⟩ := lookup_range _ 0 t a ha'
        obtain ⟨v, h4, h5⟩ := (repVs_get hv).2 t a (by simpa using h3)
        have hlt := (List.getElem?_eq_some_iff.1 h4).1
        have : (vs.toArray ++ Array.replicate (fn.ntmps - vs.toArray.size) undef).getD t undef = v := by
          rw [Array.getD_eq_getD_getElem?, Array.getElem?_append_left (by simpa using hlt)]
          simp [h4]
        rw [this]; exact h5
      · exact hρ i (by simpa [stH, encBs_len] using hi)
    have := hsound _ w hstart
    rw [← hk] at this
    have h9 := At.nrmk (c := B.c) 99 (k := [.c []]) this
    have e9 : sub B.c [] = B.c := by cases B.c <;> rfl
    simp only [List.map_cons, List.map_nil, itm, e9] at h9
    exact h9
end Go.Proofs.Ytgeijboidfadaaa

namespace Go.Proofs.Ytgeijboidfadaaa
set_option linter.all false
open Go

/-! ### What the function that is ranged over asks of the rounds -/
/-- None of these blocks is older than N, none is a block of cells. -/
def Apart (N : Nat) (T : List Nat) (w : World) : Prop := ∀ k ∈ T, N ≤ k ∧ ∀ cs ty z, w.heap[k]? ≠ some (.cells cs ty z)
theorem Apart.nil (N : Nat) (w : World) : Apart N [] w := fun _ h => by cases h
theorem Apart.loop {N b : Nat} {w : World} {r : Loop} (h : N ≤ b) (hb : w.heap[b]? = some (.loop r)) : Apart N [b] w := fun k hk => by
  simp at hk; subst hk; exact ⟨h, fun _ _ _ e => by rw [hb] at e; cases e⟩
theorem Apart.cons {N b : Nat} {w : World} {T : List Nat} (h : Apart N T w) (hb : N ≤ b) (hd : ∀ cs ty z, w.heap[b]? ≠ some (.cells cs ty z)) : Apart N (b :: T) w := fun k hk => by
  rcases List.mem_cons.1 hk with rfl | hk
  · exact ⟨hb, hd⟩
  · exact h k hk
theorem Apart.le {N N' : Nat} {w : World} {T : List Nat} (h : Apart N T w) (hN : N' ≤ N) : Apart N' T w := fun k hk => ⟨Nat.le_trans hN (h k hk).1, (h k hk).2⟩
/-- What stays so if such blocks change. -/
def Stays (N : Nat) (J : World → Prop) : Prop := ∀ w1 w2 T, J w1 → Upd T w1 w2 → Apart N T w1 → J w2
theorem Stays.ext {N : Nat} {J : World → Prop} (h : Stays N J) {w1 w2 : World} (hj : J w1) (he : Ext w1 w2) : J w2 := h _ _ _ hj he (Apart.nil _ _)
theorem Stays.put {N : Nat} {J : World → Prop} (h : Stays N J) {w1 w2 : World} {b : Nat} {o : Obj} {r : Loop} (hj : J w1) (hp : Put b o w1 w2) (hN : N ≤ b) (hb : w1.heap[b]? = some (.loop r)) : J w2 := h _ _ _ hj hp.upd (Apart.loop hN hb)
theorem Yield.one {P : Program} {l : Nat} {f : FuncId} {tm : Array Value} {t : Tmp} {assign body : Code} {D : Nat} {v : Value} {w : World} {K : Value → World → Prop} {n : Nat} (k : List Item) {L : Tms} (L' : Tms)
    (hr : w.heap[l]? = some (.loop (lrec f tm #[t] assign body D .ready none))) (htm : Has n tm L) (hp : putL n L (some t) v = some L') (hn : norm 99 [.code assign, .beginRound, .code body] = k)
    (h : ∀ c cs, St P (rctx l f K c cs) n k L' [] w) : Yield P l #[v] w K := by
  refine ⟨_, hr, rfl, ?_⟩
  have e : ((#[t] : Array Tmp).zip #[v]).foldl (fun tmps (t, a) => tmps.setIfInBounds t a) tm = tm.setIfInBounds t v := by simp
  show Round P l f (((#[t] : Array Tmp).zip #[v]).foldl (fun tmps (t, a) => tmps.setIfInBounds t a) tm) assign body w K
  rw [e]
  exact Round.ofSt n k L' (htm.params hp) hn h

/-- What a function that is ranged over yields, by what it has captured. -/
structure ISpec where
  f : FuncId
  cap : List Sh
  elem : List Sh
  run : Shs.den cap → Option (List (Shs.den elem))
def g00 : Gh := ⟨fun _ => none, fun _ => none⟩
structure ISpecOK (P : Program) (s : ISpec) : Prop where
  flat : Shs.flat s.elem = true
  call : ∀ args, Sem.pv P (callFunc s.f args) = some (.enter s.f args)
  fn : ∀ (p : Shs.den s.cap) (es : List (Shs.den s.elem)), s.run p = some es → ∀ (g : Gh) (vs : List Value), RepVs g (encs id s.cap p) vs →
    ∀ (l : Nat) (S : List Nat) (J : List (Shs.den s.elem) → World → Prop) (Q : World → Prop) (w : World), (∀ b o, g.M b = some o → b ∉ l :: S ∧ w.heap[b]? = some o) → (∀ k ∈ l :: S, k < w.heap.size) → J es w → (∀ r, Stays w.heap.size (J r)) → Stays w.heap.size Q →
      (∀ m r w1 us, J (m :: r) w1 → Upd (l :: S) w w1 → RepVs g00 (encs id s.elem m) us → Yield P l us.toArray w1 (fun v w2 => Upd (l :: S) w1 w2 ∧ ((v = .bool true ∧ J r w2) ∨ (v = .bool false ∧ Q w2)))) →
      Fn P s.f (#[.func (.yield l) #[] #[]] ++ vs.toArray) w (fun _ w' => Upd (l :: S) w w' ∧ (J [] w' ∨ Q w'))

/-! ### The range -/
theorem At.rangeFunc {P : Program} {X : Ctx} {k : List Item} {a : Act} {w : World} {g : Operand} {ps : Array Tmp} {assign body : Code} (f : FuncId) (cap : Array Value)
    (hro : X.b.roundOf = none) (hg : a.eval g = .func (.func f) #[] cap) (hcf : ∀ args, Sem.pv P (callFunc f args) = some (.enter f args))
    (hh : ∀ w', Ext w w' → w'.heap.size = w.heap.size + 2 → w'.heap[w.heap.size]? = some (.deferred (some [])) →
      w'.heap[w.heap.size + 1]? = some (.loop (lrec X.b.fn a.tmps ps assign body w.heap.size .ready none)) →
      Fn P f (#[.func (.yield (w.heap.size + 1)) #[] #[]] ++ cap) w' (fun _ w3 => ∃ r, w3.heap[w.heap.size + 1]? = some (.loop r) ∧ r.state ≠ .busy ∧ ∀ w4, Put (w.heap.size + 1) (.loop { r with state := .exhausted }) w3 w4 →
        At P X ((r.pending.map Item.code).toList ++ k) { tmps := a.tmps, defers := mk w.heap.size :: a.defers } w4)) :
    At P X (.code (.rangeFunc g ps assign body) :: k) a w := by
  have h := St.rangeFunc (P := P) (X := X) (n := 0) (kk := .code (.rangeFunc g ps assign body) :: k) (k := k) (L := []) (df := a.defers) (w := w) (g := .const (.func (.func f) #[] cap)) (ps := ps) (assign := assign) (body := body) f #[] cap hro
  let w1 : World := { w with heap := w.heap.push (.deferred (some [])) }
  let w2 : World := { w1 with heap := w1.heap.push (.loop (lrec X.b.fn a.tmps ps assign body w.heap.size .ready none)) }
  have n1 := New.mk' (.deferred (some [])) w
  have n2 := New.mk' (.loop (lrec X.b.fn a.tmps ps assign body w.heap.size .ready none)) w1
  have hs1 : w1.heap.size = w.heap.size + 1 := n1.size
  have he : (Instr.enterLoop X.b.fn a.tmps ps assign body X.b.roundOf).run P w = .ok (w.heap.size + 1, [{ target := .collected w.heap.size, args := #[] }]) w2 := by
    rw [hro]
    simp [Instr.enterLoop, newObj, Sem.run, Result.andThen, w2, w1, lrec]
    rfl
  have hres : (resolve a.eval (rangeCall g (w.heap.size + 1)) 0).run P w2 = .ok { target := .fn (.func f) cap, args := #[.func (.yield (w.heap.size + 1)) #[] #[]] } w2 := by
    have hm : ∀ l : Nat, Array.map a.eval #[Operand.const (.func (.yield l) #[] #[])] = #[.func (.yield l) #[] #[]] := fun l => by simp [Act.eval]
    simp only [resolve, rangeCall, hg, Deferred.ofValue, hm, Sem.run_pure]
    simp
  have hinv : (invoke (.fn (.func f) cap) #[.func (.yield (w.heap.size + 1)) #[] #[]]).run P w2 = .ok (.enter f (#[.func (.yield (w.heap.size + 1)) #[] #[]] ++ cap)) w2 := by
    simp only [invoke]
    exact Sem.pv_run P _ _ (hcf _) w2
  refine .head (stepR_rangeFunc he hres hinv) ?_
  have hb := n2.blk
  rw [hs1] at hb
  obtain ⟨v, w3, fr, ⟨r, hr, hnb, hk⟩, st, _, hl⟩ := hh w2 (n1.ext.trans n2.ext) (by show w2.heap.size = _; rw [n2.size, hs1]) (n2.ext.blk n1.blk) hb
    (X.b.atR { tmps := a.tmps, defers := [{ target := .collected w.heap.size, args := #[] }] ++ a.defers } (.inRangeFunc (w.heap.size + 1) :: k) :: X.cs)
  refine .steps st (.head (step_leave_returned hl) ?_)
  rw [finish_atR_inRangeFunc]
  refine .head (stepR_endRangeFunc (endLoop_run hr hnb)) ?_
  exact hk _ (Put.mk' _ hr)

/-- What is known stays known, if other blocks change. -/
theorem Sim.upd {g : Gh} {h : Nat → Option Blk'} {w w' : World} {T : List Nat} (hs : Sim g h w) (hu : Upd T w w') (hM : ∀ b o, g.M b = some o → b ∉ T) (hk : ∀ i k b c n, h i = some k → k.mut = true → g.ρ i = some (some (b, c, n)) → b ∉ T) : Sim g h w' :=
  ⟨fun b o hb => hu.blk (hs.mem b o hb) (hM b o hb), fun i k hi => (hs.blk i k hi).step (GE.refl g) (fun hm b c n e hlt hMn => ⟨hu.same b hlt (hk i k b c n hi hm e), hMn⟩), hs.inj⟩
theorem foldl_put {g : Gh} : ∀ (ps : List Tmp) (as : List AV) (us : List Value) (L : LL) (tm : Array Value), TmF g (fun t => L.lookup t) tm → RepVs g as us → ps.length = as.length → (∀ t ∈ ps, t < tm.size) →
    TmF g (fun t => ((ps.zip as).foldl (fun L x => x :: L) L).lookup t) ((ps.zip us).foldl (fun tm x => tm.setIfInBounds x.1 x.2) tm) ∧ ((ps.zip us).foldl (fun tm x => tm.setIfInBounds x.1 x.2) tm).size = tm.size
  | [], as, us, L, tm, h, _, _, _ => by simpa using h
  | t :: ps, [], us, L, tm, _, _, hl, _ => by simp at hl
  | t :: ps, a :: as, us, L, tm, h, hr, hl, ht => by
    simp only [RepVs] at hr
    obtain ⟨v, us, rfl, h1, h2⟩ := hr
    simp only [List.zip_cons_cons, List.foldl_cons]
    have h3 : TmF g (fun s => ((t, a) :: L).lookup s) (tm.setIfInBounds t v) := by
      intro s b hs
      simp only [List.lookup_cons] at hs
      by_cases e : s = t
      · subst e
        simp at hs; subst hs
        have := ht s (by simp)
        rw [Array.getD_eq_getD_getElem?, Array.getElem?_setIfInBounds_self_of_lt this]
        exact h1
      · have hne : (s == t) = false := by simpa using e
        rw [hne] at hs
        rw [Array.getD_eq_getD_getElem?, Array.getElem?_setIfInBounds_ne (fun h => e h.symm), ← Array.getD_eq_getD_getElem?]
        exact h s b hs
    obtain ⟨q1, q2⟩ := foldl_put ps as us _ _ h3 h2 (by simpa using hl) (fun s hs => by simpa using ht s (by simp [hs]))
    exact ⟨q1, by simpa using q2⟩
end Go.Proofs.Ytgeijboidfadaaa

namespace Go.Proofs.Ytgeijboidfadaaa
set_option linter.all false
open Go

/-- A way out of the rounds: a jump out of them, or a return. -/
structure Esc (A Z : Type) where
  pe : List Nat
  rest : List PI
  blks : List BSh
  fn : A → BShs.den blks → Option Z
abbrev Esc.leaf {A Z : Type} (e : Esc A Z) (a : A) : Leaf Z := ⟨.c e.pe :: e.rest, ⟨[], ⟨[], e.blks⟩⟩, fun b => e.fn a b.2⟩
def BSh.isMap : BSh → Bool
  | .map _ _ => true
  | _ => false
def Esc.ok {A Z : Type} (c : Code) (kb : Nat) (e : Esc A Z) : Bool :=
  (match sub c e.pe with | .exit id => (exitTo id (e.rest.map (itm c))).isNone | .ret => true | _ => false) && (e.blks.drop kb).all (fun s => !s.isMap)
def locs (g : Gh) (k : Nat) : List Nat := (List.range k).filterMap fun i => match g.ρ i with | some (some (b, _, _)) => some b | _ => none
theorem mem_locs {g : Gh} {k i b c n : Nat} (hi : i < k) (h : g.ρ i = some (some (b, c, n))) : b ∈ locs g k :=
  List.mem_filterMap.2 ⟨i, by simpa using hi, by rw [h]⟩
theorem of_locs {g : Gh} {k b : Nat} (h : b ∈ locs g k) : ∃ i c n, i < k ∧ g.ρ i = some (some (b, c, n)) := by
  obtain ⟨i, hi, h⟩ := List.mem_filterMap.1 h
  split at h
  · rename_i b' c n e
    simp only [Option.some.injEq] at h
    subst h
    exact ⟨i, c, n, by simpa using hi, e⟩
  · cases h
/-- The parameters of a round. -/
def pars (ps : List Tmp) (as : List AV) (L : LL) : LL := (ps.zip as).foldl (fun L x => x :: L) L
theorem isCel_some {o : Obj} (h : isCel o = true) : ∃ cs ty z, o = .cells cs ty z := by cases o <;> simp [isCel] at h; exact ⟨_, _, _, rfl⟩
theorem hOf_get {ss : List BSh} (hlive : ss.all BSh.live = true) (p : BShs.den ss) {i : Nat} (hi : i < ss.length) : ∃ k, hOf p i = some k ∧ k.mut = true := by
  have hb : (encBs id ss p)[i]? = some ((encBs id ss p)[i]'(by rw [encBs_len]; exact hi)) := List.getElem?_eq_getElem _
  obtain ⟨s, q, hs0, e⟩ := encBs_at id ss p i _ hb
  rw [e] at hb
  exact ⟨_, hb, encB_mut _ _ _ (List.all_eq_true.1 hlive s (List.mem_of_getElem? hs0))⟩

section
variable {P : Program} {B : Body} {is : ISpec} {Z : Type} {p : List Nat} {k : List PI} {g : Operand} {ps : Array Tmp} {assign body : Code}
theorem range_ok {x : LoopS} (cap : x.sta.sh.den → Shs.den is.cap) (F : List (Shs.den is.elem) → x.sta.sh.den → Option Z) {staA : Sta} (FA : List (Shs.den is.elem) → Shs.den x.sta.sh.avs → staA.sh.den → Option Z) (escs : List (Esc (Shs.den x.sta.sh.avs) Z)) (glue : Z → exD x.exits)
    (hrun : ∀ (Y : Type) (q : x.sta.sh.den) (κ : exD x.exits → Option Y), x.run q κ = ((is.run (cap q)).bind fun es => F es q).bind fun z => κ (glue z))
    (hat : x.at_ = .c p :: k) (hsub : sub B.c p = .rangeFunc g ps assign body) (hcap : ∀ q, opd (stL x.sta q) g = some (.fn is.f [] (encs id is.cap (cap q))))
    (hps : (decide (ps.size = is.elem.length) && ps.toList.all (fun t => decide (t < B.n))) = true) (hok : ISpecOK P is) (hm : B.m0 ≤ x.sta.sh.blks.length) (hes : escs.all (Esc.ok B.c x.sta.sh.blks.length) = true)
    (hend : ∀ (z : Z) (E : EE) (Xc : Ctx), EOK B.m0 E → CxOK true Xc → (∀ a w, SR B.n B.m0 E (exK x.exits (glue z)).2.1 (exK x.exits (glue z)).2.2 a w → At P Xc ((exK x.exits (glue z)).1.map (itm B.c)) a w) →
      LeafOK P B.c B.n B.m0 E Xc z ⟨nrm B.c 99 k, x.sta, F []⟩)
    (hesc : ∀ (z : Z) (E : EE) (Xc : Ctx), EOK B.m0 E → CxOK true Xc → (∀ a w, SR B.n B.m0 E (exK x.exits (glue z)).2.1 (exK x.exits (glue z)).2.2 a w → At P Xc ((exK x.exits (glue z)).1.map (itm B.c)) a w) →
      ∀ e ∈ escs, ∀ (q1 : Shs.den x.sta.sh.avs) (b : BShs.den e.blks), e.fn q1 b = some z → ∀ a w, SR B.n B.m0 E (x.sta.tmps.zip (encs id x.sta.sh.avs q1)) (encBs id e.blks b) a w → At P Xc ((nrm B.c 99 (.c e.pe :: k)).map (itm B.c)) a w)
    (hA : ∀ (z : Z) (E : EE) (Xc : Ctx), EOK x.sta.sh.blks.length E → CxOK false Xc → ∀ e es q, LeafOK P B.c B.n x.sta.sh.blks.length E Xc z ⟨[.r, .c (p ++ [1])], staA, FA es q.1⟩ →
      F (e :: es) q = some z → ∀ a w, SR B.n x.sta.sh.blks.length E (pars ps.toList (encs id is.elem e) (stL x.sta q)) (stH x.sta q) a w → At P Xc ((nrm B.c 99 [.c (p ++ [0]), .r, .c (p ++ [1])]).map (itm B.c)) a w)
    (hB : ∀ (z : Z) (E : EE) (Xc : Ctx), EOK x.sta.sh.blks.length E → CxOK false Xc → ∀ es q1, LeafOK P B.c B.n x.sta.sh.blks.length E Xc z ⟨[], ⟨[], ⟨[], x.sta.sh.blks⟩⟩, fun b => F es (q1, b.2)⟩ → (∀ e ∈ escs, LeafOK P B.c B.n x.sta.sh.blks.length E Xc z (e.leaf q1)) →
      LeafOK P B.c B.n x.sta.sh.blks.length E Xc z ⟨nrm B.c 99 [.c (p ++ [1])], staA, FA es q1⟩) (hlive : x.sta.sh.blks.all BSh.live = true := by rfl) : LoopOK P B.c B.n B.m0 true x := by
  refine ⟨fun Y q κ => ?_, fun q e he E hE Xc a w hX hS hx => ?_⟩
  · rw [hrun, hrun]
    cases (is.run (cap q)).bind fun es => F es q <;> rfl
  rw [hrun] at he
  obtain ⟨z, hz, h2⟩ := bind_some he
  cases h2
  obtain ⟨es, hes1, hF⟩ := bind_some hz
  clear he hz
  obtain ⟨g0, hs0, htm0, hhi0, hE0⟩ := hS.ex
  obtain ⟨lo, hlo, hmk, hupd⟩ := hE.upd
  have hlow := hlo _ _ _ hE0
  simp only [Bool.and_eq_true, decide_eq_true_eq, List.all_eq_true] at hps
  have hlenH : (stH x.sta q).length = x.sta.sh.blks.length := encBs_len _ _ _
  have hhi0' : ∀ i, x.sta.sh.blks.length ≤ i → g0.ρ i = none := fun i hi => hhi0 i (by omega)
  have hMlt : ∀ b o, g0.M b = some o → b < w.heap.size := fun b o hb => lt_of_blk (hs0.mem b o hb)
  have hloc : ∀ i b c n, g0.ρ i = some (some (b, c, n)) → b < w.heap.size ∧ g0.M b = none := by
    intro i b c n e
    rcases Nat.lt_or_ge i x.sta.sh.blks.length with h | h
    · obtain ⟨k0, h1, h2⟩ := hOf_get hlive q.2 h
      exact hs0.lt h1 h2 e
    · rw [hhi0' i h] at e; cases e
  -- the function's value
  have hev := opd_eval (tm := a.tmps) (df := a.defers) (fun t _ a ha => htm0 t a ha) (hcap q)
  simp only [RepV] at hev
  obtain ⟨va, vc, hev, hva, hvc⟩ := hev
  simp only [RepVs] at hva
  subst hva
  let kb := x.sta.sh.blks.length
  let l := w.heap.size + 1
  let dsM := mk w.heap.size :: a.defers
  let lr := fun (st : LoopState) (pd : Option Code) => Obj.loop (lrec Xc.b.fn a.tmps ps assign body w.heap.size st pd)
  let Good : Gh → Prop := fun g => (∀ i, i < kb → g.ρ i = g0.ρ i) ∧ (∀ b o, g0.M b = some o → g.M b = some o) ∧ (∀ b o, g.M b = some o → g0.M b = some o ∨ isCel o = true)
  let J : List (Shs.den is.elem) → World → Prop := fun es w2 => ∃ g b, Good g ∧ (∀ i, kb ≤ i → g.ρ i = none) ∧ Sim g (hOf b) w2 ∧ E dsM g w2 ∧ w2.heap[l]? = some (lr .ready none) ∧ F es (q.1, b) = some z
  let Q : World → Prop := fun w2 => ∃ e ∈ escs, ∃ g b, Good g ∧ (∀ i, e.blks.length ≤ i → g.ρ i = none) ∧ kb ≤ e.blks.length ∧ Sim g (hOf b) w2 ∧ E dsM g w2 ∧ w2.heap[l]? = some (lr .done (some (sub B.c e.pe))) ∧ e.fn q.1 b = some z
  let S := locs g0 kb
  have hSlt : ∀ b ∈ S, b < w.heap.size ∧ g0.M b = none := fun b hb => by
    obtain ⟨i, c, n, _, e⟩ := of_locs hb
    exact hloc i b c n e
  -- blocks that the function that is ranged over may change
  have apM : ∀ {g : Gh} {h : Nat → Option Blk'} {w1 : World} {T : List Nat}, Good g → Sim g h w1 → Apart (w.heap.size + 2) T w1 → ∀ b o, g.M b = some o → b ∉ T := by
    intro g h w1 T hg hs hT b o hb hbT
    obtain ⟨h1, h2⟩ := hT b hbT
    rcases hg.2.2 b o hb with h3 | h3
    · have := hMlt b o h3; omega
    · obtain ⟨cs, ty, z, rfl⟩ := isCel_some h3
      exact h2 _ _ _ (hs.mem b _ hb)
  have apE : ∀ {g : Gh} {w1 w2 : World} {T : List Nat}, E dsM g w1 → Upd T w1 w2 → (∀ k ∈ T, w.heap.size + 1 ≤ k) → E dsM g w2 := by
    intro g w1 w2 T he hu hT
    refine hupd _ _ _ _ T he hu (fun k hk => ⟨by have := hT k hk; omega, fun hmem => ?_⟩)
    have h1 := hT k hk
    rcases List.mem_cons.1 hmem with h2 | h2
    · simp only [mk, Deferred.mk.injEq, Target.collected.injEq] at h2
      omega
    · have := hmk _ _ _ _ hE0 h2; omega
  have stJ : ∀ r, Stays (w.heap.size + 2) (J r) := by
    rintro r w1 w2 T ⟨g, b, hg, hhi, hs, he, hl, hf⟩ hu hT
    refine ⟨g, b, hg, hhi, hs.upd hu (apM hg hs hT) (fun i k b' c n _ _ e hb => ?_), apE he hu (fun k hk => by have := (hT k hk).1; omega), hu.blk hl (fun h => by have := (hT _ h).1; omega), hf⟩
    rcases Nat.lt_or_ge i kb with h | h
    · rw [hg.1 i h] at e
      have := (hloc i b' c n e).1
      have := (hT b' hb).1
      omega
    · rw [hhi i h] at e; cases e
  have stQ : Stays (w.heap.size + 2) Q := by
    rintro w1 w2 T ⟨e, hem, g, b, hg, hhi, hle, hs, he, hl, hf⟩ hu hT
    refine ⟨e, hem, g, b, hg, hhi, hle, hs.upd hu (apM hg hs hT) (fun i k b' c n hk hm e' hb => ?_), apE he hu (fun k hk => by have := (hT k hk).1; omega), hu.blk hl (fun h => by have := (hT _ h).1; omega), hf⟩
    rcases Nat.lt_or_ge i kb with h | h
    · rw [hg.1 i h] at e'
      have := (hloc i b' c n e').1
      have := (hT b' hb).1
      omega
    · obtain ⟨s, y, hsi, rfl⟩ := encBs_at id e.blks b i k hk
      have hnm : s.isMap = false := by
        have := List.all_eq_true.1 hes e hem
        simp only [Esc.ok, Bool.and_eq_true, List.all_eq_true] at this
        have := this.2 s (List.mem_iff_getElem?.2 ⟨i - kb, by rw [List.getElem?_drop, show kb + (i - kb) = i by omega]; exact hsi⟩)
        simpa using this
      have hB := hs.blk i _ hk
      cases s with
      | dead => cases hm
      | map _ _ => simp [BSh.isMap] at hnm
      | segs _ =>
        obtain ⟨b1, _, _, vs, ty, e1, h3, _⟩ := hB
        rw [e'] at e1; cases e1
        exact (hT b' hb).2 _ _ _ h3
      | lst _ =>
        obtain ⟨_, ⟨e1, _⟩ | ⟨b1, _, _, _, _, e1, h3, _⟩⟩ := hB
        · rw [e'] at e1; cases e1
        · rw [e'] at e1; cases e1
          exact (hT b' hb).2 _ _ _ h3
  -- the loop's object is no block that is known
  have hMl : ∀ {g' : Gh} {h : Nat → Option Blk'} {w' : World} {r : Loop}, (∀ b o, g'.M b = some o → g0.M b = some o ∨ isCel o = true) → Sim g' h w' → w'.heap[l]? = some (.loop r) → ∀ b o, g'.M b = some o → b ∉ [l] := by
    intro g' h w' r hg hs hl b o hb hbl
    simp only [List.mem_singleton] at hbl
    subst hbl
    have := hs.mem _ _ hb
    rw [hl] at this; cases this
    rcases hg _ _ hb with h3 | h3
    · have := hMlt _ _ h3; omega
    · simp [isCel] at h3
  have hkl : ∀ {g' : Gh} {h : Nat → Option Blk'} {w' : World} {r : Loop}, Sim g' h w' → w'.heap[l]? = some (.loop r) → ∀ i k b c n, h i = some k → k.mut = true → g'.ρ i = some (some (b, c, n)) → b ∉ [l] := by
    intro g' h w' r hs hl i k b c n h1 h2 h3 hbl
    simp only [List.mem_singleton] at hbl
    subst hbl
    rcases hs.kind h1 h2 h3 with ⟨_, _, _, h4⟩ | ⟨_, _, h4⟩ <;> (rw [hl] at h4; cases h4)
  have e0 : sub B.c (p ++ [0]) = assign := by rw [sub_app, hsub]; cases assign <;> rfl
  have e1 : sub B.c (p ++ [1]) = body := by rw [sub_app, hsub]; cases body <;> rfl
  have htmG : ∀ {g : Gh}, Good g → (∀ i, kb ≤ i → True) → TmF g (fun t => (stL x.sta q).lookup t) a.tmps := by
    intro g hg _
    have hGE : GE g0 g := by
      refine ⟨fun i y hy => ?_, hg.2.1⟩
      rcases Nat.lt_or_ge i kb with h | h
      · rw [hg.1 i h]; exact hy
      · rw [hhi0' i h] at hy; cases hy
    exact fun t av ht => RepV.mono hGE av _ (htm0 t av ht)
  rw [hat, List.map_cons]
  simp only [itm, hsub]
  refine At.rangeFunc is.f vc.toArray (hX rfl) hev hok.call (fun w1 he1 hsz hD hl => ?_)
  have hE1 : E dsM g0 w1 := hE.mark _ _ _ _ hE0 he1 hD (by
    cases hM : g0.M w.heap.size with
    | none => rfl
    | some o => have := hMlt _ _ hM; omega)
  have hs1 : Sim g0 (hOf q.2) w1 := hs0.upd he1 (fun _ _ _ h => by cases h) (fun _ _ _ _ _ _ _ _ h => by cases h)
  have hJ0 : J es w1 := ⟨g0, q.2, ⟨fun _ _ => rfl, fun _ _ h => h, fun _ _ h => .inl h⟩, hhi0', hs1, hE1, hl, hF⟩
  refine (hok.fn (cap q) es hes1 g0 vc hvc l S J Q w1 (fun b o hb => ⟨fun hm => ?_, hs1.mem b o hb⟩) (fun b hb => ?_) hJ0 (fun r => by rw [hsz]; exact stJ r) (by rw [hsz]; exact stQ) (fun m r w2 us hJ hU hus => ?_)).mono (fun v w3 hpost => ?_)
  · have := hMlt b o hb
    rcases List.mem_cons.1 hm with rfl | hm
    · omega
    · rw [(hSlt b hm).2] at hb; cases hb
  · rcases List.mem_cons.1 hb with rfl | hb
    · omega
    · have := (hSlt b hb).1; omega
  · -- a round
    obtain ⟨g, b, hg, hhi, hs, he, hl2, hf⟩ := hJ
    refine ⟨_, hl2, ?_, Round.of fun c cs => ?_⟩
    · have := (repVs_get hus).1
      rw [encs_len] at this
      simp [lrec, this, hps.1]
    let S0 : Nat → Prop := fun b' => b' = l ∨ Sw g (hOf b) (List.range kb) b'
    have hknown : ∀ i, i < kb → ∃ y, g.ρ i = some y := fun i hi => by
      obtain ⟨k0, h1, h2⟩ := hOf_get hlive b hi
      exact (hs.blk i k0 h1).known h2
    have hS0 : ∀ i b' c k0, i < kb → g.ρ i = some (some (b', c, k0)) → S0 b' := fun i b' c k0 hi e => by
      obtain ⟨k1, h1, h2⟩ := hOf_get hlive b hi
      exact .inr ⟨i, by simpa using hi, k1, c, k0, h1, h2, e⟩
    have hEnt : EOK0 kb (fun _ => Ent S0 kb g w2) := Ent.ok hS0 hknown
    have hent0 : Ent S0 kb g w2 g w2 := ⟨rfl, rfl, rfl, Nat.le_refl _, fun _ _ _ => rfl, fun _ _ h => h, fun _ _ h => .inl h, fun _ _ => rfl, fun i b' c k0 hi e => by rw [hhi i hi] at e; cases e⟩
    have hlsz : l < w2.heap.size := lt_of_blk hl2
    let E' : LoopState → EE := fun st ds g' w' => (∀ D, mk D ∈ ds → D < w'.heap.size) ∧ Ent S0 kb g w2 g' w' ∧ E dsM g' w' ∧ w'.heap[l]? = some (lr st none)
    have hE' : ∀ st, EOK kb (E' st) := fun st => ⟨⟨fun {ds g' g'' h w' w'' wr nw} hn hs st1 he' => ⟨fun D hD => Nat.lt_of_lt_of_le (he'.1 D hD) st1.size, hEnt.step (ds := []) hn hs st1 he'.2.1, hE.step (fun i hi => Nat.le_trans hm (hn i hi)) hs st1 he'.2.2.1, by
            rw [st1.same l (lt_of_blk he'.2.2.2) (fun hx => by
              rcases Sw.kind hs hx with ⟨_, _, _, h4⟩ | ⟨_, _, h4⟩ <;> (rw [he'.2.2.2] at h4; cases h4))]
            exact he'.2.2.2⟩,
        fun ds g' w' he' => ⟨he'.1, hEnt.bump [] _ _ he'.2.1, hE.bump _ _ _ he'.2.2.1, he'.2.2.2⟩,
        fun ds g' w' σ he' h1 h2 => ⟨he'.1, hEnt.reb [] _ _ _ he'.2.1 h1 h2, hE.reb _ _ _ _ he'.2.2.1 (fun i hi => h1 i (Nat.lt_of_lt_of_le hi hm)) h2, he'.2.2.2⟩⟩,
      ⟨w2.heap.size, fun ds g' w' he' => he'.2.1.size, fun ds g' w' D he' hD => he'.1 D hD, fun ds g' w' w'' T he' hu hT => ⟨fun D hD => Nat.lt_of_lt_of_le (he'.1 D hD) hu.size, he'.2.1.upd hu (fun k hk => .inl (hT k hk).1), apE he'.2.2.1 hu (fun k hk => by have := (hT k hk).1; omega), hu.blk he'.2.2.2 (fun hk => by have := (hT l hk).1; omega)⟩⟩,
      fun ds g' w' w'' he' hu hb' hM => ⟨fun D hD => by
          rcases List.mem_cons.1 hD with h | h
          · simp only [mk, Deferred.mk.injEq, Target.collected.injEq] at h
            rw [h.1]; exact lt_of_blk hb'
          · exact Nat.lt_of_lt_of_le (he'.1 D h) hu.size, he'.2.1.upd hu (fun _ h => by cases h), apE he'.2.2.1 hu (fun _ h => by cases h), hu.blk he'.2.2.2⟩⟩
    have hgood : ∀ {st ds g' w'}, E' st ds g' w' → Good g' := fun {st ds g' w'} he' => ⟨fun i hi => (he'.2.1.pin i hi).trans (hg.1 i hi), fun b o h => he'.2.1.M b o (hg.2.1 b o h), fun b o h => by
      rcases he'.2.1.Mn b o h with h1 | ⟨_, _, h1⟩
      · exact hg.2.2 b o h1
      · exact .inr h1⟩
    have hU2 : ∀ {st ds g' w' w'' o}, E' st ds g' w' → Put l o w' w'' → Upd (l :: S) w2 w'' := fun {st ds g' w' w'' o} he' hp => by
      have h1 : Upd (l :: S) w2 w' := ⟨he'.2.1.os, he'.2.1.tape, he'.2.1.output, he'.2.1.size, fun b' hb hn => he'.2.1.same b' hb (fun hx => hn (by
        rcases hx with rfl | ⟨i, hi, k0, c, n, _, _, e⟩
        · exact List.mem_cons_self
        · have hi' : i < kb := by simpa using hi
          rw [hg.1 i hi'] at e
          exact List.mem_cons_of_mem _ (mem_locs hi' e)))⟩
      exact h1.trans (hp.upd.mono (fun k hk => by simp at hk; simp [hk]))
    have hus' : RepVs g (encs id is.elem m) us := flat_encs is.elem m us hok.flat hus
    obtain ⟨htm', hsz'⟩ := foldl_put ps.toList (encs id is.elem m) us _ a.tmps (htmG hg (fun _ _ => trivial)) hus' (by rw [encs_len]; simpa using hps.1) (fun t ht => Nat.lt_of_lt_of_le (hps.2 t ht) hS.sz)
    have hfold : (ps.zip us.toArray).foldl (fun tmps (t, a) => tmps.setIfInBounds t a) a.tmps = (ps.toList.zip us).foldl (fun tm x => tm.setIfInBounds x.1 x.2) a.tmps := by
      rw [← Array.foldl_toList, Array.toList_zip]
    have hSR : SR B.n kb (E' .ready) (pars ps.toList (encs id is.elem m) (stL x.sta (q.1, b))) (stH x.sta (q.1, b)) { tmps := (ps.toList.zip us).foldl (fun tm x => tm.setIfInBounds x.1 x.2) a.tmps, defers := [] } w2 :=
      ⟨⟨g, hs, htm', fun i hi => hhi i (by simpa [stH, encBs_len] using hi), fun _ h => (by cases h), hent0, he, hl2⟩, by rw [hsz']; exact hS.sz, by simp [stH, encBs_len, kb]⟩
    show At P (rctx l Xc.b.fn _ c cs) [.code assign, .beginRound, .code body] { tmps := (ps.zip us.toArray).foldl (fun tmps (t, a) => tmps.setIfInBounds t a) a.tmps, defers := [] } w2
    rw [hfold]
    have hno : ∀ K, CxOK false (rctx l Xc.b.fn K c cs) := fun K h => by cases h
    have hend' : LeafOK P B.c B.n kb (E' .busy) (rctx l Xc.b.fn (fun v w3 => Upd (l :: S) w2 w3 ∧ ((v = .bool true ∧ J r w3) ∨ (v = .bool false ∧ Q w3))) c cs) z ⟨[], ⟨[], ⟨[], x.sta.sh.blks⟩⟩, fun b => F r (q.1, b.2)⟩ := by
      intro b' hb' a' w' hS'
      obtain ⟨g', hs', _, hhi', he'⟩ := hS'.ex
      have hp := Put.mk' (.loop { lrec Xc.b.fn a.tmps ps assign body w.heap.size .busy none with state := .ready, pending := none }) he'.2.2.2
      refine .head (stepR_round_end rfl rfl (endRound_run none he'.2.2.2)) ⟨_, ⟨_, _, ⟨hU2 he' hp, .inl ⟨rfl, g', b'.2, hgood he', fun i hi => hhi' i (by simpa [stH, encBs_len] using hi), hs'.upd hp.upd (hMl (hgood he').2.2 hs' he'.2.2.2) (hkl hs' he'.2.2.2), apE he'.2.2.1 hp.upd (fun k hk => by simp at hk; omega), hp.blk, hb'⟩⟩, rfl⟩, Steps.refl _ _⟩
    have hesc' : ∀ e ∈ escs, LeafOK P B.c B.n kb (E' .busy) (rctx l Xc.b.fn (fun v w3 => Upd (l :: S) w2 w3 ∧ ((v = .bool true ∧ J r w3) ∨ (v = .bool false ∧ Q w3))) c cs) z (e.leaf q.1) := by
      intro e hem b' hb' a' w' hS'
      obtain ⟨g', hs', _, hhi', he'⟩ := hS'.ex
      have hle : kb ≤ e.blks.length := by have := hS'.m; simpa [stH, encBs_len] using this
      have hok' := List.all_eq_true.1 hes e hem
      simp only [Esc.ok, Bool.and_eq_true] at hok'
      have hp := fun j : Code => Put.mk' (.loop { lrec Xc.b.fn a.tmps ps assign body w.heap.size .busy none with state := .done, pending := some j }) he'.2.2.2
      have fin : ∀ (j : Code), sub B.c e.pe = j → Upd (l :: S) w2 { w' with heap := w'.heap.setIfInBounds l (.loop { lrec Xc.b.fn a.tmps ps assign body w.heap.size .busy none with state := .done, pending := some j }) } ∧ ((Value.bool false = .bool true ∧ J r { w' with heap := w'.heap.setIfInBounds l (.loop { lrec Xc.b.fn a.tmps ps assign body w.heap.size .busy none with state := .done, pending := some j }) }) ∨ (Value.bool false = .bool false ∧ Q { w' with heap := w'.heap.setIfInBounds l (.loop { lrec Xc.b.fn a.tmps ps assign body w.heap.size .busy none with state := .done, pending := some j }) })) := fun j hj => ⟨hU2 he' (hp j), .inr ⟨rfl, e, hem, g', b'.2, hgood he', fun i hi => hhi' i (by simpa [stH, encBs_len] using hi), hle, hs'.upd (hp j).upd (hMl (hgood he').2.2 hs' he'.2.2.2) (hkl hs' he'.2.2.2), apE he'.2.2.1 (hp j).upd (fun k hk => by simp at hk; omega), by rw [hj]; exact (hp j).blk, hb'⟩⟩
      split at hok'
      · rename_i id hsb
        simp only [List.map_cons, itm, hsb]
        refine .head (stepR_round_exit rfl rfl (by simpa using hok'.1) (endRound_run (some (.exit id)) he'.2.2.2)) ⟨_, ⟨_, _, fin _ hsb, rfl⟩, Steps.refl _ _⟩
      · rename_i hsb
        simp only [List.map_cons, itm, hsb]
        refine .head (stepR_round_ret rfl rfl (endRound_run (some .ret) he'.2.2.2)) ⟨_, ⟨_, _, fin _ hsb, rfl⟩, Steps.refl _ _⟩
      · cases hok'.1
    have hfirst : LeafOK P B.c B.n kb (E' .ready) (rctx l Xc.b.fn (fun v w3 => Upd (l :: S) w2 w3 ∧ ((v = .bool true ∧ J r w3) ∨ (v = .bool false ∧ Q w3))) c cs) z ⟨[.r, .c (p ++ [1])], staA, FA r q.1⟩ := by
      intro pA hpA a' w' hS'
      obtain ⟨g', hs', ht', hhi', he'⟩ := hS'.ex
      have hp := Put.mk' (.loop { lrec Xc.b.fn a.tmps ps assign body w.heap.size .ready none with state := .busy }) he'.2.2.2
      refine .head (stepR_beginRound rfl (beginRound_run he'.2.2.2 rfl)) ?_
      have hS'' : SR B.n kb (E' .busy) (stL staA pA) (stH staA pA) a' { w' with heap := w'.heap.setIfInBounds l (.loop { lrec Xc.b.fn a.tmps ps assign body w.heap.size .ready none with state := .busy }) } :=
        ⟨⟨g', hs'.upd hp.upd (hMl (hgood he').2.2 hs' he'.2.2.2) (hkl hs' he'.2.2.2), ht', hhi', fun D hD => by have := he'.1 D hD; rw [hp.size]; exact this, he'.2.1.upd hp.upd (fun k hk => .inr (.inl (by simpa using hk))), apE he'.2.2.1 hp.upd (fun k hk => by simp at hk; omega), hp.blk⟩, hS'.sz, hS'.m⟩
      exact At.nrmk (c := B.c) 99 (k := [.c (p ++ [1])]) (hB z (E' .busy) _ (hE' _) (hno _) r q.1 hend' hesc' pA hpA a' _ hS'')
    have := At.nrmk (c := B.c) 99 (k := [.c (p ++ [0]), .r, .c (p ++ [1])]) (hA z (E' .ready) _ (hE' _) (hno _) m r (q.1, b) hfirst hf _ _ hSR)
    simp only [List.map_cons, List.map_nil, itm, e0, e1] at this
    exact this
  · obtain ⟨_, ⟨g, b, hg, hhi, hs, he, hl3, hf⟩ | ⟨e, hem, g, b, hg, hhi, hle, hs, he, hl3, hf⟩⟩ := hpost
    · refine ⟨_, hl3, by simp [lrec], fun w4 hp => ?_⟩
      have hSR : SR B.n B.m0 E (stL x.sta (q.1, b)) (stH x.sta (q.1, b)) { tmps := a.tmps, defers := dsM } w4 :=
        ⟨⟨g, hs.upd hp.upd (hMl hg.2.2 hs hl3) (hkl hs hl3), htmG hg (fun _ _ => trivial), fun i hi => hhi i (by simpa [stH, encBs_len] using hi), apE he hp.upd (fun k hk => by simp at hk; omega)⟩, hS.sz, by simp only [stH, encBs_len]; exact hm⟩
      exact At.nrmk (c := B.c) 99 (k := k) (hend z E Xc hE hX hx (q.1, b) hf _ _ hSR)
    · refine ⟨_, hl3, by simp [lrec], fun w4 hp => ?_⟩
      have hSR : SR B.n B.m0 E (x.sta.tmps.zip (encs id x.sta.sh.avs q.1)) (encBs id e.blks b) { tmps := a.tmps, defers := dsM } w4 :=
        ⟨⟨g, hs.upd hp.upd (hMl hg.2.2 hs hl3) (hkl hs hl3), htmG hg (fun _ _ => trivial), fun i hi => hhi i (by simpa [encBs_len] using hi), apE he hp.upd (fun k hk => by simp at hk; omega)⟩, hS.sz, by simp only [encBs_len]; exact Nat.le_trans hm hle⟩
      have := At.nrmk (c := B.c) 99 (k := .c e.pe :: k) (hesc z E Xc hE hX hx e hem q.1 b hf _ _ hSR)
      exact this
end
end Go.Proofs.Ytgeijboidfadaaa

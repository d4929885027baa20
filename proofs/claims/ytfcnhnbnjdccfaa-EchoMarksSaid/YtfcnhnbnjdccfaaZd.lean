/-
  Parts of a proof, put together: Sv25.
  Conditions: none.
-/
import Derived.Test.YtfcnhnbnjdccfaaZc
namespace Go.Proofs.Ytfcnhnbnjdccfaa
set_option linter.all false
open Go

/-- A way out of the rounds: a jump out of them, or a return. -/
structure Esc (A Z : Type) where
  pe : List Nat
  rest : List PI
  blks : List BSh
  fn : A → BShs.den blks → Option Z
abbrev Esc.leaf {A Z : Type} (e : Esc A Z) (a : A) : Leaf Z := ⟨.c e.pe :: e.rest, ⟨[], ⟨[], e.blks⟩⟩, fun b => e.fn a b.2⟩
def BSh.isMap : BSh → Bool
  | .map _ _ => true
  | _ => false
def Esc.ok {A Z : Type} (c : Code) (kb : Nat) (e : Esc A Z) : Bool :=
  (match sub c e.pe with | .exit id => (exitTo id (e.rest.map (itm c))).isNone | .ret => true | _ => false) && (e.blks.drop kb).all (fun s => !s.isMap)
def locs (g : Gh) (k : Nat) : List Nat := (List.range k).filterMap fun i => match g.ρ i with | some (some (b, _, _)) => some b | _ => none
theorem mem_locs {g : Gh} {k i b c n : Nat} (hi : i < k) (h : g.ρ i = some (some (b, c, n))) : b ∈ locs g k :=
  List.mem_filterMap.2 ⟨i, by simpa using hi, by rw [h]⟩
theorem of_locs {g : Gh} {k b : Nat} (h : b ∈ locs g k) : ∃ i c n, i < k ∧ g.ρ i = some (some (b, c, n)) := by
  obtain ⟨i, hi, h⟩ := List.mem_filterMap.1 h
  split at h
  · rename_i b' c n e
    simp only [Option.some.injEq] at h
    subst h
    exact ⟨i, c, n, by simpa using hi, e⟩
  · cases h
/-- The parameters of a round. -/
def pars (ps : List Tmp) (as : List AV) (L : LL) : LL := (ps.zip as).foldl (fun L x => x :: L) L
theorem isCel_some {o : Obj} (h : isCel o = true) : ∃ cs ty z, o = .cells cs ty z := by cases o <;> simp [isCel] at h; exact ⟨_, _, _, rfl⟩
theorem hOf_get {ss : List BSh} (hlive : ss.all BSh.live = true) (p : BShs.den ss) {i : Nat} (hi : i < ss.length) : ∃ k, hOf p i = some k ∧ k.mut = true := by
  have hb : (encBs id ss p)[i]? = some ((encBs id ss p)[i]'(by rw [encBs_len]; exact hi)) := List.getElem?_eq_getElem _
  obtain ⟨s, q, hs0, e⟩ := encBs_at id ss p i _ hb
  rw [e] at hb
  exact ⟨_, hb, encB_mut _ _ _ (List.all_eq_true.1 hlive s (List.mem_of_getElem? hs0))⟩

section
variable {P : Program} {B : Body} {is : ISpec} {Z : Type} {p : List Nat} {k : List PI} {g : Operand} {ps : Array Tmp} {assign body : Code}
theorem range_ok {x : LoopS} (cap : x.sta.sh.den → Shs.den is.cap) (F : List (Shs.den is.elem) → x.sta.sh.den → Option Z) {staA : Sta} (FA : List (Shs.den is.elem) → Shs.den x.sta.sh.avs → staA.sh.den → Option Z) (escs : List (Esc (Shs.den x.sta.sh.avs) Z)) (glue : Z → exD x.exits)
    (hrun : ∀ (Y : Type) (q : x.sta.sh.den) (κ : exD x.exits → Option Y), x.run q κ = ((is.run (cap q)).bind fun es => F es q).bind fun z => κ (glue z))
    (hat : x.at_ = .c p :: k) (hsub : sub B.c p = .rangeFunc g ps assign body) (hcap : ∀ q, opd (stL x.sta q) g = some (.fn is.f [] (encs id is.cap (cap q))))
    (hps : (decide (ps.size = is.elem.length) && ps.toList.all (fun t => decide (t < B.n))) = true) (hok : ISpecOK P is) (hm : B.m0 ≤ x.sta.sh.blks.length) (hes : escs.all (Esc.ok B.c x.sta.sh.blks.length) = true)
    (hend : ∀ (z : Z) (E : EE) (Xc : Ctx), EOK B.m0 E → CxOK true Xc → (∀ a w, SR B.n B.m0 E (exK x.exits (glue z)).2.1 (exK x.exits (glue z)).2.2 a w → At P Xc ((exK x.exits (glue z)).1.map (itm B.c)) a w) →
      LeafOK P B.c B.n B.m0 E Xc z ⟨nrm B.c 99 k, x.sta, F []⟩)
    (hesc : ∀ (z : Z) (E : EE) (Xc : Ctx), EOK B.m0 E → CxOK true Xc → (∀ a w, SR B.n B.m0 E (exK x.exits (glue z)).2.1 (exK x.exits (glue z)).2.2 a w → At P Xc ((exK x.exits (glue z)).1.map (itm B.c)) a w) →
      ∀ e ∈ escs, ∀ (q1 : Shs.den x.sta.sh.avs) (b : BShs.den e.blks), e.fn q1 b = some z → ∀ a w, SR B.n B.m0 E (x.sta.tmps.zip (encs id x.sta.sh.avs q1)) (encBs id e.blks b) a w → At P Xc ((nrm B.c 99 (.c e.pe :: k)).map (itm B.c)) a w)
    (hA : ∀ (z : Z) (E : EE) (Xc : Ctx), EOK x.sta.sh.blks.length E → CxOK false Xc → ∀ e es q, LeafOK P B.c B.n x.sta.sh.blks.length E Xc z ⟨[.r, .c (p ++ [1])], staA, FA es q.1⟩ →
      F (e :: es) q = some z → ∀ a w, SR B.n x.sta.sh.blks.length E (pars ps.toList (encs id is.elem e) (stL x.sta q)) (stH x.sta q) a w → At P Xc ((nrm B.c 99 [.c (p ++ [0]), .r, .c (p ++ [1])]).map (itm B.c)) a w)
    (hB : ∀ (z : Z) (E : EE) (Xc : Ctx), EOK x.sta.sh.blks.length E → CxOK false Xc → ∀ es q1, LeafOK P B.c B.n x.sta.sh.blks.length E Xc z ⟨[], ⟨[], ⟨[], x.sta.sh.blks⟩⟩, fun b => F es (q1, b.2)⟩ → (∀ e ∈ escs, LeafOK P B.c B.n x.sta.sh.blks.length E Xc z (e.leaf q1)) →
      LeafOK P B.c B.n x.sta.sh.blks.length E Xc z ⟨nrm B.c 99 [.c (p ++ [1])], staA, FA es q1⟩) (hlive : x.sta.sh.blks.all BSh.live = true := by rfl) : LoopOK P B.c B.n B.m0 true x := by
  refine ⟨fun Y q κ => ?_, fun q e he E hE Xc a w hX hS hx => ?_⟩
  · rw [hrun, hrun]
    cases (is.run (cap q)).bind fun es => F es q <;> rfl
  rw [hrun] at he
  obtain ⟨z, hz, h2⟩ := bind_some he
  cases h2
  obtain ⟨es, hes1, hF⟩ := bind_some hz
  clear he hz
  obtain ⟨g0, hs0, htm0, hhi0, hE0⟩ := hS.ex
  obtain ⟨lo, hlo, hmk, hupd⟩ := hE.upd
  have hlow := hlo _ _ _ hE0
  simp only [Bool.and_eq_true, decide_eq_true_eq, List.all_eq_true] at hps
  have hlenH : (stH x.sta q).length = x.sta.sh.blks.length := encBs_len _ _ _
  have hhi0' : ∀ i, x.sta.sh.blks.length ≤ i → g0.ρ i = none := fun i hi => hhi0 i (by omega)
  have hMlt : ∀ b o, g0.M b = some o → b < w.heap.size := fun b o hb => lt_of_blk (hs0.mem b o hb)
  have hloc : ∀ i b c n, g0.ρ i = some (some (b, c, n)) → b < w.heap.size ∧ g0.M b = none := by
    intro i b c n e
    rcases Nat.lt_or_ge i x.sta.sh.blks.length with h | h
    · obtain ⟨k0, h1, h2⟩ := hOf_get hlive q.2 h
      exact hs0.lt h1 h2 e
    · rw [hhi0' i h] at e; cases e
  -- the function's value
  have hev := opd_eval (tm := a.tmps) (df := a.defers) (fun t _ a ha => htm0 t a ha) (hcap q)
  simp only [RepV] at hev
  obtain ⟨va, vc, hev, hva, hvc⟩ := hev
  simp only [RepVs] at hva
  subst hva
  let kb := x.sta.sh.blks.length
  let l := w.heap.size + 1
  let dsM := mk w.heap.size :: a.defers
  let lr := fun (st : LoopState) (pd : Option Code) => Obj.loop (lrec Xc.b.fn a.tmps ps assign body w.heap.size st pd)
  let Good : Gh → Prop := fun g => (∀ i, i < kb → g.ρ i = g0.ρ i) ∧ (∀ b o, g0.M b = some o → g.M b = some o) ∧ (∀ b o, g.M b = some o → g0.M b = some o ∨ isCel o = true)
  let J : List (Shs.den is.elem) → World → Prop := fun es w2 => ∃ g b, Good g ∧ (∀ i, kb ≤ i → g.ρ i = none) ∧ Sim g (hOf b) w2 ∧ E dsM g w2 ∧ w2.heap[l]? = some (lr .ready none) ∧ F es (q.1, b) = some z
  let Q : World → Prop := fun w2 => ∃ e ∈ escs, ∃ g b, Good g ∧ (∀ i, e.blks.length ≤ i → g.ρ i = none) ∧ kb ≤ e.blks.length ∧ Sim g (hOf b) w2 ∧ E dsM g w2 ∧ w2.heap[l]? = some (lr .done (some (sub B.c e.pe))) ∧ e.fn q.1 b = some z
  let S := locs g0 kb
  have hSlt : ∀ b ∈ S, b < w.heap.size ∧ g0.M b = none := fun b hb => by
    obtain ⟨i, c, n, _, e⟩ := of_locs hb
    exact hloc i b c n e
  -- blocks that the function that is ranged over may change
  have apM : ∀ {g : Gh} {h : Nat → Option Blk'} {w1 : World} {T : List Nat}, Good g → Sim g h w1 → Apart (w.heap.size + 2) T w1 → ∀ b o, g.M b = some o → b ∉ T := by
    intro g h w1 T hg hs hT b o hb hbT
    obtain ⟨h1, h2⟩ := hT b hbT
    rcases hg.2.2 b o hb with h3 | h3
    · have := hMlt b o h3; omega
    · obtain ⟨cs, ty, z, rfl⟩ := isCel_some h3
      exact h2 _ _ _ (hs.mem b _ hb)
  have apE : ∀ {g : Gh} {w1 w2 : World} {T : List Nat}, E dsM g w1 → Upd T w1 w2 → (∀ k ∈ T, w.heap.size + 1 ≤ k) → E dsM g w2 := by
    intro g w1 w2 T he hu hT
    refine hupd _ _ _ _ T he hu (fun k hk => ⟨by have := hT k hk; omega, fun hmem => ?_⟩)
    have h1 := hT k hk
    rcases List.mem_cons.1 hmem with h2 | h2
    · simp only [mk, Deferred.mk.injEq, Target.collected.injEq] at h2
      omega
    · have := hmk _ _ _ _ hE0 h2; omega
  have stJ : ∀ r, Stays (w.heap.size + 2) (J r) := by
    rintro r w1 w2 T ⟨g, b, hg, hhi, hs, he, hl, hf⟩ hu hT
    refine ⟨g, b, hg, hhi, hs.upd hu (apM hg hs hT) (fun i k b' c n _ _ e hb => ?_), apE he hu (fun k hk => by have := (hT k hk).1; omega), hu.blk hl (fun h => by have := (hT _ h).1; omega), hf⟩
    rcases Nat.lt_or_ge i kb with h | h
    · rw [hg.1 i h] at e
      have := (hloc i b' c n e).1
      have := (hT b' hb).1
      omega
    · rw [hhi i h] at e; cases e
  have stQ : Stays (w.heap.size + 2) Q := by
    rintro w1 w2 T ⟨e, hem, g, b, hg, hhi, hle, hs, he, hl, hf⟩ hu hT
    refine ⟨e, hem, g, b, hg, hhi, hle, hs.upd hu (apM hg hs hT) (fun i k b' c n hk hm e' hb => ?_), apE he hu (fun k hk => by have := (hT k hk).1; omega), hu.blk hl (fun h => by have := (hT _ h).1; omega), hf⟩
    rcases Nat.lt_or_ge i kb with h | h
    · rw [hg.1 i h] at e'
      have := (hloc i b' c n e').1
      have := (hT b' hb).1
      omega
    · obtain ⟨s, y, hsi, rfl⟩ := encBs_at id e.blks b i k hk
      have hnm : s.isMap = false := by
        have := List.all_eq_true.1 hes e hem
        simp only [Esc.ok, Bool.and_eq_true, List.all_eq_true] at this
        have := this.2 s (List.mem_iff_getElem?.2 ⟨i - kb, by rw [List.getElem?_drop, show kb + (i - kb) = i by omega]; exact hsi⟩)
        simpa using this
      have hB := hs.blk i _ hk
      cases s with
      | dead => cases hm
      | map _ _ => simp [BSh.isMap] at hnm
      | segs _ =>
        obtain ⟨b1, _, _, vs, ty, e1, h3, _⟩ := hB
        rw [e'] at e1; cases e1
        exact (hT b' hb).2 _ _ _ h3
      | lst _ =>
        obtain ⟨_, ⟨e1, _⟩ | ⟨b1, _, _, _, _, e1, h3, _⟩⟩ := hB
        · rw [e'] at e1; cases e1
        · rw [e'] at e1; cases e1
          exact (hT b' hb).2 _ _ _ h3
  -- the loop's object is no block that is known
  have hMl : ∀ {g' : Gh} {h : Nat → Option Blk'} {w' : World} {r : Loop}, (∀ b o, g'.M b = some o → g0.M b = some o ∨ isCel o = true) → Sim g' h w' → w'.heap[l]? = some (.loop r) → ∀ b o, g'.M b = some o → b ∉ [l] := by
    intro g' h w' r hg hs hl b o hb hbl
    simp only [List.mem_singleton] at hbl
    subst hbl
    have := hs.mem _ _ hb
    rw [hl] at this; cases this
    rcases hg _ _ hb with h3 | h3
    · have := hMlt _ _ h3; omega
    · simp [isCel] at h3
  have hkl : ∀ {g' : Gh} {h : Nat → Option Blk'} {w' : World} {r : Loop}, Sim g' h w' → w'.heap[l]? = some (.loop r) → ∀ i k b c n, h i = some k → k.mut = true → g'.ρ i = some (some (b, c, n)) → b ∉ [l] := by
    intro g' h w' r hs hl i k b c n h1 h2 h3 hbl
    simp only [List.mem_singleton] at hbl
    subst hbl
    rcases hs.kind h1 h2 h3 with ⟨_, _, _, h4⟩ | ⟨_, _, h4⟩ <;> (rw [hl] at h4; cases h4)
  have e0 : sub B.c (p ++ [0]) = assign := by rw [sub_app, hsub]; cases assign <;> rfl
  have e1 : sub B.c (p ++ [1]) = body := by rw [sub_app, hsub]; cases body <;> rfl
  have htmG : ∀ {g : Gh}, Good g → (∀ i, kb ≤ i → True) → TmF g (fun t => (stL x.sta q).lookup t) a.tmps := by
    intro g hg _
    have hGE : GE g0 g := by
      refine ⟨fun i y hy => ?_, hg.2.1⟩
      rcases Nat.lt_or_ge i kb with h | h
      · rw [hg.1 i h]; exact hy
      · rw [hhi0' i h] at hy; cases hy
    exact fun t av ht => RepV.mono hGE av _ (htm0 t av ht)
  rw [hat, List.map_cons]
  simp only [itm, hsub]
  refine At.rangeFunc is.f vc.toArray (hX rfl) hev hok.call (fun w1 he1 hsz hD hl => ?_)
  have hE1 : E dsM g0 w1 := hE.mark _ _ _ _ hE0 he1 hD (by
    cases hM : g0.M w.heap.size with
    | none => rfl
    | some o => have := hMlt _ _ hM; omega)
  have hs1 : Sim g0 (hOf q.2) w1 := hs0.upd he1 (fun _ _ _ h => by cases h) (fun _ _ _ _ _ _ _ _ h => by cases h)
  have hJ0 : J es w1 := ⟨g0, q.2, ⟨fun _ _ => rfl, fun _ _ h => h, fun _ _ h => .inl h⟩, hhi0', hs1, hE1, hl, hF⟩
  refine (hok.fn (cap q) es hes1 g0 vc hvc l S J Q w1 (fun b o hb => ⟨fun hm => ?_, hs1.mem b o hb⟩) (fun b hb => ?_) hJ0 (fun r => by rw [hsz]; exact stJ r) (by rw [hsz]; exact stQ) (fun m r w2 us hJ hU hus => ?_)).mono (fun v w3 hpost => ?_)
  · have := hMlt b o hb
    rcases List.mem_cons.1 hm with rfl | hm
    · omega
    · rw [(hSlt b hm).2] at hb; cases hb
  · rcases List.mem_cons.1 hb with rfl | hb
    · omega
    · have := (hSlt b hb).1; omega
  · -- a round
    obtain ⟨g, b, hg, hhi, hs, he, hl2, hf⟩ := hJ
    refine ⟨_, hl2, ?_, Round.of fun c cs => ?_⟩
    · have := (repVs_get hus).1
      rw [encs_len] at this
      simp [lrec, this, hps.1]
    let S0 : Nat → Prop := fun b' => b' = l ∨ Sw g (hOf b) (List.range kb) b'
    have hknown : ∀ i, i < kb → ∃ y, g.ρ i = some y := fun i hi => by
      obtain ⟨k0, h1, h2⟩ := hOf_get hlive b hi
      exact (hs.blk i k0 h1).known h2
    have hS0 : ∀ i b' c k0, i < kb → g.ρ i = some (some (b', c, k0)) → S0 b' := fun i b' c k0 hi e => by
      obtain ⟨k1, h1, h2⟩ := hOf_get hlive b hi
      exact .inr ⟨i, by simpa using hi, k1, c, k0, h1, h2, e⟩
    have hEnt : EOK0 kb (fun _ => Ent S0 kb g w2) := Ent.ok hS0 hknown
    have hent0 : Ent S0 kb g w2 g w2 := ⟨rfl, rfl, rfl, Nat.le_refl _, fun _ _ _ => rfl, fun _ _ h => h, fun _ _ h => .inl h, fun _ _ => rfl, fun i b' c k0 hi e => by rw [hhi i hi] at e; cases e⟩
    have hlsz : l < w2.heap.size := lt_of_blk hl2
    let E' : LoopState → EE := fun st ds g' w' => (∀ D, mk D ∈ ds → D < w'.heap.size) ∧ Ent S0 kb g w2 g' w' ∧ E dsM g' w' ∧ w'.heap[l]? = some (lr st none)
    have hE' : ∀ st, EOK kb (E' st) := fun st => ⟨⟨fun {ds g' g'' h w' w'' wr nw} hn hs st1 he' => ⟨fun D hD => Nat.lt_of_lt_of_le (he'.1 D hD) st1.size, hEnt.step (ds := []) hn hs st1 he'.2.1, hE.step (fun i hi => Nat.le_trans hm (hn i hi)) hs st1 he'.2.2.1, by
            rw [st1.same l (lt_of_blk he'.2.2.2) (fun hx => by
              rcases Sw.kind hs hx with ⟨_, _, _, h4⟩ | ⟨_, _, h4⟩ <;> (rw [he'.2.2.2] at h4; cases h4))]
            exact he'.2.2.2⟩,
        fun ds g' w' he' => ⟨he'.1, hEnt.bump [] _ _ he'.2.1, hE.bump _ _ _ he'.2.2.1, he'.2.2.2⟩,
        fun ds g' w' σ he' h1 h2 => ⟨he'.1, hEnt.reb [] _ _ _ he'.2.1 h1 h2, hE.reb _ _ _ _ he'.2.2.1 (fun i hi => h1 i (Nat.lt_of_lt_of_le hi hm)) h2, he'.2.2.2⟩⟩,
      ⟨w2.heap.size, fun ds g' w' he' => he'.2.1.size, fun ds g' w' D he' hD => he'.1 D hD, fun ds g' w' w'' T he' hu hT => ⟨fun D hD => Nat.lt_of_lt_of_le (he'.1 D hD) hu.size, he'.2.1.upd hu (fun k hk => .inl (hT k hk).1), apE he'.2.2.1 hu (fun k hk => by have := (hT k hk).1; omega), hu.blk he'.2.2.2 (fun hk => by have := (hT l hk).1; omega)⟩⟩,
      fun ds g' w' w'' he' hu hb' hM => ⟨fun D hD => by
          rcases List.mem_cons.1 hD with h | h
          · simp only [mk, Deferred.mk.injEq, Target.collected.injEq] at h
            rw [h.1]; exact lt_of_blk hb'
          · exact Nat.lt_of_lt_of_le (he'.1 D h) hu.size, he'.2.1.upd hu (fun _ h => by cases h), apE he'.2.2.1 hu (fun _ h => by cases h), hu.blk he'.2.2.2⟩⟩
    have hgood : ∀ {st ds g' w'}, E' st ds g' w' → Good g' := fun {st ds g' w'} he' => ⟨fun i hi => (he'.2.1.pin i hi).trans (hg.1 i hi), fun b o h => he'.2.1.M b o (hg.2.1 b o h), fun b o h => by
      rcases he'.2.1.Mn b o h with h1 | ⟨_, _, h1⟩
      · exact hg.2.2 b o h1
      · exact .inr h1⟩
    have hU2 : ∀ {st ds g' w' w'' o}, E' st ds g' w' → Put l o w' w'' → Upd (l :: S) w2 w'' := fun {st ds g' w' w'' o} he' hp => by
      have h1 : Upd (l :: S) w2 w' := ⟨he'.2.1.os, he'.2.1.tape, he'.2.1.output, he'.2.1.size, fun b' hb hn => he'.2.1.same b' hb (fun hx => hn (by
        rcases hx with rfl | ⟨i, hi, k0, c, n, _, _, e⟩
        · exact List.mem_cons_self
        · have hi' : i < kb := by simpa using hi
          rw [hg.1 i hi'] at e
          exact List.mem_cons_of_mem _ (mem_locs hi' e)))⟩
      exact h1.trans (hp.upd.mono (fun k hk => by simp at hk; simp [hk]))
    have hus' : RepVs g (encs id is.elem m) us := flat_encs is.elem m us hok.flat hus
    obtain ⟨htm', hsz'⟩ := foldl_put ps.toList (encs id is.elem m) us _ a.tmps (htmG hg (fun _ _ => trivial)) hus' (by rw [encs_len]; simpa using hps.1) (fun t ht => Nat.lt_of_lt_of_le (hps.2 t ht) hS.sz)
    have hfold : (ps.zip us.toArray).foldl (fun tmps (t, a) => tmps.setIfInBounds t a) a.tmps = (ps.toList.zip us).foldl (fun tm x => tm.setIfInBounds x.1 x.2) a.tmps := by
      rw [← Array.foldl_toList, Array.toList_zip]
    have hSR : SR B.n kb (E' .ready) (pars ps.toList (encs id is.elem m) (stL x.sta (q.1, b))) (stH x.sta (q.1, b)) { tmps := (ps.toList.zip us).foldl (fun tm x => tm.setIfInBounds x.1 x.2) a.tmps, defers := [] } w2 :=
      ⟨⟨g, hs, htm', fun i hi => hhi i (by simpa [stH, encBs_len] using hi), fun _ h => (by cases h), hent0, he, hl2⟩, by rw [hsz']; exact hS.sz, by simp [stH, encBs_len, kb]⟩
    show At P (rctx l Xc.b.fn _ c cs) [.code assign, .beginRound, .code body] { tmps := (ps.zip us.toArray).foldl (fun tmps (t, a) => tmps.setIfInBounds t a) a.tmps, defers := [] } w2
    rw [hfold]
    have hno : ∀ K, CxOK false (rctx l Xc.b.fn K c cs) := fun K h => by cases h
    have hend' : LeafOK P B.c B.n kb (E' .busy) (rctx l Xc.b.fn (fun v w3 => Upd (l :: S) w2 w3 ∧ ((v = .bool true ∧ J r w3) ∨ (v = .bool false ∧ Q w3))) c cs) z ⟨[], ⟨[], ⟨[], x.sta.sh.blks⟩⟩, fun b => F r (q.1, b.2)⟩ := by
      intro b' hb' a' w' hS'
      obtain ⟨g', hs', _, hhi', he'⟩ := hS'.ex
      have hp := Put.mk' (.loop { lrec Xc.b.fn a.tmps ps assign body w.heap.size .busy none with state := .ready, pending := none }) he'.2.2.2
      refine .head (stepR_round_end rfl rfl (endRound_run none he'.2.2.2)) ⟨_, ⟨_, _, ⟨hU2 he' hp, .inl ⟨rfl, g', b'.2, hgood he', fun i hi => hhi' i (by simpa [stH, encBs_len] using hi), hs'.upd hp.upd (hMl (hgood he').2.2 hs' he'.2.2.2) (hkl hs' he'.2.2.2), apE he'.2.2.1 hp.upd (fun k hk => by simp at hk; omega), hp.blk, hb'⟩⟩, rfl⟩, Steps.refl _ _⟩
    have hesc' : ∀ e ∈ escs, LeafOK P B.c B.n kb (E' .busy) (rctx l Xc.b.fn (fun v w3 => Upd (l :: S) w2 w3 ∧ ((v = .bool true ∧ J r w3) ∨ (v = .bool false ∧ Q w3))) c cs) z (e.leaf q.1) := by
      intro e hem b' hb' a' w' hS'
      obtain ⟨g', hs', _, hhi', he'⟩ := hS'.ex
      have hle : kb ≤ e.blks.length := by have := hS'.m; simpa [stH, encBs_len] using this
      have hok' := List.all_eq_true.1 hes e hem
      simp only [Esc.ok, Bool.and_eq_true] at hok'
      have hp := fun j : Code => Put.mk' (.loop { lrec Xc.b.fn a.tmps ps assign body w.heap.size .busy none with state := .done, pending := some j }) he'.2.2.2
      have fin : ∀ (j : Code), sub B.c e.pe = j → Upd (l :: S) w2 { w' with heap := w'.heap.setIfInBounds l (.loop { lrec Xc.b.fn a.tmps ps assign body w.heap.size .busy none with state := .done, pending := some j }) } ∧ ((Value.bool false = .bool true ∧ J r { w' with heap := w'.heap.setIfInBounds l (.loop { lrec Xc.b.fn a.tmps ps assign body w.heap.size .busy none with state := .done, pending := some j }) }) ∨ (Value.bool false = .bool false ∧ Q { w' with heap := w'.heap.setIfInBounds l (.loop { lrec Xc.b.fn a.tmps ps assign body w.heap.size .busy none with state := .done, pending := some j }) })) := fun j hj => ⟨hU2 he' (hp j), .inr ⟨rfl, e, hem, g', b'.2, hgood he', fun i hi => hhi' i (by simpa [stH, encBs_len] using hi), hle, hs'.upd (hp j).upd (hMl (hgood he').2.2 hs' he'.2.2.2) (hkl hs' he'.2.2.2), apE he'.2.2.1 (hp j).upd (fun k hk => by simp at hk; omega), by rw [hj]; exact (hp j).blk, hb'⟩⟩
      split at hok'
      · rename_i id hsb
        simp only [List.map_cons, itm, hsb]
        refine .head (stepR_round_exit rfl rfl (by simpa using hok'.1) (endRound_run (some (.exit id)) he'.2.2.2)) ⟨_, ⟨_, _, fin _ hsb, rfl⟩, Steps.refl _ _⟩
      · rename_i hsb
        simp only [List.map_cons, itm, hsb]
        refine .head (stepR_round_ret rfl rfl (endRound_run (some .ret) he'.2.2.2)) ⟨_, ⟨_, _, fin _ hsb, rfl⟩, Steps.refl _ _⟩
      · cases hok'.1
    have hfirst : LeafOK P B.c B.n kb (E' .ready) (rctx l Xc.b.fn (fun v w3 => Upd (l :: S) w2 w3 ∧ ((v = .bool true ∧ J r w3) ∨ (v = .bool false ∧ Q w3))) c cs) z ⟨[.r, .c (p ++ [1])], staA, FA r q.1⟩ := by
      intro pA hpA a' w' hS'
      obtain ⟨g', hs', ht', hhi', he'⟩ := hS'.ex
      have hp := Put.mk' (.loop { lrec Xc.b.fn a.tmps ps assign body w.heap.size .ready none with state := .busy }) he'.2.2.2
      refine .head (stepR_beginRound rfl (beginRound_run he'.2.2.2 rfl)) ?_
      have hS'' : SR B.n kb (E' .busy) (stL staA pA) (stH staA pA) a' { w' with heap := w'.heap.setIfInBounds l (.loop { lrec Xc.b.fn a.tmps ps assign body w.heap.size .ready none with state := .busy }) } :=
        ⟨⟨g', hs'.upd hp.upd (hMl (hgood he').2.2 hs' he'.2.2.2) (hkl hs' he'.2.2.2), ht', hhi', fun D hD => by have := he'.1 D hD; rw [hp.size]; exact this, he'.2.1.upd hp.upd (fun k hk => .inr (.inl (by simpa using hk))), apE he'.2.2.1 hp.upd (fun k hk => by simp at hk; omega), hp.blk⟩, hS'.sz, hS'.m⟩
      exact At.nrmk (c := B.c) 99 (k := [.c (p ++ [1])]) (hB z (E' .busy) _ (hE' _) (hno _) r q.1 hend' hesc' pA hpA a' _ hS'')
    have := At.nrmk (c := B.c) 99 (k := [.c (p ++ [0]), .r, .c (p ++ [1])]) (hA z (E' .ready) _ (hE' _) (hno _) m r (q.1, b) hfirst hf _ _ hSR)
    simp only [List.map_cons, List.map_nil, itm, e0, e1] at this
    exact this
  · obtain ⟨_, ⟨g, b, hg, hhi, hs, he, hl3, hf⟩ | ⟨e, hem, g, b, hg, hhi, hle, hs, he, hl3, hf⟩⟩ := hpost
    · refine ⟨_, hl3, by simp [lrec], fun w4 hp => ?_⟩
      have hSR : SR B.n B.m0 E (stL x.sta (q.1, b)) (stH x.sta (q.1, b)) { tmps := a.tmps, defers := dsM } w4 :=
        ⟨⟨g, hs.upd hp.upd (hMl hg.2.2 hs hl3) (hkl hs hl3), htmG hg (fun _ _ => trivial), fun i hi => hhi i (by simpa [stH, encBs_len] using hi), apE he hp.upd (fun k hk => by simp at hk; omega)⟩, hS.sz, by simp only [stH, encBs_len]; exact hm⟩
      exact At.nrmk (c := B.c) 99 (k := k) (hend z E Xc hE hX hx (q.1, b) hf _ _ hSR)
    · refine ⟨_, hl3, by simp [lrec], fun w4 hp => ?_⟩
      have hSR : SR B.n B.m0 E (x.sta.tmps.zip (encs id x.sta.sh.avs q.1)) (encBs id e.blks b) { tmps := a.tmps, defers := dsM } w4 :=
        ⟨⟨g, hs.upd hp.upd (hMl hg.2.2 hs hl3) (hkl hs hl3), htmG hg (fun _ _ => trivial), fun i hi => hhi i (by simpa [encBs_len] using hi), apE he hp.upd (fun k hk => by simp at hk; omega)⟩, hS.sz, by simp only [encBs_len]; exact Nat.le_trans hm hle⟩
      have := At.nrmk (c := B.c) 99 (k := .c e.pe :: k) (hesc z E Xc hE hX hx e hem q.1 b hf _ _ hSR)
      exact this
end
end Go.Proofs.Ytfcnhnbnjdccfaa

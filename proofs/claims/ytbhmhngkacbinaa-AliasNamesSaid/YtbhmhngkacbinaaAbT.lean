/- The interpreter's regions and code against the model's. Conditions: the tables of types and of functions. -/
import Derived.Test.YtbhmhngkacbinaaAbS
namespace Go.Ab
open Go.RowKit
set_option autoImplicit false
set_option linter.unusedSimpArgs false

theorem args_append {w : World} {O : Nat → Prop} {ι : List Loc} {vs ws : List V} {us xs : Array Value} (h : Args w O ι vs us) (g : Args w O ι ws xs) : Args w O ι (vs ++ ws) (us ++ xs) := by
  refine ⟨by simp [h.1, g.1], fun j p u hp hu => ?_⟩
  rcases Nat.lt_or_ge j vs.length with hj | hj
  · rw [List.getElem?_append_left hj] at hp
    rw [Array.getElem?_append_left (by have := h.1; omega)] at hu
    exact h.2 j p u hp hu
  · rw [List.getElem?_append_right hj] at hp
    rw [Array.getElem?_append_right (by have := h.1; omega)] at hu
    rw [← h.1] at hu
    exact g.2 _ p u hp hu
section
variable {P : Program} {E : Env} (hT : TyOk P E.ty) (hF : FnsOk P E.fns) {run : Run} (hR : RunOk P run) {w : World} {X : Nat → Prop} {ι : List Loc} {H : Heap} (hH : HR w X ι H) {ev : Operand → V} {a : Act} (hev : ∀ x, VR w (OX X ι H) ι (ev x) (a.eval x))
include hT hF hR hH hev
theorem aop_wp {o : Oper} {v : V} {H' : Heap} {lg : Lg} (h : aop E run ev H o = some (v, H', lg)) {next : Act → World → Prop} {Q : Exit → Act → World → Prop} (hk : ∀ u w' ι', HR w' X ι' H' → VR w' (OX X ι' H') ι' v u → Fr w ι H lg.mv w' ι' H' → next (a.put o.dst u) w') : o.wp P a w next Q := by
  unfold Oper.wp
  cases hn : isCall o.op with
  | false =>
    obtain ⟨w', ι', nx, u, h1, h2, h3, h4, h5⟩ := aop_sound hT hH hev (fun _ => rfl) hn h
    rw [h1]
    rcases h2 with rfl | ⟨rfl, rfl⟩
    · exact hk u w' ι' h3 h4 h5
    · exact hk undef w' ι' h3 h4 h5
  | true =>
    unfold isCall at hn
    split at hn
    · rename_i f args ats ho
      simp only [aop, ho] at h
      have key : ∀ (id : FuncId) (cs : List V) (us : Array Value), a.eval f = .func (.func id) #[] us → Args w (OX X ι H) ι cs us → acallF.go E run H id (args.toList.map ev ++ cs) = some (v, H', lg) → o.upon P a next Q ((execOp a.eval o).run P w) := by
        intro id cs us he hcs hgo
        have hargs : Args w (OX X ι H) ι (args.toList.map ev ++ cs) (args.map a.eval ++ us) := args_append (vals_rel hev args) hcs
        have hrun : (execOp a.eval o).run P w = (callFunc id (args.map a.eval ++ us)).run P w := by
          unfold execOp
          simp only [ho, resolve, he, Deferred.ofValue, Sem.run_bind, Sem.run_pure, Result.andThen_ok, invoke, Array.empty_append]
        rw [hrun]
        rcases acallGo_sound hF hR hH hargs hgo with ⟨u, h1, h2, h3, h4⟩ | ⟨h1, h2⟩
        · rw [h1]
          exact hk u w ι h2 h3 h4
        · rw [h1]
          show Calls P id _ w _
          refine h2.mono ?_
          rintro e w' ⟨u, ι', rfl, g1, g2, g3⟩
          exact hk u w' ι' g1 g2 g3
      have hf := hev f
      unfold acallF at h
      split at h
      · rename_i id cs hfv
        rw [hfv] at hf
        generalize hu : a.eval f = uf at hf
        cases hf with
        | p _ _ hf =>
          cases hf with
          | fn _ _ us hn' hr =>
            refine key id (cs.map V.p) us hu ⟨by simp [hn'], fun j p u hp hu => ?_⟩ h
            simp only [List.getElem?_map, Option.map_eq_some_iff] at hp
            obtain ⟨d, hd, rfl⟩ := hp
            exact .p _ _ (hr j d u hd hu)
      · rename_i id cs hfv
        rw [hfv] at hf
        generalize hu : a.eval f = uf at hf
        cases hf with
        | fn _ _ us hn' hr => exact key id cs us hu ⟨hn', hr⟩ h
      · cases h
    · cases hn
end

/-- The state of the interpreter and that of the model's frame. -/
structure SR (s : St) (a : Act) (w : World) (X : Nat → Prop) (ι : List Loc) : Prop where
  heap : HR w X ι s.H
  len : s.tm.length = a.tmps.size
  tm : ∀ (t : Nat) (v : V) (u : Value), s.tm[t]? = some v → a.tmps[t]? = some u → VR w (OX X ι s.H) ι v u
  defers : a.defers = []
theorem SR.getD {s : St} {a : Act} {w : World} {X : Nat → Prop} {ι : List Loc} (h : SR s a w X ι) (t : Nat) : VR w (OX X ι s.H) ι (s.tm.getD t (.p .undef)) (a.tmps.getD t undef) := by
  rcases Nat.lt_or_ge t s.tm.length with ht | ht
  · have h1 := List.getElem?_eq_getElem ht
    have h2 := Array.getElem?_eq_getElem (xs := a.tmps) (i := t) (by have := h.len; omega)
    have := h.tm t _ _ h1 h2
    rw [List.getD_eq_getElem?_getD, h1, Array.getD_eq_getD_getElem?, h2]
    exact this
  · rw [List.getD_eq_getElem?_getD, List.getElem?_eq_none ht]
    exact .p _ _ (.undef _)
theorem SR.ev {s : St} {a : Act} {w : World} {X : Nat → Prop} {ι : List Loc} (h : SR s a w X ι) (x : Operand) : VR w (OX X ι s.H) ι (s.ev x) (a.eval x) := by
  cases x with
  | tmp t => exact h.getD t
  | const v => exact .p _ _ (ofVal_sound w _ v)
  | global g => exact .p _ _ (.undef _)
  | func f => exact .p _ _ (.fn (.func f) [] #[] rfl (by simp))
theorem put_size (a : Act) (d : Option Nat) (u : Value) : (a.put d u).tmps.size = a.tmps.size ∧ (a.put d u).defers = a.defers := by cases d <;> simp [Act.put]
/-- A value put into its place. -/
theorem SR.put {s : St} {a : Act} {w : World} {X : Nat → Prop} {ι : List Loc} (h : SR s a w X ι) {v : V} {u : Value} (hv : VR w (OX X ι s.H) ι v u) (d : Option Nat) : SR (s.put d v) (a.put d u) w X ι := by
  cases d with
  | none => exact h
  | some d =>
    refine ⟨h.heap, by simp [St.put, Act.put, h.len], fun t v' u' h1 h2 => ?_, h.defers⟩
    simp only [St.put, Act.put] at h1 h2
    rw [Array.getElem?_setIfInBounds] at h2
    rcases get_set h1 with ⟨hne, h1⟩ | ⟨rfl, rfl, hlt⟩
    · rw [if_neg (fun e => hne e.symm)] at h2
      exact h.tm t v' u' h1 h2
    · rw [if_pos rfl, if_pos (by have := h.len; omega)] at h2
      cases h2
      exact hv
theorem invTm_get : ∀ (ids : List Nat) (tm : List V), (invTm ids tm).length = tm.length ∧ ∀ (t : Nat) (v : V), (invTm ids tm)[t]? = some v → ∃ v0, tm[t]? = some v0 ∧ (∀ j ∈ v.refs, j ∉ ids ∧ j ∈ v0.refs) ∧ ∀ (w : World) (O : Nat → Prop) (ι : List Loc) (u : Value), VR w O ι v0 u → VR w O ι v u
  | [], tm => ⟨rfl, fun t v h => ⟨v, h, fun j hj => ⟨by simp, hj⟩, fun _ _ _ _ h => h⟩⟩
  | id :: r, tm => by
    obtain ⟨h1, h2⟩ := invTm_get r (V.inv.invL id tm)
    refine ⟨by simp only [invTm]; rw [h1, invL_len], fun t v h => ?_⟩
    obtain ⟨v1, g1, g2, g3⟩ := h2 t v h
    rw [invL_get] at g1
    cases hv : tm[t]? with
    | none => simp [hv] at g1
    | some v0 =>
      simp [hv] at g1; subst g1
      refine ⟨v0, rfl, fun j hj => ?_, fun w O ι u hu => g3 w O ι u (hu.inv id)⟩
      obtain ⟨q1, q2⟩ := g2 j hj
      obtain ⟨q3, q4⟩ := refs_inv id v0 j q2
      exact ⟨by simp [q1, q3], q4⟩
/-- Behind a step of the heap. -/
theorem SR.step {s : St} {a : Act} {w w' : World} {X : Nat → Prop} {ι ι' : List Loc} (h : SR s a w X ι) {H' : Heap} {mv : List Nat} (hH : HR w' X ι' H') (hf : Fr w ι s.H mv w' ι' H') (lg : Lg) : SR ⟨invTm mv s.tm, H', lg⟩ a w' X ι' := by
  obtain ⟨h1, h2⟩ := invTm_get mv s.tm
  refine ⟨hH, by simp [h1, h.len], fun t v u hv hu => ?_, h.defers⟩
  obtain ⟨v0, g1, g2, g3⟩ := h2 t v hv
  exact VR.step hf (g3 _ _ _ _ (h.tm t v0 u g1 hu)) (fun j hj => (g2 j hj).1)

theorem wanted_sound {s : St} {a : Act} {w : World} {X : Nat → Prop} {ι : List Loc} (h : SR s a w X ι) {ops : Array Oper} {o : Oper} {b : Bool} (hw : awanted ops.toList s o = some b) : Region.wanted o (yielded ops a.tmps) = b := by
  unfold awanted at hw
  unfold Region.wanted
  cases hg : o.guard with
  | none => simp only [hg] at hw; cases hw; rfl
  | some jw =>
    obtain ⟨j, want⟩ := jw
    simp only [hg] at hw ⊢
    unfold yielded
    cases hj : ops[j]? with
    | none =>
      simp only [Array.getElem?_toList, hj] at hw
      cases hw; rfl
    | some g =>
      simp only [Array.getElem?_toList, hj] at hw
      cases hd : g.dst with
      | none =>
        simp only [hd] at hw
        cases hw
        simp [hd]
      | some d =>
        simp only [hd] at hw
        simp only [Option.bind_some, hd]
        rcases Nat.lt_or_ge d s.tm.length with hlt | hge
        · have h1 := List.getElem?_eq_getElem hlt
          have h2 := Array.getElem?_eq_getElem (xs := a.tmps) (i := d) (by have := h.len; omega)
          have hv := h.tm d _ _ h1 h2
          rw [h2]
          rw [List.getD_eq_getElem?_getD, h1, Option.getD_some] at hw
          generalize s.tm[d] = v at hw hv
          generalize a.tmps[d]'(by have := h.len; omega) = u at hv
          split at hw
          · rename_i b'
            cases hw
            rw [pv_bool hv]
            cases b' <;> cases want <;> rfl
          · cases hw
            cases hv
            rfl
          · cases hw
        · have h2 : a.tmps[d]? = none := Array.getElem?_eq_none (by have := h.len; omega)
          rw [h2]
          rw [List.getD_eq_getElem?_getD, List.getElem?_eq_none hge] at hw
          simp [und] at hw
          subst hw
          rfl

/-- A list of numbers that holds what another one holds. -/
theorem addIds_mem : ∀ (a b : List Nat) (i : Nat), i ∈ addIds a b ↔ i ∈ a ∨ i ∈ b
  | [], b, i => by simp [addIds]
  | j :: r, b, i => by
    simp only [addIds]
    split
    · rename_i hm
      rw [addIds_mem r b i]
      have := mem_iff.1 hm
      constructor
      · rintro (h | h)
        · exact .inl (List.mem_cons_of_mem _ h)
        · exact .inr h
      · rintro (h | h)
        · rcases List.mem_cons.1 h with rfl | h
          · exact .inr this
          · exact .inl h
        · exact .inr h
    · rw [addIds_mem r (j :: b) i]
      simp only [List.mem_cons]
      constructor
      · rintro (h | rfl | h)
        · exact .inl (.inr h)
        · exact .inl (.inl rfl)
        · exact .inr h
      · rintro ((rfl | h) | h)
        · exact .inr (.inl rfl)
        · exact .inl h
        · exact .inr (.inr h)

/-- From the state s0 on: what was there is kept, but for what moved. -/
def Since (s0 : St) (w0 : World) (ι0 : List Loc) (s : St) (w : World) (ι : List Loc) : Prop := Fr w0 ι0 s0.H s.lg.mv w ι s.H ∧ ∀ i, i ∈ s0.lg.mv → i ∈ s.lg.mv
theorem Since.refl (s : St) (w : World) (ι : List Loc) : Since s w ι s w ι := ⟨(Fr.refl w ι s.H).mono (by simp), fun _ h => h⟩
theorem Since.trans {s0 s1 s2 : St} {w0 w1 w2 : World} {ι0 ι1 ι2 : List Loc} (h : Since s0 w0 ι0 s1 w1 ι1) (g : Since s1 w1 ι1 s2 w2 ι2) : Since s0 w0 ι0 s2 w2 ι2 :=
  ⟨h.1.trans g.1 (fun id hid => hid.elim (g.2 id) (fun h => h.1)), fun i hi => g.2 i (h.2 i hi)⟩

section
variable {P : Program} {E : Env} (hT : TyOk P E.ty) (hF : FnsOk P E.fns) {run : Run} (hR : RunOk P run) {X : Nat → Prop}
include hT hF hR
theorem asteps_sound {ops : Array Oper} {Q : Exit → Act → World → Prop} : ∀ (l : List Nat) (s s' : St) (a : Act) (w : World) (ι : List Loc), (∀ i ∈ l, i < ops.size) → asteps E run ops.toList (l.filterMap (ops[·]?)) s = some s' → SR s a w X ι →
    (∀ a' w' ι', SR s' a' w' X ι' → Since s w ι s' w' ι' → Q .normal a' w') → wpOps P ops Q l a w
  | [], s, s', a, w, ι, _, h, hs, hk => by
    simp [asteps] at h; subst h
    exact hk a w ι hs (Since.refl _ _ _)
  | i :: l, s, s', a, w, ι, hl, h, hs, hk => by
    have hi := hl i (List.mem_cons_self ..)
    have ho := Array.getElem?_eq_getElem hi
    simp only [wpOps, ho]
    rw [List.filterMap_cons] at h
    simp only [ho] at h
    simp only [asteps] at h
    cases hst : astep E run ops.toList s ops[i] with
    | none => simp [hst] at h
    | some s1 =>
      simp only [hst] at h
      unfold astep at hst
      split at hst
      · rename_i hw
        rw [if_pos (wanted_sound hs hw)]
        refine .inl ?_
        split at hst
        · rename_i v H' lg hop
          cases hst
          refine aop_wp hT hF hR hs.heap hs.ev hop ?_
          intro u w' ι' g1 g2 g3
          have hs1 := (hs.step g1 g3 (addLg lg s.lg)).put g2 ops[i].dst
          refine asteps_sound l _ s' _ w' ι' (fun j hj => hl j (List.mem_cons_of_mem _ hj)) h hs1 (fun a' w2 ι2 k1 k2 => hk a' w2 ι2 k1 (Since.trans ⟨?_, ?_⟩ k2))
          · refine Fr.mono (mv := lg.mv) ?_ (fun j hj => ?_)
            · cases ops[i].dst <;> exact g3
            · have : j ∈ (addLg lg s.lg).mv := (addIds_mem _ _ _).2 (.inl hj)
              cases ops[i].dst <;> exact this
          · intro j hj
            have : j ∈ (addLg lg s.lg).mv := (addIds_mem _ _ _).2 (.inr hj)
            cases ops[i].dst <;> exact this
        · cases hst
      · rename_i hw
        cases hst
        rw [if_neg (by rw [wanted_sound hs hw]; simp)]
        refine asteps_sound l _ s' _ w ι (fun j hj => hl j (List.mem_cons_of_mem _ hj)) h (hs.put (und_sound _ _ _) ops[i].dst) (fun a' w2 ι2 k1 k2 => hk a' w2 ι2 k1 (Since.trans ⟨?_, ?_⟩ k2))
        · cases ops[i].dst <;> exact (Fr.refl w ι s.H).mono (by simp)
        · intro j hj
          cases ops[i].dst <;> exact hj
      · cases hst
end
end Go.Ab

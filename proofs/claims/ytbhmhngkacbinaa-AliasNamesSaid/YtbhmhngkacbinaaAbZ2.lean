/- Regions that draw their order: their steps. Conditions: the tables of types and of functions. -/
import Derived.Test.YtbhmhngkacbinaaAbZ
namespace Go.Ab
open Go.RowKit
set_option autoImplicit false
set_option linter.unusedSimpArgs false

section
variable {P : Program} {E : Env} (hT : TyOk P E.ty) (hF : FnsOk P E.fns) {run : Run} (hR : RunOk P run) (hrun : RunLog run) {X : Nat → Prop} {ops : Array Oper}
  {st : Nat → St} {fs : List Foot} (hlen : fs.length = ops.size) (hst : ∀ (i : Nat) (o : Oper), ops[i]? = some o → ∃ f, fs[i]? = some f ∧ dstep E run ops.toList (st i) o = some (f, st (i + 1)))
  (hFO : footsOk (Region.before ops).toList fs [] = true)

/-- What is true between the steps. -/
structure DInv (st : Nat → St) (fs : List Foot) (ops : Array Oper) (X : Nat → Prop) (w0 : World) (ι0 : List Loc) (D : Nat → Bool) (a : Act) (w : World) (ι : List Loc) : Prop where
  sr : SR ⟨dTm st fs ops.size (st 0).tm.length D, dH st fs ops.size (st ops.size).H.length D, lg0⟩ a w X ι
  fr : Fr w0 ι0 (st 0).H (st ops.size).lg.mv w ι (dH st fs ops.size (st ops.size).H.length D)
  fill : ∀ i, i < ops.size → D i = false → ∀ id, (st i).H.length ≤ id → id < (st (i + 1)).H.length → ι[id]? = some filler
  cl : ∀ (i : Nat) (o : Oper), ops[i]? = some o → D i = true → ∀ e ∈ o.after, Region.binds .any e = true → D e.on = true

include hlen hst
theorem dTm_get (t : Nat) (D : Nat → Bool) : (dTm st fs ops.size (st 0).tm.length D)[t]? = (st (cur (fun i => D i && cnt fs i (2 * t)) ops.size)).tm[t]? := by
  have h := st_tm hlen hst _ (cur_le (fun i => D i && cnt fs i (2 * t)) ops.size)
  rcases Nat.lt_or_ge t (st 0).tm.length with ht | ht
  · unfold dTm
    rw [map_range_get _ ht, List.getElem?_eq_getElem (by omega)]
    rfl
  · rw [List.getElem?_eq_none (by simp [dTm]; omega), List.getElem?_eq_none (by omega)]
omit hlen hst in
theorem dH_get {id N : Nat} (h : id < N) (D : Nat → Bool) : (dH st fs ops.size N D)[id]? = some (((st (cur (fun i => D i && cnt fs i (2 * id + 1)) ops.size)).H[id]?).getD .dead) := by
  unfold dH
  rw [map_range_get _ h]
include hrun hFO
theorem ready_facts {D : Nat → Bool} {j : Nat} {o : Oper} (ho : ops[j]? = some o) (hj : D j = false) (hcl : ∀ (i : Nat) (o : Oper), ops[i]? = some o → D i = true → ∀ e ∈ o.after, Region.binds .any e = true → D e.on = true) (he : ∀ e ∈ o.after, Region.binds .any e = true → D e.on = true) {f : Foot} (hf : fs[j]? = some f) :
    (∀ x, f.bar = true ∨ x ∈ f.rd ∨ x ∈ f.wr → cur (fun i => D i && cnt fs i x) ops.size = cur (fun i => cnt fs i x) j) ∧ (∀ x, f.bar = true ∨ x ∈ f.wr → cur (fun i => (D i || i == j) && cnt fs i x) ops.size = j + 1) ∧
    (f.bar = true → ∀ i, i < ops.size → i ≠ j → D i = decide (i < j)) := by
  have _u0 := hrun
  obtain ⟨h1, h2⟩ := footsOk_iff hFO
  have hbs := (before_spec ops.toList).1
  let Pre : Nat → Nat → Prop := fun i k => ∃ m, (Region.before ops)[i]? = some m ∧ m.testBit k = true
  have hlt : j < ops.size := (Array.getElem?_eq_some_iff.1 ho).1
  have hFO' : ∀ (j : Nat) (f : Foot), fs[j]? = some f → ∀ (k : Nat) (g : Foot), k < j → fs[k]? = some g → Pre j k ∨ Free f g := by
    intro j f hf k g hk hg
    have hjl : j < fs.length := (List.getElem?_eq_some_iff.1 hf).1
    have hm : (Region.before ops).toList[j]? = some ((Region.before ops).toList[j]'(by omega)) := List.getElem?_eq_getElem _
    rcases h2 j _ f hm hf k g (by simpa using hk) (by simpa using hg) with h | h
    · exact .inl ⟨_, by simp, h⟩
    · exact .inr h
  have hpre : ∀ (i : Nat) (o : Oper), ops[i]? = some o → (∀ e ∈ o.after, Region.binds .any e = true → D e.on = true) → ∀ k, Pre i k → D k = true := by
    rintro i o ho he k ⟨m, hm, hk⟩
    exact closed_before (ops := ops.toList) (D := D) (fun i o ho => hcl i o (by simpa using ho)) i o m (by simpa using ho) (by simpa using hm) he k hk
  have hb : ∀ k, Pre j k → D k = true := hpre j o ho he
  have hcl' : ∀ i k, D i = true → Pre i k → D k = true := by
    intro i k hD hp
    have hi : i < ops.size := by
      obtain ⟨m, hm, _⟩ := hp
      have := (Array.getElem?_eq_some_iff.1 hm).1
      simp at hbs
      omega
    exact hpre i ops[i] (Array.getElem?_eq_getElem hi) (hcl i _ (Array.getElem?_eq_getElem hi) hD) k hp
  refine ⟨fun x hx => cur_ready hFO' hj hb hcl' hf hlt hx, fun x hx => cur_after hFO' hj hcl' hf hlt hx, fun hbar i hi hne => ?_⟩
  rcases Nat.lt_or_ge i j with hij | hij
  · obtain ⟨g, hg, _⟩ := hst i ops[i] (Array.getElem?_eq_getElem hi)
    rcases hFO' j f hf i g hij hg with h | h
    · rw [hb i h]; simp [hij]
    · have := h.fb; rw [hbar] at this; cases this
  · cases hD : D i with
    | false => simp; omega
    | true =>
      obtain ⟨g, hg, _⟩ := hst i ops[i] (Array.getElem?_eq_getElem hi)
      rcases hFO' i g hg j f (by omega) hf with h | h
      · have := hcl' i j hD h
        rw [hj] at this; cases this
      · have := h.gb; rw [hbar] at this; cases this
theorem agree_facts {D : Nat → Bool} {j : Nat} {o : Oper} (ho : ops[j]? = some o) (hj : D j = false) (hcl : ∀ (i : Nat) (o : Oper), ops[i]? = some o → D i = true → ∀ e ∈ o.after, Region.binds .any e = true → D e.on = true) (he : ∀ e ∈ o.after, Region.binds .any e = true → D e.on = true) {f : Foot} (hf : fs[j]? = some f) :
    (∀ t, f.bar = true ∨ 2 * t ∈ f.rd ∨ 2 * t ∈ f.wr → (dTm st fs ops.size (st 0).tm.length D)[t]? = (st j).tm[t]?) ∧
    (∀ id, id < (st ops.size).H.length → f.bar = true ∨ 2 * id + 1 ∈ f.rd ∨ 2 * id + 1 ∈ f.wr → (dH st fs ops.size (st ops.size).H.length D)[id]? = some (((st j).H[id]?).getD .dead)) ∧
    (∀ t, f.bar = true ∨ 2 * t ∈ f.wr → (dTm st fs ops.size (st 0).tm.length (fun i => D i || i == j))[t]? = (st (j + 1)).tm[t]?) ∧
    (∀ id, id < (st ops.size).H.length → f.bar = true ∨ 2 * id + 1 ∈ f.wr → (dH st fs ops.size (st ops.size).H.length (fun i => D i || i == j))[id]? = some (((st (j + 1)).H[id]?).getD .dead)) ∧
    (f.bar = false → ∀ t, 2 * t ∉ f.wr → (dTm st fs ops.size (st 0).tm.length (fun i => D i || i == j))[t]? = (dTm st fs ops.size (st 0).tm.length D)[t]?) ∧
    (f.bar = false → ∀ id, id < (st ops.size).H.length → 2 * id + 1 ∉ f.wr → (dH st fs ops.size (st ops.size).H.length (fun i => D i || i == j))[id]? = (dH st fs ops.size (st ops.size).H.length D)[id]?) := by
  obtain ⟨h1, h2, _⟩ := ready_facts hrun hlen hst hFO ho hj hcl he hf
  have hlt : j < ops.size := (Array.getElem?_eq_some_iff.1 ho).1
  refine ⟨fun t ht => ?_, fun id hid hx => ?_, fun t ht => ?_, fun id hid hx => ?_, fun hb t ht => ?_, fun hb id hid hx => ?_⟩
  · rw [dTm_get hlen hst, h1 _ ht]
    exact cur_val (p := fun i => cnt fs i (2 * t)) (val := fun i => (st i).tm[t]?) (fun i hi hc => st_stay_tm hrun hlen hst hc (by omega))
  · rw [dH_get hid, h1 _ hx]
    rw [cur_val (p := fun i => cnt fs i (2 * id + 1)) (val := fun i => (st i).H[id]?) (fun i hi hc => st_stay_H hrun hlen hst hc (by omega))]
  · rw [dTm_get hlen hst, h2 _ ht]
  · rw [dH_get hid, h2 _ hx]
  · rw [dTm_get hlen hst, dTm_get hlen hst, cur_other hf hb ht]
  · rw [dH_get hid, dH_get hid, cur_other hf hb hx]
omit hrun hFO
theorem dTm_put {D : Nat → Bool} {j : Nat} {o : Oper} {f : Foot} {H1 H2 : Heap} {lg lg2 : Lg} {v : V} (hb : f.bar = false) (hw : ∀ t, 2 * t ∈ f.wr ↔ o.dst = some t) (hj : j ≤ ops.size)
    (a1 : ∀ t, f.bar = true ∨ 2 * t ∈ f.wr → (dTm st fs ops.size (st 0).tm.length (fun i => D i || i == j))[t]? = (st (j + 1)).tm[t]?)
    (a2 : f.bar = false → ∀ t, 2 * t ∉ f.wr → (dTm st fs ops.size (st 0).tm.length (fun i => D i || i == j))[t]? = (dTm st fs ops.size (st 0).tm.length D)[t]?)
    (h : st (j + 1) = St.put ⟨(st j).tm, H1, lg⟩ o.dst v) : dTm st fs ops.size (st 0).tm.length (fun i => D i || i == j) = (St.put ⟨dTm st fs ops.size (st 0).tm.length D, H2, lg2⟩ o.dst v).tm := by
  have hl := st_tm hlen hst j hj
  apply List.ext_getElem?
  intro t
  by_cases e : o.dst = some t
  · rw [a1 t (.inr ((hw t).2 e)), h, e]
    simp only [St.put]
    rw [List.getElem?_set, List.getElem?_set, if_pos rfl, if_pos rfl, hl]
    simp [dTm]
  · rw [a2 hb t (fun hm => e ((hw t).1 hm))]
    cases hd : o.dst with
    | none => rfl
    | some d =>
      simp only [St.put]
      rw [List.getElem?_set, if_neg (by rintro rfl; exact e hd)]

omit hlen hst in
theorem opVals_mem {s : St} {o : Oper} {x : Operand} (h : x ∈ o.op.operands.toList) {r : Nat} (hr : r ∈ (s.ev x).refs) : r ∈ V.refs.refsL (opVals s o) := by
  obtain ⟨i, hi⟩ := List.getElem?_of_mem h
  exact mem_refsL (i := i) (by unfold opVals; rw [List.getElem?_map, hi]; rfl) hr
end
section
variable {P : Program} {E : Env} (hT : TyOk P E.ty) (hF : FnsOk P E.fns) {run : Run} (hR : RunOk P run) (hrun : RunLog run) {X : Nat → Prop} {ops : Array Oper}
  {st : Nat → St} {fs : List Foot} (hlen : fs.length = ops.size) (hst : ∀ (i : Nat) (o : Oper), ops[i]? = some o → ∃ f, fs[i]? = some f ∧ dstep E run ops.toList (st i) o = some (f, st (i + 1)))
  (hFO : footsOk (Region.before ops).toList fs [] = true)
include hT hF hR hrun hlen hst hFO
theorem dinv_step {w0 : World} {ι0 : List Loc} (hι0 : ι0.length = (st 0).H.length) {D : Nat → Bool} {a : Act} {w : World} {ι : List Loc} (hI : DInv st fs ops X w0 ι0 D a w ι) {j : Nat} {o : Oper} (ho : ops[j]? = some o) (hj : D j = false)
    (he : ∀ e ∈ o.after, Region.binds .any e = true → D e.on = true) {Q : Exit → Act → World → Prop} : wpOp P ops Q j (fun a' w' => ∃ ι', DInv st fs ops X w0 ι0 (fun i => D i || i == j) a' w' ι') a w := by
  obtain ⟨f, hf, hd⟩ := hst j o ho
  obtain ⟨r1, r2, r3⟩ := ready_facts hrun hlen hst hFO ho hj hI.cl he hf
  obtain ⟨g1, g2, g3, g4, g5, g6⟩ := agree_facts hrun hlen hst hFO ho hj hI.cl he hf
  have hlt : j < ops.size := (Array.getElem?_eq_some_iff.1 ho).1
  have hlj : (st j).tm.length = (st 0).tm.length := st_tm hlen hst j (by omega)
  have hNl : (dH st fs ops.size (st ops.size).H.length D).length = (st ops.size).H.length := by simp [dH]
  have hNl' : (dH st fs ops.size (st ops.size).H.length (fun i => D i || i == j)).length = (st ops.size).H.length := by simp [dH]
  have hmono : ∀ i k, i ≤ k → k ≤ ops.size → (st i).H.length ≤ (st k).H.length := fun i k h1 h2 => by
    have := (st_grow hrun hlen hst (k - i) i (by omega)).len
    rwa [show i + (k - i) = k from by omega] at this
  have hLN : (st (j + 1)).H.length ≤ (st ops.size).H.length := hmono _ _ (by omega) (Nat.le_refl _)
  have hLL : (st j).H.length ≤ (st (j + 1)).H.length := hmono _ _ (by omega) (by omega)
  have hL0 : (st 0).H.length ≤ (st j).H.length := hmono _ _ (by omega) (by omega)
  have hcl' : ∀ (i : Nat) (o : Oper), ops[i]? = some o → (D i || i == j) = true → ∀ e ∈ o.after, Region.binds .any e = true → (D e.on || e.on == j) = true := by
    intro i o' ho' hD e he' hb
    simp only [Bool.or_eq_true, beq_iff_eq] at hD
    rcases hD with hD | rfl
    · rw [hI.cl i o' ho' hD e he' hb]; rfl
    · rw [ho] at ho'; cases ho'
      rw [he e he' hb]; rfl
  have hwant : awanted ops.toList ⟨dTm st fs ops.size (st 0).tm.length D, dH st fs ops.size (st ops.size).H.length D, lg0⟩ o = awanted ops.toList (st j) o :=
    awanted_congr (fun t ht => g1 t (dstep_guard hd t ht))
  unfold wpOp
  simp only [ho]
  rcases dstep_cases hd with ⟨v, H', l, hw, hop, hmv, hal, hil, rfl, hs'⟩ | ⟨v, H', l, hw, hop, hal, hbl, rfl, hs'⟩ | ⟨hw, rfl, hs'⟩
  · -- one that touches what it names
    rw [if_pos (wanted_sound hI.sr (hwant.trans hw))]
    refine .inl ?_
    have hlog := aop_log hrun hop
    have hl := hlog.len
    rw [restr_len] at hl
    have hml := merge_len (idsOf (st j) o) (st j).H H' 0 hl
    have hsH : (st (j + 1)).H = merge (idsOf (st j) o) 0 (st j).H H' := by rw [hs', (put_H _ _ _).1]
    have hsL : (st (j + 1)).H.length = H'.length := by rw [hsH, hml]
    have hwr : ∀ t, 2 * t ∈ (dstOf o ++ odds l.wr ++ fromTo (st j).H.length ((merge (idsOf (st j) o) 0 (st j).H H').length - (st j).H.length)) ↔ o.dst = some t := by
      intro t
      simp only [List.mem_append, dstOf_mem, odds_even, fromTo_even, or_false]
    have hwrH : ∀ id, 2 * id + 1 ∈ (dstOf o ++ odds l.wr ++ fromTo (st j).H.length ((merge (idsOf (st j) o) 0 (st j).H H').length - (st j).H.length)) ↔ id ∈ l.wr ∨ ((st j).H.length ≤ id ∧ id < H'.length) := by
      intro id
      simp only [List.mem_append, dstOf_odd, odds_mem, fromTo_mem, false_or]
      constructor
      · rintro (h | h)
        · exact .inl h
        · exact .inr (by omega)
      · rintro (h | h)
        · exact .inl h
        · exact .inr (by omega)
    have hids := idsLt_iff hil
    refine draw_step hT hF hR hI.sr.heap (L := (st j).H.length) (ids := idsOf (st j) o) (Hj := (st j).H) (by rw [hNl]; omega) rfl ?_ (ev := evR (st j) o) ?_ hop hmv (by rw [hNl]; omega) ?_ (H2 := dH st fs ops.size (st ops.size).H.length (fun i => D i || i == j)) (by rw [hNl, hNl']) ?_ ?_
    · intro id hid
      obtain ⟨b, hb, hr⟩ := hids id hid
      have hidL : id < (st j).H.length := (List.getElem?_eq_some_iff.1 hb).1
      refine ⟨hidL, ?_, fun B hB => ?_⟩
      · rw [g2 id (by omega) (.inr (.inl (by simp only [List.mem_append, odds_mem]; exact .inr hid))), hb]; rfl
      · rw [hb] at hB; cases hB; exact hr
    · intro x
      have base := hI.sr.ev x
      cases x with
      | tmp t =>
        simp only [evR]
        split
        · rename_i hm
          have hm := mem_iff.1 hm
          have := g1 t (.inr (.inl (by simp only [List.mem_append]; exact .inl (.inr (tmpsOf_mem hm)))))
          refine ⟨?_, fun r hr => allLt_iff hal r (opVals_mem (x := .tmp t) (tmNums_mem hm) hr)⟩
          have e : (st j).tm.getD t (.p .undef) = (St.ev ⟨dTm st fs ops.size (st 0).tm.length D, dH st fs ops.size (st ops.size).H.length D, lg0⟩ (.tmp t)) := by
            simp only [St.ev]
            rw [List.getD_eq_getElem?_getD, List.getD_eq_getElem?_getD, this]
          rw [e]
          exact base
        · exact ⟨.p _ _ (.undef _), fun r hr => by simp [V.refs] at hr⟩
      | const c => exact ⟨base, fun r hr => by simp [evR, St.ev, V.refs] at hr⟩
      | global c => exact ⟨base, fun r hr => by simp [evR, St.ev, V.refs] at hr⟩
      | func c => exact ⟨base, fun r hr => by simp [evR, St.ev, V.refs] at hr⟩
    · intro id h1 h2
      exact hI.fill j hlt hj id h1 (by omega)
    · intro id hid
      rw [hNl] at hid
      have hmg := merge_get (idsOf (st j) o) (st j).H H' 0 id hl
      rw [Nat.zero_add, ← hsH] at hmg
      by_cases hc : id ∈ l.wr ∨ ((st j).H.length ≤ id ∧ id < H'.length)
      · rw [g4 id hid (.inr ((hwrH id).2 hc)), hmg]
        have g2' := g2 id hid (.inr (.inr ((hwrH id).2 hc)))
        by_cases h1 : id < (st j).H.length ∧ mem id (idsOf (st j) o) = false
        · have h2 : id ∉ idsOf (st j) o := fun hm => by rw [mem_iff.2 hm] at h1; simp at h1
          rw [if_pos h1, if_neg (by rintro ⟨_, h | h⟩; exact h2 h; omega), g2']
        · rw [if_neg h1]
          rcases Nat.lt_or_ge id H'.length with h3 | h3
          · have hq : id ∈ idsOf (st j) o ∨ (st j).H.length ≤ id := by
              rcases Nat.lt_or_ge id (st j).H.length with h4 | h4
              · refine .inl (mem_iff.1 ?_)
                cases hm : mem id (idsOf (st j) o) with
                | true => rfl
                | false => exact absurd ⟨h4, hm⟩ h1
              · exact .inr h4
            rw [if_pos ⟨h3, hq⟩, List.getElem?_eq_getElem h3]
            rfl
          · rw [if_neg (by omega), g2', List.getElem?_eq_none h3, List.getElem?_eq_none (show (st j).H.length ≤ id by omega)]
      · rw [g6 rfl id hid (fun hm => hc ((hwrH id).1 hm))]
        have hc1 : id ∉ l.wr := fun h => hc (.inl h)
        split
        · rename_i h1
          rcases h1.2 with h2 | h2
          · obtain ⟨b, hb, _⟩ := hids id h2
            have hidL : id < (st j).H.length := (List.getElem?_eq_some_iff.1 hb).1
            rw [g2 id hid (.inr (.inl (by simp only [List.mem_append, odds_mem]; exact .inr h2))), hlog.same id (by rw [restr_len]; exact hidL) hc1 (by simp [hmv]), restr_get, Nat.zero_add, hb, mem_iff.2 h2]
            rfl
          · exact absurd (.inr ⟨h2, h1.1⟩) hc
        · rfl
    · intro u w' ι2 k1 k2 k3 k4 k5
      refine ⟨ι2, ?_, ?_, ?_, hcl'⟩
      · have h1 : SR ⟨dTm st fs ops.size (st 0).tm.length D, dH st fs ops.size (st ops.size).H.length (fun i => D i || i == j), lg0⟩ a w' X ι2 :=
          ⟨k1, hI.sr.len, fun t v u h1 h2 => k3 v u (hI.sr.tm t v u h1 h2), hI.sr.defers⟩
        have h2 := h1.put k2 o.dst
        have e := dTm_put (H2 := dH st fs ops.size (st ops.size).H.length (fun i => D i || i == j)) (lg2 := lg0) hlen hst rfl hwr (by omega) g3 g5 hs'
        refine ⟨k1, ?_, fun t v u h1 h3 => ?_, h2.defers⟩
        · show (dTm _ _ _ _ _).length = _
          rw [e]; exact h2.len
        · have h1 : (dTm st fs ops.size (st 0).tm.length (fun i => D i || i == j))[t]? = some v := h1
          rw [e] at h1
          have := h2.tm t v u h1 h3
          rw [(put_H _ _ _).1] at this
          exact this
      · have := k4 (List.range (st ops.size).H.length) (fun id h1 h2 => by rw [hNl] at h2; exact List.mem_range.2 h2)
        have := k4 ((List.range (st ops.size).H.length).filter (fun id => (st j).H.length ≤ id)) (fun id h1 h2 => by rw [hNl] at h2; simp; omega)
        refine hI.fr.trans this (fun id hid => ?_)
        rcases hid with hid | ⟨hid, h2⟩
        · exact hid
        · simp at hid; omega
      · intro i hi hD id h1 h2
        simp only [Bool.or_eq_false_iff, beq_eq_false_iff_ne] at hD
        rw [k5 id ?_]
        · exact hI.fill i hi hD.1 id h1 h2
        · rintro ⟨h3, h4⟩
          rcases Nat.lt_or_ge i j with h5 | h5
          · have := hmono (i + 1) j (by omega) (by omega); omega
          · have := hmono (j + 1) i (by omega) (by omega); omega
  · -- one that moves a block: all that stand ahead of it are done, and no others
    rw [if_pos (wanted_sound hI.sr (hwant.trans hw))]
    refine .inl ?_
    have hD := r3 rfl
    have hsH : (st (j + 1)).H = H' := by rw [hs', (put_H _ _ _).1]
    have htake : (dH st fs ops.size (st ops.size).H.length D).take (st j).H.length = (st j).H := by
      apply List.ext_getElem?
      intro id
      rw [List.getElem?_take]
      split
      · rename_i h
        rw [g2 id (by omega) (.inl rfl), List.getElem?_eq_getElem h]; rfl
      · rw [List.getElem?_eq_none (by omega)]
    have htm : dTm st fs ops.size (st 0).tm.length D = (st j).tm := List.ext_getElem? (fun t => g1 t (.inl rfl))
    obtain ⟨t1, t2⟩ := hI.sr.heap.take (st j).H.length (fun id B hid hB k hk => by
      have : (st j).H[id]? = some B := by
        rw [← htake, List.getElem?_take, if_pos hid]; exact hB
      exact blksLt_iff hbl id B hid this k hk)
    rw [show (dH st fs ops.size (st ops.size).H.length D).take (st j).H.length = (st j).H from htake] at t1 t2
    have hιl : ι.length = (st ops.size).H.length := by rw [← hNl]; exact hI.sr.heap.len
    have hsr : SR (st j) a w X (ι.take (st j).H.length) := by
      refine ⟨t1, by rw [← htm]; exact hI.sr.len, fun t v u h1 h2 => ?_, hI.sr.defers⟩
      exact (hI.sr.tm t v u (by show (dTm _ _ _ _ _)[t]? = _; rw [htm]; exact h1) h2).keep (t2.withX X) (fun id hid => by rw [List.getElem?_take, if_pos (allLt_iff hal id (mem_refsL h1 hid))])
    refine aop_wp hT hF hR hsr.heap hsr.ev hop ?_
    intro u w' ι' k1 k2 k3
    have hs1 := (hsr.step k1 k3 (addLg l (st j).lg)).put k2 o.dst
    rw [← hs'] at hs1
    obtain ⟨p1, p2, p3⟩ := hs1.heap.pad ((st ops.size).H.length - (st (j + 1)).H.length)
    have hιl' : ι'.length = (st (j + 1)).H.length := hs1.heap.len
    have hH2 : dH st fs ops.size (st ops.size).H.length (fun i => D i || i == j) = (st (j + 1)).H ++ List.replicate ((st ops.size).H.length - (st (j + 1)).H.length) .dead := by
      apply List.ext_getElem?
      intro id
      rcases Nat.lt_or_ge id (st ops.size).H.length with h | h
      · rw [g4 id h (.inl rfl)]
        rcases Nat.lt_or_ge id (st (j + 1)).H.length with h1 | h1
        · rw [List.getElem?_append_left h1, List.getElem?_eq_getElem h1]; rfl
        · rw [List.getElem?_append_right h1, List.getElem?_replicate, if_pos (by omega), List.getElem?_eq_none h1]; rfl
      · rw [List.getElem?_eq_none (by omega), List.getElem?_eq_none (by simp; omega)]
    have htm2 : dTm st fs ops.size (st 0).tm.length (fun i => D i || i == j) = (st (j + 1)).tm := List.ext_getElem? (fun t => g3 t (.inl rfl))
    refine ⟨ι' ++ List.replicate ((st ops.size).H.length - (st (j + 1)).H.length) filler, ?_, ?_, ?_, hcl'⟩
    · rw [hH2, htm2]
      exact ⟨p1, hs1.len, fun t v u h1 h2 => (hs1.tm t v u h1 h2).step p2 (by simp), hs1.defers⟩
    · rw [hH2]
      have fr1 : Fr w0 ι0 (st 0).H (st ops.size).lg.mv w (ι.take (st j).H.length) (st j).H := by
        refine ⟨hI.fr.same.trans t2, hI.fr.os, hI.fr.tape, hI.fr.output, ?_, fun id h1 h2 => ?_⟩
        · simp only [List.length_take]; omega
        · rw [List.getElem?_take, if_pos (by omega)]; exact hI.fr.loc id h1 h2
      have gr := st_grow hrun hlen hst (ops.size - (j + 1)) (j + 1) (by omega)
      rw [show j + 1 + (ops.size - (j + 1)) = ops.size from by omega] at gr
      have hmvs : ∀ id ∈ l.mv, id ∈ (st ops.size).lg.mv := fun id hid => gr.mv id (by rw [hs', (put_H _ _ _).2]; exact (addIds_mem _ _ _).2 (.inl hid))
      rw [hsH] at p2 ⊢
      exact (fr1.trans (mv2 := (st ops.size).lg.mv) k3 (fun id hid => hid.elim (fun h => h) (fun h => hmvs id h.1))).trans p2 (fun id hid => hid.elim (fun h => h) (fun h => by simp at h))
    · intro i hi hDi id h1 h2
      simp only [Bool.or_eq_false_iff, beq_eq_false_iff_ne] at hDi
      have h3 : j < i := by
        have := hD i hi hDi.2
        rw [hDi.1] at this
        have := of_decide_eq_false this.symm
        omega
      have h4 := hmono (j + 1) i (by omega) (by omega)
      have h5 := hmono (i + 1) ops.size (by omega) (Nat.le_refl _)
      rw [List.getElem?_append_right (by omega), List.getElem?_replicate, if_pos (by omega)]
  · -- one that is not wanted
    rw [if_neg (by rw [wanted_sound hI.sr (hwant.trans hw)]; simp)]
    have hwr : ∀ t, 2 * t ∈ dstOf o ↔ o.dst = some t := fun t => dstOf_mem
    have hH2 : dH st fs ops.size (st ops.size).H.length (fun i => D i || i == j) = dH st fs ops.size (st ops.size).H.length D := by
      apply List.ext_getElem?
      intro id
      rcases Nat.lt_or_ge id (st ops.size).H.length with h | h
      · exact g6 rfl id h dstOf_odd
      · rw [List.getElem?_eq_none (by omega), List.getElem?_eq_none (by omega)]
    have h2 := hI.sr.put (und_sound _ _ _) o.dst
    have e := dTm_put (H2 := dH st fs ops.size (st ops.size).H.length D) (lg2 := lg0) hlen hst rfl hwr (by omega) g3 g5 (show st (j + 1) = St.put ⟨(st j).tm, (st j).H, (st j).lg⟩ o.dst und from hs')
    refine ⟨ι, ?_, by rw [hH2]; exact hI.fr, fun i hi hD id h1 h2 => ?_, hcl'⟩
    · rw [hH2, e]
      have e2 : (⟨(St.put ⟨dTm st fs ops.size (st 0).tm.length D, dH st fs ops.size (st ops.size).H.length D, lg0⟩ o.dst und).tm, dH st fs ops.size (st ops.size).H.length D, lg0⟩ : St) = St.put ⟨dTm st fs ops.size (st 0).tm.length D, dH st fs ops.size (st ops.size).H.length D, lg0⟩ o.dst und := by
        cases o.dst <;> rfl
      rw [e2]
      exact h2
    · simp only [Bool.or_eq_false_iff] at hD
      exact hI.fill i hi hD.1 id h1 h2
end
section
variable {P : Program} {E : Env} (hT : TyOk P E.ty) (hF : FnsOk P E.fns) (hm : P.follows .mixedOrders = true)
include hT hF hm
/-- Whatever order is drawn, the region does what it does in the text's order. -/
theorem draw_ok : DrawOk P E := by
  intro run hR hrun id ops s s' a w X ι Q h hs hk
  unfold adraw at h
  split at h
  · rename_i fs s1 hds
    split at h
    · rename_i hc
      cases h
      simp only [Bool.and_eq_true] at hc
      obtain ⟨hFO, hEB⟩ := hc
      obtain ⟨st, e0, e1, e2, e3⟩ := dsteps_seq hds
      have hn : ops.toList.length = ops.size := by simp
      rw [hn] at e1 e2
      have hst : ∀ (i : Nat) (o : Oper), ops[i]? = some o → ∃ f, fs[i]? = some f ∧ dstep E run ops.toList (st i) o = some (f, st (i + 1)) := fun i o ho => e3 i o (by simpa using ho)
      have hFO' : footsOk (Region.before ops).toList fs [] = true := by simpa using hFO
      have hιl : ι.length = (st 0).H.length := by rw [e0]; exact hs.heap.len
      have hmono : (st 0).H.length ≤ (st ops.size).H.length := by
        have := (st_grow hrun e2 hst ops.size 0 (by omega)).len
        rwa [Nat.zero_add] at this
      have w1h : ({ w with drawn := w.drawn + 1 } : World).heap = w.heap := rfl
      refine wp_region_any hm (wpAny_inv (fun l a' w' => l.size = ops.size ∧ ∃ ι', DInv st fs ops X w ι (fun i => l.getD i false) a' w' ι') ?_ ?_ ops.size _ a _ ?_ ?_)
      · rintro l a' w' ⟨hls, ι', hI⟩ hr
        have hall : ∀ i, i < ops.size → l.getD i false = true := by
          intro i
          induction i using Nat.strongRecOn with
          | ind i ih =>
            intro hi
            have ho := Array.getElem?_eq_getElem hi
            cases hl : l.getD i true with
            | true =>
              have h1 : i < l.size := by omega
              simpa [Array.getD_eq_getD_getElem?, h1] using hl
            | false =>
              have : i ∈ Region.ready .any ops l := mem_ready.2 ⟨hl, ops[i], ho, fun e he hb => by
                have := edgesBack_iff hEB i ops[i] (by simp) e he hb
                exact ih e.on (by omega) (by omega)⟩
              rw [hr] at this
              cases this
        have hcur : ∀ x, cur (fun i => l.getD i false && cnt fs i x) ops.size = cur (fun i => cnt fs i x) ops.size := fun x => cur_congr _ (fun i hi => by rw [hall i hi]; rfl)
        have etm : dTm st fs ops.size (st 0).tm.length (fun i => l.getD i false) = (st ops.size).tm := by
          apply List.ext_getElem?
          intro t
          rw [dTm_get e2 hst, hcur]
          exact cur_val (p := fun i => cnt fs i (2 * t)) (val := fun i => (st i).tm[t]?) (fun i hi hc => st_stay_tm hrun e2 hst hc hi)
        have eH : dH st fs ops.size (st ops.size).H.length (fun i => l.getD i false) = (st ops.size).H := by
          apply List.ext_getElem?
          intro id
          rcases Nat.lt_or_ge id (st ops.size).H.length with hid | hid
          · rw [dH_get hid, hcur, cur_val (p := fun i => cnt fs i (2 * id + 1)) (val := fun i => (st i).H[id]?) (fun i hi hc => st_stay_H hrun e2 hst hc hi), List.getElem?_eq_getElem hid]
            rfl
          · rw [List.getElem?_eq_none hid, List.getElem?_eq_none (by simp [dH]; omega)]
        have hsr := hI.sr
        have hfr := hI.fr
        rw [eH, etm] at hsr
        rw [eH] at hfr
        have gr := st_grow hrun e2 hst ops.size 0 (by omega)
        rw [Nat.zero_add] at gr
        rw [e0] at gr hfr
        rw [e1] at gr hfr hsr
        exact hk a' w' ι' ⟨hsr.heap, hsr.len, hsr.tm, hsr.defers⟩ ⟨hfr, gr.mv⟩
      · rintro l a' w' i ⟨hls, ι', hI⟩ hi
        obtain ⟨h1, o, ho, h2⟩ := mem_ready.1 hi
        have hlt : i < ops.size := (Array.getElem?_eq_some_iff.1 ho).1
        have hil : i < l.size := by omega
        have hj : l.getD i false = false := by simpa [Array.getD_eq_getD_getElem?, hil] using h1
        refine wpOp_mono ?_ (dinv_step hT hF hR hrun e2 hst hFO' hιl hI ho hj h2)
        rintro a2 w2 ⟨ι2, hI2⟩
        refine ⟨by simp [hls], ι2, ?_⟩
        have e : (fun k => (l.setIfInBounds i true).getD k false) = fun k => l.getD k false || k == i := by
          funext k
          by_cases hk : k = i
          · subst hk; simp [Array.getD_eq_getD_getElem?, hil]
          · rw [getD_set_ne false (fun e => hk e.symm)]
            have : (k == i) = false := by simp [hk]
            rw [this, Bool.or_false]
        rw [e]
        exact hI2
      · simp
      · have hD : (fun i => (Array.replicate ops.size false).getD i false) = fun _ => false := by
          funext i
          rw [Array.getD_eq_getD_getElem?]
          rcases Nat.lt_or_ge i ops.size with h | h <;> simp [h]
        refine ⟨by simp, ι ++ List.replicate ((st ops.size).H.length - (st 0).H.length) filler, ?_⟩
        rw [hD]
        have hcur : ∀ x, cur (fun i => (fun _ => false) i && cnt fs i x) ops.size = 0 := fun x => cur_none (m := 0) _ (by omega) (fun i _ _ => rfl)
        have etm : dTm st fs ops.size (st 0).tm.length (fun _ => false) = (st 0).tm := by
          apply List.ext_getElem?
          intro t
          rw [dTm_get e2 hst, hcur]
        have eH : dH st fs ops.size (st ops.size).H.length (fun _ => false) = (st 0).H ++ List.replicate ((st ops.size).H.length - (st 0).H.length) .dead := by
          apply List.ext_getElem?
          intro id
          rcases Nat.lt_or_ge id (st ops.size).H.length with h | h
          · rw [dH_get h, hcur]
            rcases Nat.lt_or_ge id (st 0).H.length with h1 | h1
            · rw [List.getElem?_append_left h1, List.getElem?_eq_getElem h1]; rfl
            · rw [List.getElem?_append_right h1, List.getElem?_replicate, if_pos (by omega), List.getElem?_eq_none h1]; rfl
          · rw [List.getElem?_eq_none (by simp [dH]; omega), List.getElem?_eq_none (by simp; omega)]
        have hs0 : SR (st 0) a { w with drawn := w.drawn + 1 } X ι := by
          rw [e0]
          refine ⟨hs.heap.world w1h, hs.len, fun t v u h1 h2 => ?_, hs.defers⟩
          exact (hs.tm t v u h1 h2).keep ⟨fun b _ _ => by rw [w1h], by rw [w1h]; exact Nat.le_refl _, fun b hb => .inl hb⟩ (fun _ _ => rfl)
        obtain ⟨p1, p2, p3⟩ := hs0.heap.pad ((st ops.size).H.length - (st 0).H.length)
        refine ⟨?_, ?_, fun i hi _ id h1 h2 => ?_, fun i o _ h => by cases h⟩
        · rw [etm, eH]
          exact ⟨p1, hs0.len, fun t v u h1 h2 => (hs0.tm t v u h1 h2).step p2 (by simp), hs0.defers⟩
        · rw [eH]
          have q := p2.mono (mv' := (st ops.size).lg.mv) (by simp)
          exact ⟨⟨q.same.block, q.same.size, q.same.own⟩, q.os, q.tape, q.output, q.len, q.loc⟩
        · have h4 := (st_grow hrun e2 hst i 0 (by omega)).len
          have h5 := (st_grow hrun e2 hst (ops.size - (i + 1)) (i + 1) (by omega)).len
          rw [show i + 1 + (ops.size - (i + 1)) = ops.size from by omega] at h5
          rw [Nat.zero_add] at h4
          rw [List.getElem?_append_right (by omega), List.getElem?_replicate, if_pos (by omega)]
    · cases h
  · cases h
end
end Go.Ab

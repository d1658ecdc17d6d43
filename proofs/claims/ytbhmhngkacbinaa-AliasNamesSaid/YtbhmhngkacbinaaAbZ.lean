/- Regions that draw their order: all of them. Conditions: the tables of types and of functions. -/
import Derived.Test.YtbhmhngkacbinaaAbY
import Derived.Orders
namespace Go.Ab
open Go.RowKit
set_option autoImplicit false
set_option linter.unusedSimpArgs false

def cnt (fs : List Foot) (i x : Nat) : Bool := match fs[i]? with | some f => f.bar || mem x f.wr | none => false
section
variable {fs : List Foot} {Pre : Nat → Nat → Prop} (hFO : ∀ (j : Nat) (f : Foot), fs[j]? = some f → ∀ (k : Nat) (g : Foot), k < j → fs[k]? = some g → Pre j k ∨ Free f g)
  {D : Nat → Bool} {j : Nat} (hj : D j = false) (hb : ∀ k, Pre j k → D k = true) (hcl : ∀ i k, D i = true → Pre i k → D k = true) {f : Foot} (hf : fs[j]? = some f)
include hFO hj hcl hf
theorem cnt_late {x : Nat} (hx : f.bar = true ∨ x ∈ f.rd ∨ x ∈ f.wr) {i : Nat} (hi : j < i) (hD : D i = true) : cnt fs i x = false := by
  unfold cnt
  cases hg : fs[i]? with
  | none => rfl
  | some g =>
    rcases hFO i g hg j f hi hf with h | h
    · have := hcl i j hD h
      rw [hj] at this; cases this
    · simp only [h.fb, Bool.false_or]
      cases hm : mem x g.wr with
      | false => rfl
      | true =>
        have hm := mem_iff.1 hm
        rcases hx with hx | hx | hx
        · rw [h.gb] at hx; cases hx
        · exact absurd hx (h.wr x hm)
        · exact absurd hx (h.ww x hm)
include hb
theorem cnt_early {x : Nat} (hx : f.bar = true ∨ x ∈ f.rd ∨ x ∈ f.wr) {i : Nat} (hi : i < j) (hc : cnt fs i x = true) : D i = true := by
  have _u0 := hj
  have _u1 := hcl
  unfold cnt at hc
  cases hg : fs[i]? with
  | none => simp [hg] at hc
  | some g =>
    simp only [hg, Bool.or_eq_true] at hc
    rcases hFO j f hf i g hi hg with h | h
    · exact hb i h
    · rcases hc with hc | hc
      · rw [h.gb] at hc; cases hc
      · have hm := mem_iff.1 hc
        rcases hx with hx | hx | hx
        · rw [h.fb] at hx; cases hx
        · exact absurd hx (h.rw_ x hm)
        · exact absurd hm (h.ww x hx)
theorem cur_ready {n : Nat} (hn : j < n) {x : Nat} (hx : f.bar = true ∨ x ∈ f.rd ∨ x ∈ f.wr) : cur (fun i => D i && cnt fs i x) n = cur (fun i => cnt fs i x) j := by
  rw [cur_none (m := j) n (by omega) (fun i h1 h2 => ?_)]
  · refine cur_congr j (fun i hi => ?_)
    cases hc : cnt fs i x with
    | false => simp
    | true => rw [cnt_early hFO hj hb hcl hf hx hi hc]; rfl
  · rcases Nat.lt_or_ge j i with h3 | h3
    · cases hD : D i with
      | false => rfl
      | true => rw [cnt_late hFO hj hcl hf hx h3 hD]; rfl
    · obtain rfl : i = j := by omega
      rw [hj]; rfl
omit hb
theorem cur_after {n : Nat} (hn : j < n) {x : Nat} (hx : f.bar = true ∨ x ∈ f.wr) : cur (fun i => (D i || i == j) && cnt fs i x) n = j + 1 := by
  have hx' : f.bar = true ∨ x ∈ f.rd ∨ x ∈ f.wr := hx.imp (fun h => h) .inr
  rw [cur_none (m := j + 1) n (by omega) (fun i h1 h2 => ?_)]
  · have : cnt fs j x = true := by
      unfold cnt
      simp only [hf, Bool.or_eq_true]
      exact hx.imp (fun h => h) mem_iff.2
    show (if ((D j || j == j) && cnt fs j x) = true then j + 1 else _) = j + 1
    rw [if_pos (by simp [this])]
  · cases hD : D i with
    | false => simp [show i ≠ j from by omega]
    | true => rw [cnt_late hFO hj hcl hf hx' (by omega) hD]; simp
omit hFO hj hcl
theorem cur_other {n : Nat} {x : Nat} (h1 : f.bar = false) (h2 : x ∉ f.wr) : cur (fun i => (D i || i == j) && cnt fs i x) n = cur (fun i => D i && cnt fs i x) n := by
  refine cur_congr n (fun i _ => ?_)
  by_cases e : i = j
  · subst e
    have : cnt fs i x = false := by
      unfold cnt
      simp only [hf, h1, Bool.false_or]
      cases hm : mem x f.wr with
      | false => rfl
      | true => exact absurd (mem_iff.1 hm) h2
    simp [this]
  · have : (i == j) = false := by simp [e]
    simp [this]
end

/-- What a step of a region that draws its order is. -/
theorem dstep_cases {E : Env} {run : Run} {ops : List Oper} {s s' : St} {o : Oper} {f : Foot} (h : dstep E run ops s o = some (f, s')) :
    (∃ v H' l, awanted ops s o = some true ∧ aop E run (evR s o) (restr (idsOf s o) 0 s.H) o = some (v, H', l) ∧ l.mv = [] ∧ allLt s.H.length (V.refs.refsL (opVals s o)) = true ∧ idsLt s.H (idsOf s o) = true
      ∧ f = ⟨guardTmp ops o ++ tmpsOf o.op.operands.toList ++ odds (idsOf s o), dstOf o ++ odds l.wr ++ fromTo s.H.length ((merge (idsOf s o) 0 s.H H').length - s.H.length), false⟩ ∧ s' = St.put ⟨s.tm, merge (idsOf s o) 0 s.H H', addLg l s.lg⟩ o.dst v)
    ∨ (∃ v H' l, awanted ops s o = some true ∧ aop E run s.ev s.H o = some (v, H', l) ∧ allLt s.H.length (V.refs.refsL s.tm) = true ∧ blksLt s.H.length s.H.length s.H = true ∧ f = ⟨[], [], true⟩ ∧ s' = St.put ⟨invTm l.mv s.tm, H', addLg l s.lg⟩ o.dst v)
    ∨ (awanted ops s o = some false ∧ f = ⟨guardTmp ops o, dstOf o, false⟩ ∧ s' = s.put o.dst und) := by
  unfold dstep at h
  split at h
  · rename_i hw
    simp only at h
    split at h
    · rename_i v H' l hop
      split at h
      · rename_i hm
        split at h
        · rename_i hc
          simp only [Bool.and_eq_true] at hc
          cases h
          exact .inl ⟨v, H', l, hw, hop, by simpa using hm, hc.1, hc.2, rfl, rfl⟩
        · cases h
      · split at h
        · rename_i v H' l hop2
          split at h
          · rename_i hc
            simp only [Bool.and_eq_true] at hc
            cases h
            exact .inr (.inl ⟨v, H', l, hw, hop2, hc.1, hc.2, rfl, rfl⟩)
          · cases h
        · cases h
    · cases h
  · rename_i hw
    cases h
    exact .inr (.inr ⟨hw, rfl, rfl⟩)
  · cases h
theorem odds_mem {l : List Nat} {i : Nat} : 2 * i + 1 ∈ odds l ↔ i ∈ l := by
  induction l with
  | nil => simp [odds]
  | cons a r ih =>
    simp only [odds, List.mem_cons, ih]
    exact or_congr (by constructor <;> omega) Iff.rfl
theorem odds_even {l : List Nat} {i : Nat} : 2 * i ∉ odds l := by
  induction l with
  | nil => simp [odds]
  | cons a r ih => simp only [odds, List.mem_cons, not_or]; exact ⟨by omega, ih⟩
theorem fromTo_mem : ∀ {n a i : Nat}, 2 * i + 1 ∈ fromTo a n ↔ a ≤ i ∧ i < a + n
  | 0, a, i => by simp only [fromTo, List.not_mem_nil, false_iff]; omega
  | n + 1, a, i => by
    have := fromTo_mem (n := n) (a := a + 1) (i := i)
    simp only [fromTo, List.mem_cons]
    constructor
    · rintro (h | h)
      · omega
      · have := this.1 h; omega
    · intro h
      rcases Nat.eq_or_lt_of_le h.1 with h1 | h1
      · exact .inl (by omega)
      · exact .inr (this.2 (by omega))
theorem fromTo_even : ∀ {n a i : Nat}, 2 * i ∉ fromTo a n
  | 0, a, i => by simp [fromTo]
  | n + 1, a, i => by simp only [fromTo, List.mem_cons, not_or]; exact ⟨by omega, fromTo_even⟩
theorem dstOf_mem {o : Oper} {t : Nat} : 2 * t ∈ dstOf o ↔ o.dst = some t := by
  unfold dstOf
  cases o.dst with
  | none => simp
  | some d =>
    constructor
    · intro h
      have : 2 * t = 2 * d := by simpa using h
      rw [show d = t from by have h2 : (2 : Nat) ≠ 0 := by omega
                             exact (Nat.mul_left_cancel (by omega) this).symm]
    · intro h; cases h; simp
theorem dstOf_odd {o : Oper} {i : Nat} : 2 * i + 1 ∉ dstOf o := by
  unfold dstOf
  cases o.dst with
  | none => simp
  | some d => simp; omega
theorem tmpsOf_mem {l : List Operand} {t : Nat} (h : t ∈ tmNums l) : 2 * t ∈ tmpsOf l := by
  induction l with
  | nil => simp [tmNums] at h
  | cons x r ih =>
    cases x with
    | tmp u =>
      simp only [tmNums, tmpsOf, List.mem_cons] at *
      rcases h with rfl | h
      · exact .inl rfl
      · exact .inr (ih h)
    | _ => exact ih h
theorem tmNums_mem {l : List Operand} {t : Nat} (h : t ∈ tmNums l) : Operand.tmp t ∈ l := by
  induction l with
  | nil => simp [tmNums] at h
  | cons x r ih =>
    cases x with
    | tmp u =>
      simp only [tmNums, List.mem_cons] at h
      rcases h with rfl | h
      · exact List.mem_cons_self ..
      · exact List.mem_cons_of_mem _ (ih h)
    | _ => exact List.mem_cons_of_mem _ (ih h)
theorem idsLt_iff {H : Heap} : ∀ {ids : List Nat}, idsLt H ids = true → ∀ id ∈ ids, ∃ b, H[id]? = some b ∧ ∀ r ∈ b.refs, r < H.length
  | [], _, id, h => by simp at h
  | i :: r, h, id, hid => by
    simp only [idsLt, Bool.and_eq_true] at h
    rcases List.mem_cons.1 hid with rfl | hid
    · cases hb : H[id]? with
      | none => simp [hb] at h
      | some b => simp only [hb] at h; exact ⟨b, rfl, allLt_iff h.1⟩
    · exact idsLt_iff h.2 id hid
/-- What a step does not count for stays. -/
theorem dstep_stay {E : Env} {run : Run} (hrun : RunLog run) {ops : List Oper} {s s' : St} {o : Oper} {f : Foot} (h : dstep E run ops s o = some (f, s')) (hb : f.bar = false) :
    (∀ t, 2 * t ∉ f.wr → s'.tm[t]? = s.tm[t]?) ∧ ∀ id, 2 * id + 1 ∉ f.wr → s'.H[id]? = s.H[id]? := by
  have putTm : ∀ (x : St) (v : V) (t : Nat), o.dst ≠ some t → (x.put o.dst v).tm[t]? = x.tm[t]? := by
    intro x v t ht
    cases hd : o.dst with
    | none => rfl
    | some d => simp only [St.put]; rw [List.getElem?_set, if_neg (by rintro rfl; exact ht hd)]
  rcases dstep_cases h with ⟨v, H', l, _, hop, hmv, _, _, rfl, rfl⟩ | ⟨v, H', l, _, hop, _, _, rfl, rfl⟩ | ⟨_, rfl, rfl⟩
  · have hlog := aop_log hrun hop
    have hl := hlog.len
    rw [restr_len] at hl
    have hlog := restr_log hlog
    have hml := merge_len (idsOf s o) s.H H' 0 hl
    refine ⟨fun t ht => putTm _ _ t (fun e => ht ?_), fun id hid => ?_⟩
    · simp only [List.mem_append]
      exact .inl (.inl (dstOf_mem.2 e))
    · rw [(put_H _ _ _).1]
      simp only [List.mem_append, not_or, odds_mem, fromTo_mem] at hid
      rcases Nat.lt_or_ge id s.H.length with h1 | h1
      · exact hlog.same id h1 hid.1.2 (by simp [hmv])
      · have : s.H.length + ((merge (idsOf s o) 0 s.H H').length - s.H.length) ≤ id := by
          have := hid.2
          omega
        rw [List.getElem?_eq_none h1, List.getElem?_eq_none (by show (merge (idsOf s o) 0 s.H H').length ≤ id; omega)]
  · cases hb
  · refine ⟨fun t ht => putTm _ _ t (fun e => ht (dstOf_mem.2 e)), fun id _ => by rw [(put_H _ _ _).1]⟩
theorem awanted_congr {ops : List Oper} {s s1 : St} {o : Oper} (h : ∀ t, 2 * t ∈ guardTmp ops o → s1.tm[t]? = s.tm[t]?) : awanted ops s1 o = awanted ops s o := by
  unfold awanted
  cases hg : o.guard with
  | none => rfl
  | some jw =>
    obtain ⟨j, want⟩ := jw
    simp only
    cases hj : ops[j]? with
    | none => rfl
    | some g =>
      simp only
      cases hd : g.dst with
      | none => rfl
      | some d =>
        simp only
        have := h d (by unfold guardTmp; simp [hg, hj, hd])
        rw [List.getD_eq_getElem?_getD, List.getD_eq_getElem?_getD, this]
theorem dstep_guard {E : Env} {run : Run} {ops : List Oper} {s s' : St} {o : Oper} {f : Foot} (h : dstep E run ops s o = some (f, s')) (t : Nat) (ht : 2 * t ∈ guardTmp ops o) : f.bar = true ∨ 2 * t ∈ f.rd ∨ 2 * t ∈ f.wr := by
  rcases dstep_cases h with ⟨v, H', l, _, _, _, _, _, rfl, _⟩ | ⟨v, H', l, _, _, _, _, rfl, _⟩ | ⟨_, rfl, _⟩
  · exact .inr (.inl (by simp only [List.mem_append]; exact .inl (.inl ht)))
  · exact .inl rfl
  · exact .inr (.inl ht)
theorem closed_before {ops : List Oper} {D : Nat → Bool} (hcl : ∀ (i : Nat) (o : Oper), ops[i]? = some o → D i = true → ∀ e ∈ o.after, Region.binds .any e = true → D e.on = true) :
    ∀ (j : Nat) (o : Oper) (m : Nat), ops[j]? = some o → (Region.before ops.toArray)[j]? = some m → (∀ e ∈ o.after, Region.binds .any e = true → D e.on = true) → ∀ k, m.testBit k = true → D k = true := by
  obtain ⟨h1, h2⟩ := before_spec ops
  intro j
  induction j using Nat.strongRecOn with
  | ind j ih =>
    intro o m ho hm he k hk
    obtain ⟨e, h3, h4, h5⟩ := h2 j o m k ho hm hk
    rcases h5 with rfl | ⟨m', h6, h7, h8⟩
    · exact he e h3 h4
    · have hlt : e.on < ops.length := by have := (Array.getElem?_eq_some_iff.1 h6).1; omega
      exact ih e.on h7 ops[e.on] m' (List.getElem?_eq_getElem hlt) h6 (hcl e.on _ (List.getElem?_eq_getElem hlt) (he e h3 h4)) k h8
theorem edgesBack_iff : ∀ {l : List Oper} {j : Nat}, edgesBack j l = true → ∀ (i : Nat) (o : Oper), l[i]? = some o → ∀ e ∈ o.after, Region.binds .any e = true → e.on < j + i
  | [], j, h, i, o, ho => by simp at ho
  | x :: r, j, h, i, o, ho => by
    simp only [edgesBack, Bool.and_eq_true] at h
    intro e he hb
    cases i with
    | zero =>
      simp at ho; subst ho
      have := List.all_eq_true.1 h.1 e (by simpa using he)
      simpa [hb] using this
    | succ i =>
      have := edgesBack_iff h.2 i o (by simpa using ho) e he hb
      omega
/-- A way through the orders that keeps something true. -/
theorem wpAny_inv {P : Program} {md : Region.Mode} {ops : Array Oper} {Q : Exit → Act → World → Prop} (Inv : Array Bool → Act → World → Prop) (hd : ∀ l a w, Inv l a w → Region.ready md ops l = [] → Q .normal a w)
    (hs : ∀ l a w i, Inv l a w → i ∈ Region.ready md ops l → wpOp P ops Q i (Inv (l.setIfInBounds i true)) a w) : ∀ (fuel : Nat) (l : Array Bool) (a : Act) (w : World), l.toList.count false ≤ fuel → Inv l a w → wpAny P md ops Q fuel l a w
  | 0, l, a, w, h, hI => by
    have : Region.ready md ops l = [] := by
      rw [List.eq_nil_iff_forall_not_mem]
      intro i hi
      have h1 := (mem_ready.1 hi).1
      rw [Array.getD_eq_getD_getElem?] at h1
      cases hl : l[i]? with
      | none => simp [hl] at h1
      | some b =>
        simp [hl] at h1; subst h1
        have : false ∈ l.toList := by
          have := Array.mem_of_getElem? hl
          simpa using this
        have := List.count_pos_iff.2 this
        omega
    exact ⟨this, hd l a w hI this⟩
  | fuel + 1, l, a, w, h, hI => by
    refine ⟨hd l a w hI, fun i hi => wpOp_mono (fun a w hI' => wpAny_inv Inv hd hs fuel _ a w ?_ hI') (hs l a w i hI hi)⟩
    have h1 := (mem_ready.1 hi).1
    rw [Array.getD_eq_getD_getElem?] at h1
    cases hl : l[i]? with
    | none => simp [hl] at h1
    | some b =>
      simp [hl] at h1; subst h1
      obtain ⟨hlt, hv⟩ := Array.getElem?_eq_some_iff.1 hl
      have hlt' : i < l.toList.length := by simpa using hlt
      have hm : false ∈ l.toList := by
        have := Array.mem_of_getElem? hl
        simpa using this
      have hpos := List.count_pos_iff.2 hm
      rw [Array.toList_setIfInBounds, List.count_set hlt']
      have h3 : l.toList[i] = false := by simpa using hv
      rw [h3, if_pos (by rfl), if_neg (by simp)]
      omega

/-- The states of a region that draws its order: what has been done of it, is done; the rest is not. -/
def dTm (st : Nat → St) (fs : List Foot) (n T : Nat) (D : Nat → Bool) : List V :=
  (List.range T).map fun t => ((st (cur (fun i => D i && cnt fs i (2 * t)) n)).tm[t]?).getD und
def dH (st : Nat → St) (fs : List Foot) (n N : Nat) (D : Nat → Bool) : Heap :=
  (List.range N).map fun id => ((st (cur (fun i => D i && cnt fs i (2 * id + 1)) n)).H[id]?).getD .dead
theorem map_range_get {α : Type} (f : Nat → α) {n i : Nat} (h : i < n) : ((List.range n).map f)[i]? = some (f i) := by simp [h]
theorem HR.world {w w' : World} {X : Nat → Prop} {ι : List Loc} {H : Heap} (h : HR w X ι H) (hh : w'.heap = w.heap) : HR w' X ι H := by
  have hs : Same w (Own ι H) w' (Own ι H) := ⟨fun b _ _ => by rw [hh], by rw [hh]; exact Nat.le_refl _, fun b hb => .inl hb⟩
  exact ⟨h.len, fun id l B h1 h2 => (h.blk id l B h1 h2).keep (hs.withX X) (fun _ b _ _ => by rw [hh]) (fun _ _ => rfl), h.one, fun b hb => by rw [hh]; exact h.xlt b hb, h.xo⟩

section
variable {P : Program} {E : Env} (hT : TyOk P E.ty) (hF : FnsOk P E.fns) {run : Run} (hR : RunOk P run) (hrun : RunLog run) {X : Nat → Prop} {ops : Array Oper}
  {st : Nat → St} {fs : List Foot} (hlen : fs.length = ops.size) (hst : ∀ (i : Nat) (o : Oper), ops[i]? = some o → ∃ f, fs[i]? = some f ∧ dstep E run ops.toList (st i) o = some (f, st (i + 1)))
include hlen hst
theorem st_tm : ∀ i, i ≤ ops.size → (st i).tm.length = (st 0).tm.length
  | 0, _ => rfl
  | i + 1, h => by
    have _u0 := hlen
    obtain ⟨f, _, h2⟩ := hst i ops[i] (Array.getElem?_eq_getElem (by omega))
    rw [dstep_len h2, st_tm i (by omega)]
include hrun
theorem st_grow : ∀ d i, i + d ≤ ops.size → Grow (st i) (st (i + d))
  | 0, i, _ => Grow.refl _
  | d + 1, i, h => by
    have _u0 := hlen
    obtain ⟨f, _, h2⟩ := hst (i + d) ops[i + d] (Array.getElem?_eq_getElem (by omega))
    exact (st_grow d i (by omega)).trans (dstep_grow hrun h2)
theorem st_stay_tm {t i : Nat} (h : cnt fs i (2 * t) = false) (hi : i < ops.size) : (st (i + 1)).tm[t]? = (st i).tm[t]? := by
  have _u0 := hlen
  obtain ⟨f, h1, h2⟩ := hst i ops[i] (Array.getElem?_eq_getElem hi)
  simp only [cnt, h1, Bool.or_eq_false_iff] at h
  exact (dstep_stay hrun h2 h.1).1 t (fun hm => by rw [mem_iff.2 hm] at h; simp at h)
theorem st_stay_H {id i : Nat} (h : cnt fs i (2 * id + 1) = false) (hi : i < ops.size) : (st (i + 1)).H[id]? = (st i).H[id]? := by
  have _u0 := hlen
  obtain ⟨f, h1, h2⟩ := hst i ops[i] (Array.getElem?_eq_getElem hi)
  simp only [cnt, h1, Bool.or_eq_false_iff] at h
  exact (dstep_stay hrun h2 h.1).2 id (fun hm => by rw [mem_iff.2 hm] at h; simp at h)
end
end Go.Ab

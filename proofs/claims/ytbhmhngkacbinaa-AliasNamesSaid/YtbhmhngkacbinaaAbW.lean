/- The interpreter's log: a block that is not in it is as it was. No conditions. -/
import Derived.Test.YtbhmhngkacbinaaAbT
namespace Go.Ab
set_option autoImplicit false
set_option linter.unusedSimpArgs false

structure LogOk (H H' : Heap) (lg : Lg) : Prop where
  len : H.length ≤ H'.length
  same : ∀ id, id < H.length → id ∉ lg.wr → id ∉ lg.mv → H'[id]? = H[id]?
theorem LogOk.refl (H : Heap) (lg : Lg) : LogOk H H lg := ⟨Nat.le_refl _, fun _ _ _ _ => rfl⟩
theorem LogOk.push (H : Heap) (b : Blk) (lg : Lg) : LogOk H (H ++ [b]) lg := ⟨by simp, fun id hid _ _ => by rw [List.getElem?_append_left hid]⟩
theorem LogOk.set (H : Heap) (id : Nat) (b : Blk) {lg : Lg} (h : id ∈ lg.wr ∨ id ∈ lg.mv) : LogOk H (H.set id b) lg := ⟨by simp, fun j _ h1 h2 => by rw [List.getElem?_set, if_neg (by rintro rfl; exact h.elim h1 h2)]⟩
mutual
theorem inv_same (id : Nat) : ∀ (x : V), id ∉ x.refs → x.inv id = x
  | .p x, _ => rfl
  | .agg n cs, h => by simp only [V.inv, V.refs] at *; rw [invL_same id cs h]
  | .lp j i f, h => by simp [V.inv, V.refs] at *; intro e; exact absurd e.symm h
  | .ls j, h => by simp [V.inv, V.refs] at *; intro e; exact absurd e.symm h
  | .lsub j i f, h => by simp [V.inv, V.refs] at *; intro e; exact absurd e.symm h
  | .fn f cs, h => by simp only [V.inv, V.refs] at *; rw [if_neg (fun hm => h (mem_iff.1 hm))]
  | .tup cs, h => by simp only [V.inv, V.refs] at *; rw [invL_same id cs h]
  | .lm j, h => by simp [V.inv, V.refs] at *; intro e; exact absurd e.symm h
theorem invL_same (id : Nat) : ∀ (cs : List V), id ∉ V.refs.refsL cs → V.inv.invL id cs = cs
  | [], _ => rfl
  | v :: r, h => by
    simp only [V.refs.refsL, List.mem_append, not_or] at h
    simp only [V.inv.invL]
    rw [inv_same id v h.1, invL_same id r h.2]
end
theorem blkInv_same (id : Nat) (b : Blk) (h : id ∉ b.refs) : b.inv id = b := by
  cases b with
  | mi k xs => simp only [Blk.inv, Blk.refs] at *; rw [invL_same id xs h]
  | _ => rfl
theorem blksWith_mem (id : Nat) : ∀ (H : Heap) (n i : Nat) (b : Blk), H[i]? = some b → id ∈ b.refs → n + i ∈ blksWith id n H
  | [], n, i, b, h, _ => by simp at h
  | x :: r, n, i, b, h, hb => by
    simp only [blksWith]
    cases i with
    | zero =>
      simp at h; subst h
      rw [if_pos (mem_iff.2 hb)]
      simp
    | succ i =>
      have := blksWith_mem id r (n + 1) i b (by simpa using h) hb
      rw [show n + 1 + i = n + (i + 1) from by omega] at this
      split
      · exact List.mem_cons_of_mem _ this
      · exact this
theorem LogOk.move (H : Heap) (id : Nat) (b : Blk) : LogOk H ((invH id H).set id b) ⟨[id], blksWith id 0 H⟩ := ⟨by simp [invH_len], fun j hj h1 h2 => by
  rw [List.getElem?_set, if_neg (by rintro rfl; exact h2 (by simp)), invH_get]
  have hb := List.getElem?_eq_getElem hj
  rw [hb, Option.map_some, blkInv_same]
  intro hm
  exact h1 (by have := blksWith_mem id H 0 j _ hb hm; simpa using this)⟩
theorem astore_log {H H' : Heap} {t : TI} {a v : V} (h : astore H t a v = some H') : LogOk H H' ⟨[], a.refs⟩ := by
  unfold astore at h
  split at h
  · rename_i id i f
    have fin : ∀ b, H' = H.set id b → LogOk H H' ⟨[], V.refs (.lp id i f)⟩ := fun b e => e ▸ LogOk.set H id b (.inl (by simp [V.refs]))
    repeat' (split at h)
    all_goals first
      | (cases h; done)
      | (cases h; exact fin _ rfl)
  · cases h
theorem amapUpdate_log {E : Env} {H H' : Heap} {t : TI} {m k v : V} (h : amapUpdate E H t m k v = some H') : LogOk H H' ⟨[], m.refs⟩ := by
  unfold amapUpdate at h
  split at h
  · rename_i kt et id k' v' _
    have fin : ∀ b, H' = H.set id b → LogOk H H' ⟨[], V.refs (.lm id)⟩ := fun b e => e ▸ LogOk.set H id b (.inl (by simp [V.refs]))
    repeat' (split at h)
    all_goals first
      | (cases h; done)
      | (cases h; exact fin _ rfl)
  · cases h
theorem pureR_log {H H' : Heap} {o : Option V} {v : V} {lg : Lg} (h : pureR H o = some (v, H', lg)) : LogOk H H' lg := by
  obtain ⟨_, rfl, rfl⟩ := pureR_some h
  exact LogOk.refl _ _
theorem aappendTo_log {H H' : Heap} {te : TI} {s x v : V} {lg : Lg} (h : aappendTo H te s x = some (v, H', lg)) : LogOk H H' lg := by
  unfold aappendTo at h
  repeat' (split at h)
  all_goals first
    | (cases h; done)
    | (cases h; exact LogOk.move _ _ _)
theorem aappend_log {E : Env} {H H' : Heap} {t : TI} {s x v : V} {lg : Lg} (h : aappend E H t s x = some (v, H', lg)) : LogOk H H' lg := by
  unfold aappend at h
  split at h
  · split at h
    · split at h
      · split at h
        · rename_i hA
          cases h
          have g := aappendTo_log hA
          refine ⟨by have := g.len; simp at this; omega, fun id hid h1 _ => ?_⟩
          rw [g.same id (by simp; omega) h1 (fun hm => ?_), List.getElem?_append_left hid]
          simp only [aappendTo] at hA
          repeat' (split at hA)
          all_goals first
            | (cases hA; done)
            | (simp only [Option.some.injEq, Prod.mk.injEq] at hA; obtain ⟨_, _, rfl⟩ := hA; simp at hm; omega)
        · cases h
      · exact aappendTo_log h
    · cases h
  · cases h
theorem boxed_log {H H' : Heap} {k : EK} {x v : V} {lg : Lg} (h : aboxed H k x = some (v, H', lg)) : LogOk H H' lg := by
  unfold aboxed at h
  repeat' (split at h)
  all_goals first
    | (cases h; done)
    | (cases h; exact LogOk.push _ _ _)
theorem liveIn_mem {H : Heap} : ∀ {ids : List Nat} {id : Nat} {b : Blk}, id ∈ ids → H[id]? = some b → b.live = true → id ∈ liveIn H ids
  | [], id, b, h, _, _ => by simp at h
  | i :: r, id, b, h, hb, hl => by
    simp only [liveIn]
    rcases List.mem_cons.1 h with rfl | h
    · rw [hb]
      cases b <;> simp [Blk.live] at hl <;> simp
    · have := liveIn_mem h hb hl
      split <;> first | exact List.mem_cons_of_mem _ this | exact this
theorem fz_log {H H1 : Heap} {ids : List Nat} (h : fzIds H ids 0 H = some H1) : LogOk H H1 ⟨[], liveIn H ids⟩ := by
  obtain ⟨h1, h2⟩ := fzIds_get h
  refine ⟨by omega, fun id hid hw _ => ?_⟩
  have hb := List.getElem?_eq_getElem hid
  have hb' := List.getElem?_eq_getElem (l := H1) (i := id) (by omega)
  have g := h2 id _ _ hb hb'
  rw [Nat.zero_add] at g
  rw [hb, hb']
  by_cases hm : mem id ids = true
  · have e := g.1 hm
    have hnl : (H[id]).live = false := by
      cases hl : (H[id]).live with
      | false => rfl
      | true => exact absurd (liveIn_mem (mem_iff.1 hm) hb hl) hw
    generalize H[id] = B at *
    generalize H1[id]'(by omega) = B' at *
    cases B <;> simp [Blk.live] at hnl <;> simp [fzBlk] at e <;> rw [← e]
  · rw [g.2 (by simpa using hm)]
def RunLog (run : Run) : Prop := ∀ f args H v H' lg, run f args H = some (v, H', lg) → LogOk H H' lg
theorem aop_log {E : Env} {run : Run} (hrun : RunLog run) {ev : Operand → V} {H H' : Heap} {o : Oper} {v : V} {lg : Lg} (h : aop E run ev H o = some (v, H', lg)) : LogOk H H' lg := by
  have heap : ∀ {a : V} {x : Option Heap}, (∀ H1, x = some H1 → LogOk H H1 ⟨[], a.refs⟩) → heapR a x = some (v, H', lg) → LogOk H H' lg := by
    intro a x hx hh
    obtain ⟨h1, _, rfl⟩ := heapR_some hh
    exact hx _ h1
  have goL : ∀ id args, acallF.go E run H id args = some (v, H', lg) → LogOk H H' lg := by
    intro id args hg
    unfold acallF.go at hg
    split at hg
    · repeat' (split at hg)
      all_goals first
        | (cases hg; done)
        | (cases hg; exact LogOk.refl _ _)
    · exact hrun _ _ _ _ _ _ hg
    · repeat' (split at hg)
      all_goals first
        | (cases hg; done)
        | (cases hg; exact LogOk.refl _ _)
    · split at hg
      · rename_i H1 _ hf1
        split at hg
        · split at hg
          · cases hg; exact fz_log hf1
          · cases hg
        · cases hg
      · cases hg
    · cases hg
  unfold aop at h
  split at h
  case h_2 =>
    repeat' (split at h)
    all_goals first
      | (cases h; done)
      | (cases h; exact LogOk.refl _ _)
      | (cases h; exact LogOk.push _ _ _)
  all_goals first
    | (cases h; done)
    | (cases h; exact LogOk.refl _ _)
    | (cases h; exact LogOk.push _ _ _)
    | exact pureR_log h
    | (split at h
       · first
         | (cases h; exact LogOk.refl _ _)
         | exact pureR_log h
         | exact boxed_log h
         | exact heap (fun H1 h1 => astore_log h1) h
         | exact heap (fun H1 h1 => amapUpdate_log h1) h
         | (unfold abuildSlice at h; repeat' (split at h)
            all_goals first
              | (cases h; done)
              | (cases h; exact LogOk.push _ _ _))
         | (unfold amakeSlice at h; repeat' (split at h)
            all_goals first
              | (cases h; done)
              | (cases h; exact LogOk.push _ _ _))
         | (unfold abuiltin at h; repeat' (split at h)
            all_goals first
              | (cases h; done)
              | (cases h; exact LogOk.refl _ _)
              | exact aappend_log h
              | exact pureR_log h)
         | (unfold acallF at h; repeat' (split at h)
            all_goals first
              | (cases h; done)
              | exact goL _ _ h)
         | (split at h <;> first | (cases h; done) | (cases h; exact LogOk.refl _ _))
         | (simp only at h; split at h <;> first | (cases h; done) | (cases h; exact LogOk.refl _ _))
       all_goals first
         | (cases h; done)
         | exact pureR_log h
         | (cases h; exact LogOk.refl _ _)
         | (unfold acallF at h; repeat' (split at h)
            all_goals first
              | (cases h; done)
              | exact goL _ _ h)
         | (split at h <;> first | (cases h; done) | (cases h; exact LogOk.refl _ _)))
/-- From one state to a later one. -/
structure Grow (s s' : St) : Prop where
  len : s.H.length ≤ s'.H.length
  wr : ∀ i ∈ s.lg.wr, i ∈ s'.lg.wr
  mv : ∀ i ∈ s.lg.mv, i ∈ s'.lg.mv
  same : ∀ id, id < s.H.length → id ∉ s'.lg.wr → id ∉ s'.lg.mv → s'.H[id]? = s.H[id]?
theorem Grow.refl (s : St) : Grow s s := ⟨Nat.le_refl _, fun _ h => h, fun _ h => h, fun _ _ _ _ => rfl⟩
theorem Grow.trans {a b c : St} (h : Grow a b) (g : Grow b c) : Grow a c :=
  ⟨Nat.le_trans h.len g.len, fun i hi => g.wr i (h.wr i hi), fun i hi => g.mv i (h.mv i hi), fun id hid h1 h2 => (g.same id (Nat.lt_of_lt_of_le hid h.len) h1 h2).trans (h.same id hid (fun hh => h1 (g.wr id hh)) (fun hh => h2 (g.mv id hh)))⟩
theorem put_H (s : St) (d : Option Nat) (v : V) : (s.put d v).H = s.H ∧ (s.put d v).lg = s.lg := by cases d <;> exact ⟨rfl, rfl⟩
theorem Grow.put {s s' : St} (h : Grow s s') (d : Option Nat) (v : V) : Grow s (s'.put d v) := by
  obtain ⟨h1, h2⟩ := put_H s' d v
  exact ⟨by rw [h1]; exact h.len, by rw [h2]; exact h.wr, by rw [h2]; exact h.mv, by rw [h1, h2]; exact h.same⟩
theorem Grow.of_log {s : St} {H' : Heap} {l : Lg} (h : LogOk s.H H' l) (tm : List V) : Grow s ⟨tm, H', addLg l s.lg⟩ :=
  ⟨h.len, fun _ hi => (addIds_mem _ _ _).2 (.inr hi), fun _ hi => (addIds_mem _ _ _).2 (.inr hi), fun id hid h1 h2 => h.same id hid (fun hh => h1 ((addIds_mem _ _ _).2 (.inl hh))) (fun hh => h2 ((addIds_mem _ _ _).2 (.inl hh)))⟩
theorem merge_get (ids : List Nat) : ∀ (H H' : Heap) (n i : Nat), H.length ≤ H'.length → (merge ids n H H')[i]? = if i < H.length ∧ mem (n + i) ids = false then H[i]? else H'[i]?
  | [], H', n, i, _ => by simp [merge]
  | b :: r, [], n, i, h => by simp at h
  | b :: r, b' :: r', n, i, h => by
    simp only [merge]
    cases i with
    | zero =>
      simp only [List.getElem?_cons_zero, Nat.add_zero, List.length_cons, Nat.zero_lt_succ, true_and]
      cases mem n ids <;> simp
    | succ i =>
      simp only [List.getElem?_cons_succ, List.length_cons]
      rw [merge_get ids r r' (n + 1) i (by simpa using h), show n + 1 + i = n + (i + 1) from by omega]
      simp only [Nat.succ_lt_succ_iff, Nat.add_lt_add_iff_right]
theorem merge_len (ids : List Nat) : ∀ (H H' : Heap) (n : Nat), H.length ≤ H'.length → (merge ids n H H').length = H'.length
  | [], H', n, _ => by simp [merge]
  | b :: r, [], n, h => by simp at h
  | b :: r, b' :: r', n, h => by simp [merge, merge_len ids r r' (n + 1) (by simpa using h)]
theorem restr_log {H H' : Heap} {ids : List Nat} {l : Lg} (h : LogOk (restr ids 0 H) H' l) : LogOk H (merge ids 0 H H') l := by
  have hl := h.len
  rw [restr_len] at hl
  refine ⟨by rw [merge_len _ _ _ _ hl]; exact hl, fun id hid h1 h2 => ?_⟩
  rw [merge_get _ _ _ _ _ hl, Nat.zero_add]
  split
  · rfl
  · rename_i hc
    rw [h.same id (by rw [restr_len]; exact hid) h1 h2, restr_get, Nat.zero_add]
    have hm : mem id ids = true := by
      cases hm : mem id ids with
      | true => rfl
      | false => exact absurd ⟨hid, hm⟩ hc
    rw [List.getElem?_eq_getElem hid]
    simp [hm]
section
variable {E : Env} {run : Run} (hrun : RunLog run) {ops : List Oper}
include hrun
theorem astep_grow {s s' : St} {o : Oper} (h : astep E run ops s o = some s') : Grow s s' := by
  unfold astep at h
  split at h
  · split at h
    · rename_i hop
      cases h
      exact (Grow.of_log (aop_log hrun hop) _).put _ _
    · cases h
  · cases h
    exact (Grow.refl s).put _ _
  · cases h
theorem asteps_grow : ∀ {l : List Oper} {s s' : St}, asteps E run ops l s = some s' → Grow s s'
  | [], s, s', h => by simp [asteps] at h; subst h; exact Grow.refl _
  | o :: l, s, s', h => by
    simp only [asteps] at h
    cases h1 : astep E run ops s o with
    | none => simp [h1] at h
    | some s1 => simp only [h1] at h; exact (astep_grow hrun h1).trans (asteps_grow h)
theorem dstep_grow {s s' : St} {o : Oper} {f : Foot} (h : dstep E run ops s o = some (f, s')) : Grow s s' := by
  unfold dstep at h
  split at h
  · simp only at h
    split at h
    · rename_i hop
      split at h
      · split at h
        · cases h
          exact (Grow.of_log (restr_log (aop_log hrun hop)) _).put _ _
        · cases h
      · split at h
        · rename_i hop2
          split at h
          · cases h
            exact (Grow.of_log (aop_log hrun hop2) _).put _ _
          · cases h
        · cases h
    · cases h
  · cases h
    exact (Grow.refl s).put _ _
  · cases h
theorem dsteps_grow : ∀ {l : List Oper} {s s' : St} {fs : List Foot}, dsteps E run ops l s = some (fs, s') → Grow s s'
  | [], s, s', fs, h => by simp [dsteps] at h; rw [h.2]; exact Grow.refl _
  | o :: l, s, s', fs, h => by
    simp only [dsteps] at h
    cases h1 : dstep E run ops s o with
    | none => simp [h1] at h
    | some r =>
      obtain ⟨f, s1⟩ := r
      simp only [h1] at h
      cases h2 : dsteps E run ops l s1 with
      | none => simp [h2] at h
      | some r2 =>
        obtain ⟨fs2, s2⟩ := r2
        simp only [h2, Option.some.injEq, Prod.mk.injEq] at h
        obtain ⟨_, rfl⟩ := h
        exact (dstep_grow hrun h1).trans (dsteps_grow h2)
end
theorem gc_grow {s0 s1 : St} (h : Grow s0 s1) : Grow s0 (gc s0 s1) := by
  unfold gc
  simp only
  split
  · rename_i hc
    simp only [Bool.and_eq_true, decide_eq_true_eq] at hc
    have hl := h.len
    refine ⟨by simp only [List.length_take]; omega, h.wr, h.mv, fun id hid h1 h2 => ?_⟩
    simp only
    rw [List.getElem?_take, if_pos (by omega)]
    exact h.same id hid h1 h2
  · exact ⟨h.len, h.wr, h.mv, h.same⟩
def CodeLog (rec : Code → St → RC) : Prop := ∀ c s ex s', rec c s = some (ex, s') → Grow s s'
theorem acodeF_grow {E : Env} {run : Run} (hrun : RunLog run) {rec : Code → St → RC} (hrec : CodeLog rec) : CodeLog (acodeF E run rec) := by
  intro c s ex s' h
  cases c with
  | skip => simp only [acodeF, Option.some.injEq, Prod.mk.injEq] at h; rw [← h.2]; exact Grow.refl _
  | exit id => simp only [acodeF, Option.some.injEq, Prod.mk.injEq] at h; rw [← h.2]; exact Grow.refl _
  | ret => simp only [acodeF, Option.some.injEq, Prod.mk.injEq] at h; rw [← h.2]; exact Grow.refl _
  | region id ops draw =>
    simp only [acodeF] at h
    cases draw with
    | true =>
      simp only [if_true] at h
      cases h1 : adraw E run ops.toList s with
      | none => simp [h1] at h
      | some s1 =>
        simp only [h1, Option.some.injEq, Prod.mk.injEq] at h
        rw [← h.2]
        unfold adraw at h1
        split at h1
        · rename_i hd
          split at h1
          · cases h1; exact dsteps_grow hrun hd
          · cases h1
        · cases h1
    | false =>
      simp only [Bool.false_eq_true, if_false] at h
      cases h1 : asteps E run ops.toList ops.toList s with
      | none => simp [h1] at h
      | some s1 =>
        simp only [h1, Option.some.injEq, Prod.mk.injEq] at h
        rw [← h.2]
        exact asteps_grow hrun h1
  | seq x y =>
    simp only [acodeF] at h
    cases h1 : rec x s with
    | none => rw [h1] at h; cases h
    | some r =>
      obtain ⟨e1, s1⟩ := r
      rw [h1] at h
      cases e1 with
      | normal => exact (hrec _ _ _ _ h1).trans (hrec _ _ _ _ h)
      | exit id => cases h; exact hrec _ _ _ _ h1
      | ret => cases h; exact hrec _ _ _ _ h1
  | cond b x y =>
    simp only [acodeF] at h
    split at h
    · rename_i t ht
      cases t with
      | true => exact hrec _ _ _ _ h
      | false => exact hrec _ _ _ _ h
    · cases h
  | block id x =>
    simp only [acodeF] at h
    cases h1 : rec x s with
    | none => rw [h1] at h; cases h
    | some r =>
      obtain ⟨e1, s1⟩ := r
      rw [h1] at h
      cases e1 with
      | normal => cases h; exact hrec _ _ _ _ h1
      | ret => cases h; exact hrec _ _ _ _ h1
      | exit j =>
        simp only at h
        split at h <;> (cases h; exact hrec _ _ _ _ h1)
  | loop x =>
    simp only [acodeF] at h
    have h0 : Grow s { s with tm := normTm s.tm } := ⟨Nat.le_refl _, fun _ h => h, fun _ h => h, fun _ _ _ _ => rfl⟩
    cases h1 : rec x { s with tm := normTm s.tm } with
    | none => rw [h1] at h; cases h
    | some r =>
      obtain ⟨e1, s1⟩ := r
      rw [h1] at h
      cases e1 with
      | normal => exact h0.trans ((gc_grow (hrec _ _ _ _ h1)).trans (hrec _ _ _ _ h))
      | exit id => cases h; exact h0.trans (hrec _ _ _ _ h1)
      | ret => cases h; exact h0.trans (hrec _ _ _ _ h1)
  | _ => simp [acodeF] at h
theorem below_mem {n : Nat} : ∀ {l : List Nat} {i : Nat}, i ∈ l → i < n → i ∈ below n l
  | [], i, h, _ => by simp at h
  | j :: r, i, h, hi => by
    simp only [below]
    rcases List.mem_cons.1 h with rfl | h
    · rw [if_pos hi]; simp
    · have := below_mem h hi
      split
      · exact List.mem_cons_of_mem _ this
      · exact this
theorem arun_log {E : Env} {rec : Code → St → RC} (hrec : CodeLog rec) : RunLog (acode.arun E rec) := by
  intro f args H v H' lg h
  unfold acode.arun at h
  split at h
  · split at h
    · split at h
      · cases h
      · rename_i ex s _ hr
        have g := hrec _ _ _ _ hr
        split at h
        · simp only [Option.some.injEq, Prod.mk.injEq] at h
          obtain ⟨_, rfl, rfl⟩ := h
          exact ⟨g.len, fun id hid h1 h2 => g.same id hid (fun hh => h1 (below_mem hh hid)) (fun hh => h2 (below_mem hh hid))⟩
        · cases h
      · cases h
    · cases h
  · cases h
theorem acode_log (E : Env) : ∀ n, CodeLog (acode E n)
  | 0 => fun c s ex s' h => by simp [acode] at h
  | n + 1 => acodeF_grow (arun_log (acode_log E n)) (acode_log E n)
end Go.Ab

/- The interpreter's code against the model's. Conditions: the tables of types and of functions; what regions that draw their order do. -/
import Derived.Test.YtbhmhngkacbinaaAbW
namespace Go.Ab
open Go.RowKit
set_option autoImplicit false
set_option linter.unusedSimpArgs false

theorem normTm_get : ∀ (tm : List V), (normTm tm).length = tm.length ∧ ∀ (t : Nat) (v : V), (normTm tm)[t]? = some v → tm[t]? = some v ∨ v = .p .undef
  | [] => ⟨rfl, by simp [normTm]⟩
  | x :: r => by
    obtain ⟨h1, h2⟩ := normTm_get r
    unfold normTm
    split
    · rename_i e; cases e
    · rename_i e; cases e
      refine ⟨by simp [h1], fun t v h => ?_⟩
      cases t with
      | zero => simp at h; exact .inr h.symm
      | succ t => simpa using h2 t v (by simpa using h)
    · rename_i e; cases e
      refine ⟨by simp [h1], fun t v h => ?_⟩
      cases t with
      | zero => simp at h; subst h; exact .inl rfl
      | succ t => simpa using h2 t v (by simpa using h)
theorem gcTm_get : ∀ (l r : List V), l.length = r.length → (gcTm l r).length = r.length ∧ ∀ (t : Nat) (v : V), (gcTm l r)[t]? = some v → r[t]? = some v ∨ v = .p .undef
  | [], r, h => ⟨by simp [gcTm], fun t v h => .inl (by simpa [gcTm] using h)⟩
  | x :: l, [], h => by simp at h
  | x :: l, y :: r, h => by
    obtain ⟨h1, h2⟩ := gcTm_get l r (by simpa using h)
    unfold gcTm
    split
    · rename_i e1 e2; cases e1; cases e2
      refine ⟨by simp [h1], fun t v h => ?_⟩
      cases t with
      | zero => simp at h; exact .inr h.symm
      | succ t => simpa using h2 t v (by simpa using h)
    · rename_i e1 e2; cases e1; cases e2
      refine ⟨by simp [h1], fun t v h => ?_⟩
      cases t with
      | zero => simp at h; subst h; exact .inl rfl
      | succ t => simpa using h2 t v (by simpa using h)
    · rename_i e; cases e
    · rename_i e1 e2; cases e2
theorem SR.weak {s : St} {a : Act} {w : World} {X : Nat → Prop} {ι : List Loc} (h : SR s a w X ι) {tm : List V} {lg : Lg} (hl : tm.length = s.tm.length) (ht : ∀ (t : Nat) (v : V), tm[t]? = some v → s.tm[t]? = some v ∨ v = .p .undef) : SR ⟨tm, s.H, lg⟩ a w X ι :=
  ⟨h.heap, by simp [hl, h.len], fun t v u hv hu => (ht t v hv).elim (fun h1 => h.tm t v u h1 hu) (fun h1 => h1 ▸ .p _ _ (.undef _)), h.defers⟩
theorem allLt_iff {m : Nat} : ∀ {l : List Nat}, allLt m l = true → ∀ i ∈ l, i < m
  | [], _, i, hi => by simp at hi
  | j :: r, h, i, hi => by
    simp only [allLt, Bool.and_eq_true, decide_eq_true_eq] at h
    rcases List.mem_cons.1 hi with rfl | hi
    · exact h.1
    · exact allLt_iff h.2 i hi
theorem blksLt_iff {m : Nat} : ∀ {n : Nat} {H : Heap}, blksLt m n H = true → ∀ (i : Nat) (B : Blk), i < n → H[i]? = some B → ∀ j ∈ B.refs, j < m
  | 0, _, _, i, B, hi => by omega
  | n + 1, [], _, i, B, hi => by simp
  | n + 1, b :: r, h, i, B, hi => by
    simp only [blksLt, Bool.and_eq_true] at h
    intro hB
    cases i with
    | zero => simp at hB; subst hB; exact allLt_iff h.1
    | succ i => exact blksLt_iff h.2 i B (by omega) (by simpa using hB)
theorem gc_sound {s0 s1 : St} {a a1 : Act} {w w1 : World} {X : Nat → Prop} {ι ι1 : List Loc} (h0 : SR s0 a w X ι) (h1 : SR s1 a1 w1 X ι1) (hs : a1.tmps.size = a.tmps.size) (hS : Since s0 w ι s1 w1 ι1) : ∃ ι2, SR (gc s0 s1) a1 w1 X ι2 ∧ Since s0 w ι (gc s0 s1) w1 ι2 := by
  obtain ⟨g1, g2⟩ := gcTm_get s0.tm s1.tm (by rw [h0.len, h1.len, hs])
  have hw := h1.weak (lg := s1.lg) g1 g2
  unfold gc
  simp only
  split
  · rename_i hc
    simp only [Bool.and_eq_true, decide_eq_true_eq] at hc
    obtain ⟨c1, c2, c3⟩ := hc
    obtain ⟨k1, k2⟩ := h1.heap.take _ (blksLt_iff c3)
    have hl0 := h0.heap.len
    refine ⟨ι1.take _, ⟨k1, hw.len, fun t v u hv hu => ?_, hw.defers⟩, ?_, hS.2⟩
    · exact (hw.tm t v u hv hu).keep (k2.withX X) (fun id hid => by rw [List.getElem?_take, if_pos (allLt_iff c2 id (mem_refsL hv hid))])
    · have f := hS.1
      refine ⟨f.same.trans k2, f.os, f.tape, f.output, ?_, fun id hid hm => ?_⟩
      · have := f.len
        simp only [List.length_take]
        omega
      · rw [List.getElem?_take, if_pos (by omega)]
        exact f.loc id hid hm
  · exact ⟨ι1, hw, hS.1, hS.2⟩

def exOf : Ex → Exit
  | .normal => .normal
  | .exit id => .exit id
  | .ret => .ret
theorem loadAt_addr {P : Program} {w : World} {t : TypeId} {ua u : Value} (h : (Instr.loadAt t ua).run P w = .ok u w) : (do loadVar t (← asAddr ua) : Sem Value).run P w = .ok u w := by
  unfold Instr.loadAt at h
  cases ua with
  | pointer a =>
    cases a with
    | none => simp [Instr.sureAddr] at h
    | some A => simpa [Instr.sureAddr, asAddr] using h
  | _ => simp [Instr.sureAddr] at h
section
variable {P : Program} {E : Env} (hT : TyOk P E.ty) {w : World} {X : Nat → Prop} {ι : List Loc}
include hT
theorem ares_sound {s : St} {a : Act} (hs : SR s a w X ι) : ∀ (rs : List ResultVar) (l : List V), ares E s rs = some l → ∃ us : List Value, (rs.mapM (m := Sem) fun r => match r with
      | .tmp t => Pure.pure (a.tmps.getD t undef)
      | .cell b t => do loadVar t (← asAddr (a.tmps.getD b undef))).run P w = .ok us w ∧ l.length = us.length ∧ ∀ (j : Nat) (p : V) (u : Value), l[j]? = some p → us[j]? = some u → VR w (OX X ι s.H) ι p u
  | [], l, h => by simp [ares] at h; subst h; exact ⟨[], rfl, rfl, by simp⟩
  | .tmp t :: rs, l, h => by
    simp only [ares] at h
    cases hr : ares E s rs with
    | none => simp [hr] at h
    | some l' =>
      simp only [hr, Option.some.injEq] at h
      subst h
      obtain ⟨us, h1, h2, h3⟩ := ares_sound hs rs l' hr
      refine ⟨a.tmps.getD t undef :: us, ?_, by simp [h2], ?_⟩
      · rw [List.mapM_cons, Sem.run_bind]
        simp only [Sem.run_pure, Result.andThen_ok, Sem.run_bind, h1]
      · intro j p u hp hu
        cases j with
        | zero => simp only [List.getElem?_cons_zero, Option.some.injEq] at hp hu; subst hp; subst hu; exact hs.getD t
        | succ j => exact h3 j p u (by simpa using hp) (by simpa using hu)
  | .cell b t :: rs, l, h => by
    simp only [ares] at h
    cases ht : E.ty t with
    | none => simp [ht] at h
    | some ti =>
      cases hr : ares E s rs with
      | none => simp [ht, hr] at h
      | some l' =>
        simp only [ht, hr] at h
        cases hl : aload s.H ti (s.tm.getD b (.p .undef)) with
        | none => rw [hl] at h; cases h
        | some v =>
          rw [hl] at h
          simp only [Option.some.injEq] at h
          subst h
          obtain ⟨us, h1, h2, h3⟩ := ares_sound hs rs l' hr
          obtain ⟨u, g1, g2⟩ := aload_sound (P := P) hT ht hs.heap (hs.getD b) hl
          refine ⟨u :: us, ?_, by simp [h2], ?_⟩
          · rw [List.mapM_cons, Sem.run_bind]
            rw [loadAt_addr g1]
            simp only [Sem.run_pure, Result.andThen_ok, Sem.run_bind, h1]
          · intro j p u' hp hu
            cases j with
            | zero => simp only [List.getElem?_cons_zero, Option.some.injEq] at hp hu; subst hp; subst hu; exact g2
            | succ j => exact h3 j p u' (by simpa using hp) (by simpa using hu)
omit hT in
theorem oneRes_sound {O : Nat → Prop} : ∀ (l : List V) (us : List Value), l.length = us.length → (∀ (j : Nat) (p : V) (u : Value), l[j]? = some p → us[j]? = some u → VR w O ι p u) → VR w O ι (oneRes l) (if h : us.toArray.size = 1 then us.toArray[0] else .tuple us.toArray)
  | [], [], _, _ => .tup [] _ rfl (by simp)
  | [v], [u], _, h => h 0 v u rfl rfl
  | v :: v' :: l, u :: u' :: us, h2, h => by
    simp only [List.size_toArray, List.length_cons]
    rw [dif_neg (by omega)]
    exact .tup _ _ (by simpa using h2) (fun j p u hp hu => h j p u hp (by simpa using hu))
theorem results_sound {s : St} {a : Act} (hs : SR s a w X ι) {F : Func} {l : List V} (h : ares E s F.results.toList = some l) : ∃ u, (results F a.tmps).run P w = .ok u w ∧ VR w (OX X ι s.H) ι (oneRes l) u := by
  obtain ⟨us, h1, h2, h3⟩ := ares_sound (P := P) hT hs F.results.toList l h
  have hrun : (results F a.tmps).run P w = .ok (if h : us.toArray.size = 1 then us.toArray[0] else .tuple us.toArray) w := by
    unfold results
    rw [Array.mapM_eq_mapM_toList, Sem.run_bind, Sem.run_map]
    erw [h1]
    rfl
  exact ⟨_, hrun, oneRes_sound l us h2 h3⟩
end
/-- What is asked of regions that draw their order. -/
def DrawOk (P : Program) (E : Env) : Prop := ∀ (run : Run), RunOk P run → RunLog run → ∀ (id : Nat) (ops : Array Oper) (s s' : St) (a : Act) (w : World) (X : Nat → Prop) (ι : List Loc) (Q : Exit → Act → World → Prop), adraw E run ops.toList s = some s' → SR s a w X ι →
  (∀ a' w' ι', SR s' a' w' X ι' → Since s w ι s' w' ι' → Q .normal a' w') → (Code.region id ops true).wp P Q a w
def CodeOk (P : Program) (rec : Code → St → RC) : Prop := ∀ (c : Code) (s s' : St) (ex : Ex), rec c s = some (ex, s') → ∀ (a : Act) (w : World) (X : Nat → Prop) (ι : List Loc) (Q : Exit → Act → World → Prop), SR s a w X ι →
  (∀ a' w' ι', SR s' a' w' X ι' → a'.tmps.size = a.tmps.size → Since s w ι s' w' ι' → Q (exOf ex) a' w') → c.wp P Q a w
theorem below_iff {n : Nat} : ∀ {l : List Nat} {i : Nat}, i ∈ below n l ↔ i ∈ l ∧ i < n
  | [], i => by simp [below]
  | j :: r, i => by
    simp only [below]
    split
    · simp only [List.mem_cons, below_iff (l := r)]
      constructor
      · rintro (rfl | ⟨h1, h2⟩)
        · exact ⟨.inl rfl, by assumption⟩
        · exact ⟨.inr h1, h2⟩
      · rintro ⟨rfl | h1, h2⟩
        · exact .inl rfl
        · exact .inr ⟨h1, h2⟩
    · simp only [List.mem_cons, below_iff (l := r)]
      constructor
      · rintro ⟨h1, h2⟩; exact ⟨.inr h1, h2⟩
      · rintro ⟨rfl | h1, h2⟩
        · omega
        · exact ⟨h1, h2⟩
section
variable {P : Program} {E : Env} (hT : TyOk P E.ty) (hF : FnsOk P E.fns) (hD : DrawOk P E)
include hT hF hD
theorem arun_sound {rec : Code → St → RC} (hC : CodeOk P rec) : RunOk P (acode.arun E rec) := by
  have _u0 := hD
  intro f args H v H' lg h w X ι us hH ha
  unfold acode.arun at h
  split at h
  · rename_i F m hf
    obtain ⟨q1, q2, q3⟩ := hF.code f F m hf
    split at h
    · rename_i c hb
      have key : ∀ (ex : Ex) (s : St) (l : List V), rec c ⟨args ++ List.replicate (F.ntmps - args.length) und, H, lg0⟩ = some (ex, s) → (exOf ex = .normal ∨ exOf ex = .ret) → ares E s F.results.toList = some l → v = oneRes l → H' = s.H → lg = ⟨below H.length s.lg.mv, below H.length s.lg.wr⟩ → Calls P f us w (Post w X ι H v H' lg) := by
        rintro ex s l hrec hex hl rfl rfl rfl
        refine calls_of_wp q1 hb ?_
        have hsr : SR ⟨args ++ List.replicate (F.ntmps - args.length) und, H, lg0⟩ { tmps := us ++ Array.replicate (F.ntmps - us.size) undef, defers := [] } w X ι := by
          refine ⟨hH, by simp [ha.1], fun t v u hv hu => ?_, rfl⟩
          have := args_append ha (⟨by simp, fun j p u hp hu => by
            rw [List.getElem?_replicate] at hp
            rw [Array.getElem?_replicate] at hu
            split at hp <;> split at hu <;> first | (cases hp; done) | (cases hu; done) | (cases hp; cases hu; exact und_sound _ _ _)⟩ : Args w (OX X ι H) ι (List.replicate (F.ntmps - args.length) und) (Array.replicate (F.ntmps - args.length) undef))
          rw [ha.1] at hv this
          exact this.2 t v u hv hu
        refine hC c _ s ex hrec _ w X ι _ hsr (fun a' w' ι' h1 _ h2 => ?_)
        obtain ⟨u, r1, r2⟩ := results_sound (P := P) hT h1 hl
        have hpost : Post w X ι H (oneRes l) s.H ⟨below H.length s.lg.mv, below H.length s.lg.wr⟩ (.returned u) w' := by
          refine ⟨u, ι', rfl, h1.heap, r2, ?_⟩
          have f := h2.1
          exact ⟨f.same, f.os, f.tape, f.output, f.len, fun id hid hm => f.loc id hid (fun h3 => hm (below_iff.2 ⟨h3, by have := hH.len; omega⟩))⟩
        rcases hex with e | e <;> rw [e] <;> exact ⟨h1.defers, u, r1, hpost⟩
      cases hrec : rec c ⟨args ++ List.replicate (F.ntmps - args.length) und, H, lg0⟩ with
      | none => rw [hrec] at h; cases h
      | some es =>
        obtain ⟨ex, s⟩ := es
        rw [hrec] at h
        cases hl : ares E s F.results.toList with
        | none => cases ex <;> simp [hl] at h
        | some l =>
          cases ex with
          | exit i => simp at h
          | normal =>
            simp only [hl, Option.some.injEq, Prod.mk.injEq] at h
            exact key _ s l hrec (.inl rfl) hl h.1.symm h.2.1.symm h.2.2.symm
          | ret =>
            simp only [hl, Option.some.injEq, Prod.mk.injEq] at h
            exact key _ s l hrec (.inr rfl) hl h.1.symm h.2.1.symm h.2.2.symm
    · cases h
  · cases h
end
end Go.Ab

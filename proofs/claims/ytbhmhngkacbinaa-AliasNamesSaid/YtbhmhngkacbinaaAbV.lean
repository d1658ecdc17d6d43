/- The interpreter, sound. Conditions: the tables of types and of functions; what regions that draw their order do. -/
import Derived.Test.YtbhmhngkacbinaaAbU
namespace Go.Ab
open Go.RowKit
set_option autoImplicit false
set_option linter.unusedSimpArgs false

theorem put_len (s : St) (d : Option Nat) (v : V) : (s.put d v).tm.length = s.tm.length := by cases d <;> simp [St.put]
theorem astep_len {E : Env} {run : Run} {ops : List Oper} {s s' : St} {o : Oper} (h : astep E run ops s o = some s') : s'.tm.length = s.tm.length := by
  unfold astep at h
  split at h
  · split at h
    · cases h
      rw [put_len]
      exact (invTm_get _ _).1
    · cases h
  · cases h
    exact put_len _ _ _
  · cases h
theorem asteps_len {E : Env} {run : Run} {ops : List Oper} : ∀ {l : List Oper} {s s' : St}, asteps E run ops l s = some s' → s'.tm.length = s.tm.length
  | [], s, s', h => by simp [asteps] at h; rw [h]
  | o :: l, s, s', h => by
    simp only [asteps] at h
    cases h1 : astep E run ops s o with
    | none => simp [h1] at h
    | some s1 => simp only [h1] at h; rw [asteps_len h, astep_len h1]
theorem dstep_len {E : Env} {run : Run} {ops : List Oper} {s s' : St} {o : Oper} {f : Foot} (h : dstep E run ops s o = some (f, s')) : s'.tm.length = s.tm.length := by
  unfold dstep at h
  split at h
  · simp only at h
    split at h
    · split at h
      · split at h
        · cases h; rw [put_len]
        · cases h
      · split at h
        · split at h
          · cases h
            rw [put_len]
            exact (invTm_get _ _).1
          · cases h
        · cases h
    · cases h
  · cases h
    exact put_len _ _ _
  · cases h
theorem dsteps_len {E : Env} {run : Run} {ops : List Oper} : ∀ {l : List Oper} {s s' : St} {fs : List Foot}, dsteps E run ops l s = some (fs, s') → s'.tm.length = s.tm.length
  | [], s, s', fs, h => by simp [dsteps] at h; rw [h.2]
  | o :: l, s, s', fs, h => by
    simp only [dsteps] at h
    cases h1 : dstep E run ops s o with
    | none => simp [h1] at h
    | some r =>
      obtain ⟨f, s1⟩ := r
      simp only [h1] at h
      cases h2 : dsteps E run ops l s1 with
      | none => simp [h2] at h
      | some r2 =>
        obtain ⟨fs2, s2⟩ := r2
        simp only [h2, Option.some.injEq, Prod.mk.injEq] at h
        obtain ⟨_, rfl⟩ := h
        rw [dsteps_len h2, dstep_len h1]
theorem adraw_len {E : Env} {run : Run} {ops : List Oper} {s s' : St} (h : adraw E run ops s = some s') : s'.tm.length = s.tm.length := by
  unfold adraw at h
  split at h
  · split at h
    · cases h; exact dsteps_len (by assumption)
    · cases h
  · cases h
theorem range_take (ops : Array Oper) : ∀ n, n ≤ ops.size → (List.range n).filterMap (ops[·]?) = ops.toList.take n
  | 0, _ => by simp
  | n + 1, h => by
    have hn : n < ops.size := h
    rw [List.range_succ, List.filterMap_append, range_take ops n (by omega), List.take_succ_eq_append_getElem (by simpa using hn)]
    simp [hn]
theorem range_ops (ops : Array Oper) : (List.range ops.size).filterMap (ops[·]?) = ops.toList := by
  rw [range_take ops _ (Nat.le_refl _), List.take_of_length_le (by simp)]
section
variable {P : Program} {E : Env} (hT : TyOk P E.ty) (hF : FnsOk P E.fns) (hD : DrawOk P E)
def LoopOk (P : Program) (rec : Code → St → RC) (n : Nat) : Prop := ∀ (c : Code) (s s' : St) (ex : Ex), rec (.loop c) s = some (ex, s') → ∀ (a : Act) (w : World) (X : Nat → Prop) (ι : List Loc) (Q : Exit → Act → World → Prop), SR s a w X ι →
  (∀ a' w' ι', SR s' a' w' X ι' → a'.tmps.size = a.tmps.size → Since s w ι s' w' ι' → Q (exOf ex) a' w') → Code.rounds P c Q n a w
theorem Since.norm {s s' : St} {w w' : World} {ι ι' : List Loc} (tm : List V) (h : Since { s with tm := tm } w ι s' w' ι') : Since s w ι s' w' ι' := h
include hT hF hD
theorem loop_sound {rec : Code → St → RC} {n : Nat} (hC : CodeOk P rec) (hL : LoopOk P rec n) {run : Run} : LoopOk P (acodeF E run rec) (n + 1) := by
  have _u0 := hT
  have _u1 := hF
  have _u2 := hD
  intro c s s' ex h a w X ι Q hs hk
  rw [rounds_succ]
  simp only [acodeF] at h
  have hs0 : SR { s with tm := normTm s.tm } a w X ι := hs.weak (lg := s.lg) (normTm_get s.tm).1 (normTm_get s.tm).2
  cases h1 : rec c { s with tm := normTm s.tm } with
  | none => rw [h1] at h; cases h
  | some r =>
    obtain ⟨e1, s1⟩ := r
    rw [h1] at h
    refine hC c _ s1 e1 h1 a w X ι _ hs0 (fun a1 w1 ι1 g1 g2 g3 => ?_)
    cases e1 with
    | normal =>
      simp only at h
      obtain ⟨ι2, k1, k2⟩ := gc_sound hs0 g1 g2 g3
      exact hL c _ s' ex h a1 w1 X ι2 Q k1 (fun a' w' ι' q1 q2 q3 => hk a' w' ι' q1 (q2.trans g2) (Since.norm _ (k2.trans q3)))
    | exit id => cases h; exact hk a1 w1 ι1 g1 g2 (Since.norm _ g3)
    | ret => cases h; exact hk a1 w1 ι1 g1 g2 (Since.norm _ g3)
theorem code_sound {rec : Code → St → RC} {n : Nat} (hC : CodeOk P rec) (hL : LoopOk P rec n) {run : Run} (hR : RunOk P run) (hLog : RunLog run) : CodeOk P (acodeF E run rec) := by
  intro c s s' ex h a w X ι Q hs hk
  cases c with
  | skip =>
    simp only [acodeF, Option.some.injEq, Prod.mk.injEq] at h
    obtain ⟨rfl, rfl⟩ := h
    exact wp_skip (hk a w ι hs rfl (Since.refl _ _ _))
  | exit id =>
    simp only [acodeF, Option.some.injEq, Prod.mk.injEq] at h
    obtain ⟨rfl, rfl⟩ := h
    exact wp_exit (hk a w ι hs rfl (Since.refl _ _ _))
  | ret =>
    simp only [acodeF, Option.some.injEq, Prod.mk.injEq] at h
    obtain ⟨rfl, rfl⟩ := h
    exact wp_ret (hk a w ι hs rfl (Since.refl _ _ _))
  | region id ops draw =>
    simp only [acodeF] at h
    cases draw with
    | true =>
      simp only [if_true] at h
      cases h1 : adraw E run ops.toList s with
      | none => simp [h1] at h
      | some s1 =>
        simp only [h1, Option.some.injEq, Prod.mk.injEq] at h
        obtain ⟨rfl, rfl⟩ := h
        exact hD run hR hLog id ops s s1 a w X ι Q h1 hs (fun a' w' ι' g1 g2 => hk a' w' ι' g1 (by rw [← g1.len, adraw_len h1, hs.len]) g2)
    | false =>
      simp only [Bool.false_eq_true, if_false] at h
      cases h1 : asteps E run ops.toList ops.toList s with
      | none => simp [h1] at h
      | some s1 =>
        simp only [h1, Option.some.injEq, Prod.mk.injEq] at h
        obtain ⟨rfl, rfl⟩ := h
        refine wp_region (asteps_sound hT hF hR (List.range ops.size) s s1 a w ι (fun i hi => List.mem_range.1 hi) (by rw [range_ops]; exact h1) hs (fun a' w' ι' g1 g2 => hk a' w' ι' g1 (by rw [← g1.len, asteps_len h1, hs.len]) g2))
  | seq x y =>
    simp only [acodeF] at h
    cases h1 : rec x s with
    | none => rw [h1] at h; cases h
    | some r =>
      obtain ⟨e1, s1⟩ := r
      rw [h1] at h
      refine wp_seq (hC x s s1 e1 h1 a w X ι _ hs (fun a1 w1 ι1 g1 g2 g3 => ?_))
      cases e1 with
      | normal => exact hC y s1 s' ex h a1 w1 X ι1 Q g1 (fun a' w' ι' q1 q2 q3 => hk a' w' ι' q1 (q2.trans g2) (g3.trans q3))
      | exit id => cases h; exact hk a1 w1 ι1 g1 g2 g3
      | ret => cases h; exact hk a1 w1 ι1 g1 g2 g3
  | cond b x y =>
    simp only [acodeF] at h
    split at h
    · rename_i t ht
      have hb := hs.ev b
      rw [ht] at hb
      have hb := pv_bool hb
      cases t with
      | true => exact wp_cond_true hb (hC x s s' ex h a w X ι Q hs hk)
      | false => exact wp_cond_false hb (hC y s s' ex h a w X ι Q hs hk)
    · cases h
  | block id x =>
    simp only [acodeF] at h
    cases h1 : rec x s with
    | none => rw [h1] at h; cases h
    | some r =>
      obtain ⟨e1, s1⟩ := r
      rw [h1] at h
      refine wp_block (hC x s s1 e1 h1 a w X ι _ hs (fun a1 w1 ι1 g1 g2 g3 => ?_))
      cases e1 with
      | normal => cases h; exact hk a1 w1 ι1 g1 g2 g3
      | ret => cases h; exact hk a1 w1 ι1 g1 g2 g3
      | exit j =>
        simp only at h
        split at h
        · rename_i e
          cases h
          show (if j = id then _ else _)
          rw [if_pos e]
          exact hk a1 w1 ι1 g1 g2 g3
        · rename_i e
          cases h
          show (if j = id then _ else _)
          rw [if_neg e]
          exact hk a1 w1 ι1 g1 g2 g3
  | loop x => exact wp_loop_rounds (n + 1) (loop_sound hT hF hD hC hL x s s' ex h a w X ι Q hs hk)
  | _ => simp [acodeF] at h
theorem acode_sound : ∀ (n : Nat), CodeOk P (acode E n) ∧ LoopOk P (acode E n) n
  | 0 => ⟨fun c s s' ex h => by simp [acode] at h, fun c s s' ex h => by simp [acode] at h⟩
  | n + 1 => by
    obtain ⟨h1, h2⟩ := acode_sound n
    have hr := arun_sound hT hF hD h1
    have e : acode E (n + 1) = acodeF E (acode.arun E (acode E n)) (acode E n) := by
      funext c s
      rfl
    rw [e]
    exact ⟨code_sound hT hF hD h1 h2 hr (arun_log (acode_log E n)), loop_sound hT hF hD h1 h2⟩
/-- What the interpreter answers the program answers, and what was there stays as it was. -/
theorem acall_sound {n f : Nat} {args : List V} {H : Heap} {v : V} {H' : Heap} {lg : Lg} (h : acall E n f args H = some (v, H', lg)) {w : World} {X : Nat → Prop} {ι : List Loc} {us : Array Value} (hH : HR w X ι H) (ha : Args w (OX X ι H) ι args us) : Calls P f us w (Post w X ι H v H' lg) :=
  arun_sound hT hF hD (acode_sound hT hF hD n).1 f args H v H' lg h w X ι us hH ha
/-- In a heap of its own, with an answer that is a plain value: the whole. -/
theorem acall_plain {n f : Nat} {xs : List PV} {x : PV} {H' : Heap} {lg : Lg} (h : acall E n f (xs.map V.p) [] = some (.p x, H', lg)) {w : World} {us : Array Value} (ha : xs.length = us.size ∧ ∀ (j : Nat) (p : PV) (u : Value), xs[j]? = some p → us[j]? = some u → PR w (fun _ => False) p u) :
    Calls P f us w fun e w' => (∃ u, e = .returned u ∧ ∃ O, PR w' O x u) ∧ Below w.heap.size w w' := by
  have h0 := HR.nil w (fun _ => False) (fun _ h => h.elim)
  refine (acall_sound hT hF hD h h0 (pure_args ⟨ha.1, fun j p u hp hu => (ha.2 j p u hp hu).keep (Same.shrink (fun b hb => hb.elim (own_nil b) (fun h => h)))⟩ [])).mono ?_
  rintro e w' ⟨u, ι', rfl, g1, g2, g3⟩
  cases g2 with
  | p _ _ g2 => exact ⟨⟨u, rfl, _, g2⟩, ⟨g3.os, g3.tape, g3.output, g3.same.size, fun b hb => g3.same.block b hb (own_nil b)⟩⟩
end
end Go.Ab

/- The interpreter's operations against the model's: all that call no function of the program. Conditions: the table of types. -/
import Derived.Test.YtbhmhngkacbinaaAbQ
namespace Go.Ab
open Go.RowKit
set_option autoImplicit false
set_option linter.unusedSimpArgs false

theorem isNilSl_spec {x : Operand} (h : isNilSl x = true) : x = .const (.slice none 0 0) := by
  unfold isNilSl at h
  split at h
  · split at h
    · simp only [Bool.and_eq_true, beq_iff_eq] at h; rw [h.1, h.2]
    · cases h
  · cases h
theorem allPure_refs {vs : List V} {xs : List PV} (h : allPure vs = some xs) : vs = xs.map V.p := allPure_map h
theorem Leaves.plain {P : Program} {w : World} {X : Nat → Prop} {ι : List Loc} {H : Heap} (hH : HR w X ι H) {v : V} {u : Value} (h : VR w (OX X ι H) ι v u) : Leaves P (Pure.pure (Next.value u) : Sem Next) w X ι H v H lg0 :=
  ⟨w, ι, .value u, u, rfl, .inl rfl, hH, h, Fr.refl _ _ _⟩
section
variable {P : Program} {E : Env} (hT : TyOk P E.ty) {w : World} {X : Nat → Prop} {ι : List Loc} {H : Heap} (hH : HR w X ι H) {ev : Operand → V} {ae : Operand → Value} (hev : ∀ x, VR w (OX X ι H) ι (ev x) (ae x)) (hc : ∀ v, ae (.const v) = v)
include hT hH hev hc
theorem aop_sound {run : Run} {o : Oper} {v : V} {H' : Heap} {lg : Lg} (hn : isCall o.op = false) (h : aop E run ev H o = some (v, H', lg)) : Leaves P (execOp ae o) w X ι H v H' lg := by
  have plain : ∀ x, some (ev x, H, lg0) = some (v, H', lg) → Leaves P (Pure.pure (Next.value (ae x)) : Sem Next) w X ι H v H' lg := by
    intro x hx
    simp only [Option.some.injEq, Prod.mk.injEq] at hx
    obtain ⟨rfl, rfl, rfl⟩ := hx
    exact Leaves.plain hH (hev x)
  unfold execOp
  cases ho : o.op with
  | move x => simp only [aop, ho] at h; exact plain x h
  | assign x =>
    simp only [aop, ho] at h
    split at h
    · rename_i hx
      have hx := isNilSl_spec hx
      split at h
      · split at h
        · split at h
          · rename_i te hte
            simp only [Option.some.injEq, Prod.mk.injEq] at h
            obtain ⟨rfl, rfl, rfl⟩ := h
            obtain ⟨g1, g2⟩ := hH.ghost te.ek 0
            refine ⟨w, _, .value (ae x), ae x, rfl, .inl rfl, g1, ?_, g2⟩
            rw [hx, hc]
            exact .lsNil _ ⟨none, te.ek.sz, 0, 0⟩ none (by rw [← hH.len]; simp) rfl rfl
          · cases h
        · exact plain x h
      · exact plain x h
    · exact plain x h
  | pick c a b =>
    simp only [aop, ho] at h
    split at h
    · rename_i t ht
      simp only [Option.some.injEq, Prod.mk.injEq] at h
      obtain ⟨rfl, rfl, rfl⟩ := h
      have hcv := hev c
      rw [ht] at hcv
      have := pv_bool hcv
      refine ⟨w, ι, .value (if t then ae a else ae b), if t then ae a else ae b, ?_, .inl rfl, hH, ?_, Fr.refl _ _ _⟩
      · simp only [this, asBool, Sem.run_bind, Sem.run_pure, Result.andThen_ok]
      · cases t
        · exact hev b
        · exact hev a
    · cases h
  | alloc t =>
    simp only [aop, ho] at h
    cases ht : E.ty t with
    | none => simp [ht] at h
    | some ti => simp only [ht] at h; exact Leaves.val (aalloc_sound hT ht hH h)
  | box t x =>
    simp only [aop, ho] at h
    cases ht : E.ty t with
    | none => simp [ht] at h
    | some ti => simp only [ht] at h; exact Leaves.val (aboxed_sound hT ht hH (hev x) h)
  | build t ps =>
    simp only [aop, ho] at h
    cases ht : E.ty t with
    | none => simp [ht] at h
    | some ti =>
      simp only [ht] at h
      obtain ⟨h1, rfl, rfl⟩ := pureR_some h
      exact Leaves.quiet hH (abuild_sound hT ht (by simp) (parts_rel hev ps) h1)
  | buildSlice t n ps =>
    simp only [aop, ho] at h
    cases ht : E.ty t with
    | none => simp [ht] at h
    | some ti => simp only [ht] at h; exact Leaves.val (abuildSlice_sound hT ht hH (by simp) (parts_rel hev ps) h)
  | load t a =>
    simp only [aop, ho] at h
    cases ht : E.ty t with
    | none => simp [ht] at h
    | some ti =>
      simp only [ht] at h
      obtain ⟨h1, rfl, rfl⟩ := pureR_some h
      exact Leaves.quiet hH (aload_sound hT ht hH (hev a) h1)
  | store t a x =>
    simp only [aop, ho] at h
    cases ht : E.ty t with
    | none => simp [ht] at h
    | some ti =>
      simp only [ht] at h
      obtain ⟨h1, rfl, rfl⟩ := heapR_some h
      exact Leaves.unit (astore_sound hT ht hH (hev a) (hev x) h1) rfl
  | nilCheck x =>
    simp only [aop, ho] at h
    split at h
    · rename_i hk
      obtain ⟨a, ha⟩ := nilK_sound (hev x) hk
      have := plain x h
      simp only [ha] at this ⊢
      exact this
    · cases h
  | binOp op t x y yt =>
    simp only [aop, ho] at h
    cases ht : E.ty t with
    | none => simp [ht] at h
    | some ti =>
      simp only [ht] at h
      obtain ⟨h1, rfl, rfl⟩ := pureR_some h
      exact Leaves.quiet hH (abin_sound hT ht rfl (hev x) (hev y) h1)
  | unOp op t x =>
    simp only [aop, ho] at h
    obtain ⟨h1, rfl, rfl⟩ := pureR_some h
    exact Leaves.quiet hH (aun_sound (hev x) h1)
  | convert s t x =>
    simp only [aop, ho] at h
    cases hs : E.ty s with
    | none => simp [hs] at h
    | some si =>
      cases ht : E.ty t with
      | none => simp [hs, ht] at h
      | some ti =>
        simp only [hs, ht] at h
        obtain ⟨h1, rfl, rfl⟩ := pureR_some h
        exact Leaves.quiet hH (aconv_sound hT hs ht (hev x) h1)
  | makeFunc f first cs =>
    simp only [aop, ho] at h
    split at h
    · rename_i hf
      obtain rfl : first = #[] := by simpa using hf
      obtain ⟨hlen, hrel⟩ := vals_rel hev cs
      split at h
      · rename_i xs hp
        simp only [Option.some.injEq, Prod.mk.injEq] at h
        obtain ⟨rfl, rfl, rfl⟩ := h
        have e := allPure_map hp
        refine Leaves.quiet hH ⟨.func f #[] (cs.map ae), by simp [Instr.makeFunc], .p _ _ (.fn f xs _ ?_ ?_)⟩
        · rw [← hlen, e]; simp
        · intro i c u hci hui
          have := hrel i (.p c) u (by rw [e]; simp [hci]) hui
          cases this with | p _ _ this => exact this
      · simp only [Option.some.injEq, Prod.mk.injEq] at h
        obtain ⟨rfl, rfl, rfl⟩ := h
        exact Leaves.quiet hH ⟨.func f #[] (cs.map ae), by simp [Instr.makeFunc], .fn f _ _ hlen hrel⟩
    · cases h
  | makeMap t r =>
    cases r with
    | some r => simp [aop, ho] at h
    | none =>
      simp only [aop, ho, Option.some.injEq, Prod.mk.injEq] at h
      obtain ⟨rfl, rfl, rfl⟩ := h
      obtain ⟨g1, g2⟩ := hH.push (w' := w.alloc (.map #[] 0)) (.map #[] 0) rfl rfl rfl rfl ⟨some (w.heap.size, 0), 0, 0, 0⟩ (.mp [] []) rfl (fun b o hp => by simp at hp; omega) (by
        simp only [BR]
        exact ⟨#[], 0, by rw [alloc_heap, Array.getElem?_push_size], rfl, rfl, by simp, by simp⟩)
      refine Leaves.val ⟨_, _, .map (some w.heap.size), ?_, g1, ?_, g2⟩
      · simp only [Option.map_none, Instr.makeMap, Sem.run_bind, Sem.run_pure, Result.andThen_ok, run_newObj]
        rfl
      · exact .lm _ ⟨some (w.heap.size, 0), 0, 0, 0⟩ _ 0 (by rw [← hH.len]; simp) rfl
  | makeSlice t l c =>
    simp only [aop, ho] at h
    cases ht : E.ty t with
    | none => simp [ht] at h
    | some ti => simp only [ht] at h; exact Leaves.val (amakeSlice_sound hT ht hH (hev l) (hev c) h)
  | slice t x lo hi mx =>
    cases mx with
    | some m => simp [aop, ho] at h
    | none =>
      simp only [aop, ho] at h
      cases ht : E.ty t with
      | none => simp [ht] at h
      | some ti =>
        simp only [ht] at h
        obtain ⟨h1, rfl, rfl⟩ := pureR_some h
        exact Leaves.quiet hH (aslice_sound hT ht hH (hev x) (optR_map hev lo) (optR_map hev hi) h1)
  | fieldAddr t x i =>
    simp only [aop, ho] at h
    cases ht : E.ty t with
    | none => simp [ht] at h
    | some ti =>
      simp only [ht] at h
      obtain ⟨h1, rfl, rfl⟩ := pureR_some h
      exact Leaves.quiet hH (afieldAddr_sound hT ht hH (hev x) h1)
  | field t x i =>
    simp only [aop, ho] at h
    cases ht : E.ty t with
    | none => simp [ht] at h
    | some ti =>
      simp only [ht] at h
      obtain ⟨h1, rfl, rfl⟩ := pureR_some h
      exact Leaves.quiet hH (afield_sound hT ht hH (hev x) h1)
  | indexAddr t x i =>
    simp only [aop, ho] at h
    cases ht : E.ty t with
    | none => simp [ht] at h
    | some ti =>
      simp only [ht] at h
      obtain ⟨h1, rfl, rfl⟩ := pureR_some h
      exact Leaves.quiet hH (aindexAddr_sound hT ht hH (hev x) (hev i) h1)
  | index t x i =>
    simp only [aop, ho] at h
    cases ht : E.ty t with
    | none => simp [ht] at h
    | some ti =>
      simp only [ht] at h
      obtain ⟨h1, rfl, rfl⟩ := pureR_some h
      exact Leaves.quiet hH (aindex_sound hT ht hH (hev x) (hev i) h1)
  | lookup t m k ok =>
    simp only [aop, ho] at h
    cases ht : E.ty t with
    | none => simp [ht] at h
    | some ti =>
      simp only [ht] at h
      obtain ⟨h1, rfl, rfl⟩ := pureR_some h
      exact Leaves.quiet hH (alookup_sound hT ht hH (hev m) (hev k) h1)
  | mapUpdate t m k x =>
    simp only [aop, ho] at h
    cases ht : E.ty t with
    | none => simp [ht] at h
    | some ti =>
      simp only [ht] at h
      obtain ⟨h1, rfl, rfl⟩ := heapR_some h
      exact Leaves.unit (amapUpdate_sound hT ht hH (hev m) (hev k) (hev x) h1) rfl
  | extract x i =>
    simp only [aop, ho] at h
    split at h
    · rename_i vs hv
      obtain ⟨h1, rfl, rfl⟩ := pureR_some h
      have := hev x
      rw [hv] at this
      generalize hu : ae x = ux at this
      cases this with
      | tup _ us hn hr =>
        have hi : i < us.size := by have := (List.getElem?_eq_some_iff.1 h1).1; omega
        have hus := Array.getElem?_eq_getElem hi
        refine Leaves.quiet hH ⟨us[i], ?_, hr i v _ h1 hus⟩
        simp only [hu, Instr.extract, hus]
        rfl
    · cases h
  | call c =>
    obtain ⟨callee, args, ats⟩ := c
    cases callee with
    | value f => simp [isCall, ho] at hn
    | invoke r m => simp [aop, ho] at h
    | builtin b =>
      simp only [aop, ho] at h
      have := abuiltin_sound hT hH hev hc (type := o.type) (consts := args.map fun | .const _ => true | _ => false) h
      obtain ⟨w', ι', nx, u, h1, h2⟩ := this
      refine ⟨w', ι', nx, u, ?_, h2⟩
      simp only [resolve, Sem.run_bind, Sem.run_pure, Result.andThen_ok, invoke]
      exact h1
  | _ => simp [aop, ho] at h
end
end Go.Ab

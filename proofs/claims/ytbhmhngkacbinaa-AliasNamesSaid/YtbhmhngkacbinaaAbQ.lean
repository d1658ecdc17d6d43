/- The interpreter's operations against the model's. Conditions: the table of types. -/
import Derived.Test.YtbhmhngkacbinaaAbP
namespace Go.Ab
open Go.RowKit
set_option autoImplicit false
set_option linter.unusedSimpArgs false

theorem ofVal_sound (w : World) (O : Nat → Prop) (v : Value) : PR w O (ofVal v) v := by
  cases v with
  | bool b => exact .bool b
  | int k n => exact .int k n
  | float k b => exact .flt k b
  | string s => exact .str s
  | pointer a => cases a with
    | none => exact .nilp
    | some a => exact .undef _
  | slice a l c => cases a with
    | none =>
      simp only [ofVal]
      split
      · rename_i h
        obtain ⟨rfl, rfl⟩ := h
        exact .nils
      · exact .undef _
    | some a => exact .undef _
  | func f first cs =>
    simp only [ofVal]
    split
    · rename_i h
      obtain ⟨h1, h2⟩ := h
      obtain rfl := Array.eq_empty_of_size_eq_zero h1
      obtain rfl := Array.eq_empty_of_size_eq_zero h2
      exact .fn f [] #[] rfl (by simp)
    · exact .undef _
  | nilFunc => exact .nilfn
  | nilIface => exact .nilif
  | _ => exact .undef _
theorem parts_rel {w : World} {O : Nat → Prop} {ι : List Loc} {ev : Operand → V} {ae : Operand → Value} (hev : ∀ x, VR w O ι (ev x) (ae x)) (ps : Array (Nat × Operand)) : ∀ (j : Nat) (p : Nat × V) (u : Nat × Value), (ps.toList.map fun (i, x) => (i, ev x))[j]? = some p → (ps.map fun (i, x) => (i, ae x))[j]? = some u → p.1 = u.1 ∧ VR w O ι p.2 u.2 := by
  intro j p u hp hu
  simp only [List.getElem?_map, Array.getElem?_toList, Option.map_eq_some_iff] at hp
  simp only [Array.getElem?_map, Option.map_eq_some_iff] at hu
  obtain ⟨a, ha, rfl⟩ := hp
  obtain ⟨b, hb, rfl⟩ := hu
  rw [ha] at hb
  cases hb
  exact ⟨rfl, hev _⟩
theorem vals_rel {w : World} {O : Nat → Prop} {ι : List Loc} {ev : Operand → V} {ae : Operand → Value} (hev : ∀ x, VR w O ι (ev x) (ae x)) (xs : Array Operand) : (xs.toList.map ev).length = (xs.map ae).size ∧ ∀ (j : Nat) (p : V) (u : Value), (xs.toList.map ev)[j]? = some p → (xs.map ae)[j]? = some u → VR w O ι p u := by
  refine ⟨by simp, ?_⟩
  intro j p u hp hu
  simp only [List.getElem?_map, Array.getElem?_toList, Option.map_eq_some_iff] at hp
  simp only [Array.getElem?_map, Option.map_eq_some_iff] at hu
  obtain ⟨a, ha, rfl⟩ := hp
  obtain ⟨b, hb, rfl⟩ := hu
  rw [ha] at hb
  cases hb
  exact hev _
theorem und_sound (w : World) (O : Nat → Prop) (ι : List Loc) : VR w O ι und undef := .tup [] #[] rfl (by simp)

/-- What an operation leaves. -/
def Leaves (P : Program) (s : Sem Next) (w : World) (X : Nat → Prop) (ι : List Loc) (H : Heap) (v : V) (H' : Heap) (lg : Lg) : Prop :=
  ∃ w' ι' nx u, s.run P w = .ok nx w' ∧ (nx = .value u ∨ (nx = .skip ∧ u = undef)) ∧ HR w' X ι' H' ∧ VR w' (OX X ι' H') ι' v u ∧ Fr w ι H lg.mv w' ι' H'
section
variable {P : Program} {w : World} {X : Nat → Prop} {ι : List Loc} {H : Heap} (hH : HR w X ι H)
include hH
theorem Leaves.quiet {s : Sem Value} {v : V} (h : ∃ u, s.run P w = .ok u w ∧ VR w (OX X ι H) ι v u) : Leaves P (do Pure.pure (Next.value (← s)) : Sem Next) w X ι H v H lg0 := by
  obtain ⟨u, h1, h2⟩ := h
  exact ⟨w, ι, .value u, u, by rw [Sem.run_bind, h1]; rfl, .inl rfl, hH, h2, Fr.refl _ _ _⟩
end
theorem Leaves.val {P : Program} {w : World} {X : Nat → Prop} {ι : List Loc} {H : Heap} {s : Sem Value} {v : V} {H' : Heap} {lg : Lg} (h : ∃ w' ι' q, s.run P w = .ok q w' ∧ HR w' X ι' H' ∧ VR w' (OX X ι' H') ι' v q ∧ Fr w ι H lg.mv w' ι' H') : Leaves P (do Pure.pure (Next.value (← s)) : Sem Next) w X ι H v H' lg := by
  obtain ⟨w', ι', q, h1, h2, h3, h4⟩ := h
  exact ⟨w', ι', .value q, q, by rw [Sem.run_bind, h1]; rfl, .inl rfl, h2, h3, h4⟩
theorem Leaves.unit {P : Program} {w : World} {X : Nat → Prop} {ι : List Loc} {H : Heap} {s : Sem Unit} {H' : Heap} {lg : Lg} (h : ∃ w', s.run P w = .ok () w' ∧ HR w' X ι H' ∧ Fr w ι H [] w' ι H') (hl : lg.mv = []) : Leaves P (do s; Pure.pure Next.skip : Sem Next) w X ι H und H' lg := by
  obtain ⟨w', h1, h2, h3⟩ := h
  exact ⟨w', ι, .skip, undef, by rw [Sem.run_bind, h1]; rfl, .inr ⟨rfl, rfl⟩, h2, und_sound _ _ _, by rw [hl]; exact h3⟩
theorem pureR_some {H H' : Heap} {o : Option V} {v : V} {lg : Lg} (h : pureR H o = some (v, H', lg)) : o = some v ∧ H' = H ∧ lg = lg0 := by
  cases o with
  | none => cases h
  | some x => simp [pureR] at h; exact ⟨congrArg some h.1, h.2.1.symm, h.2.2.symm⟩
theorem heapR_some {a : V} {H' : Heap} {o : Option Heap} {v : V} {lg : Lg} (h : heapR a o = some (v, H', lg)) : o = some H' ∧ v = und ∧ lg = ⟨[], a.refs⟩ := by
  cases o with
  | none => cases h
  | some x => simp [heapR] at h; exact ⟨congrArg some h.2.1, h.1.symm, h.2.2.symm⟩
section
variable {P : Program} {E : Env} (hT : TyOk P E.ty) {w : World} {X : Nat → Prop} {ι : List Loc} {H : Heap} (hH : HR w X ι H) {ev : Operand → V} {ae : Operand → Value} (hev : ∀ x, VR w (OX X ι H) ι (ev x) (ae x)) (hc : ∀ v, ae (.const v) = v)
include hT hH hev hc
theorem minmax_sound (mx : Bool) (k : IntKind) : ∀ (l : List V) (us : List Value) (a : Int) (v : V), aminmax mx k a l = some v → l.length = us.length → (∀ (j : Nat) (p : V) (u : Value), l[j]? = some p → us[j]? = some u → VR w (OX X ι H) ι p u) →
    ∃ u, (us.foldlM (if mx then Builtin.max2 else Builtin.min2) (.int k a)).run P w = .ok u w ∧ VR w (OX X ι H) ι v u
  | [], us, a, v, h, hl, _ => by
    have _u0 := hT
    have _u1 := hH
    have _u2 := hev
    have _u3 := hc
    obtain rfl : us = [] := by cases us <;> simp_all
    simp [aminmax] at h; subst h
    exact ⟨_, rfl, pr_int _ _⟩
  | x :: l, us, a, v, h, hl, hr => by
    cases us with
    | nil => simp at hl
    | cons u us =>
      have hx := hr 0 x u rfl rfl
      unfold aminmax at h
      split at h
      · rename_i e; cases e
      · rename_i k' b r e
        cases e
        obtain rfl := pv_int hx
        split at h
        · rename_i hk
          subst hk
          obtain ⟨u', h1, h2⟩ := minmax_sound mx k _ us _ v h (by simpa using hl) (fun j p u hp hu => hr (j + 1) p u (by simpa using hp) (by simpa using hu))
          refine ⟨u', ?_, h2⟩
          rw [List.foldlM_cons, Sem.run_bind]
          cases mx with
          | true => simp only [if_true] at h1 ⊢; simp only [Builtin.max2, Sem.run_pure, Result.andThen_ok]; exact h1
          | false => simp only [Bool.false_eq_true, if_false] at h1 ⊢; simp only [Builtin.min2, Sem.run_pure, Result.andThen_ok]; exact h1
        · cases h
      · cases h
theorem abuiltin_sound {b : Builtin} {ts : Array TypeId} {type : TypeId} {consts : Array Bool} {xs : Array Operand} {v : V} {H' : Heap} {lg : Lg} (h : abuiltin E H b ((ts[0]?).bind E.ty) ((ts[1]?).bind E.ty) (xs.toList.map ev) = some (v, H', lg)) :
    Leaves P (builtin b ts type consts (xs.map ae)) w X ι H v H' lg := by
  obtain ⟨hlen, hrel⟩ := vals_rel hev xs
  unfold abuiltin at h
  split at h
  · rename_i x hx
    cases hts : ts[0]? with
    | none => simp [hts] at h
    | some t =>
      cases ht : E.ty t with
      | none => simp [hts, ht] at h
      | some ti =>
        simp only [hts, ht, Option.bind_some] at h
        split at h
        · rename_i n hn
          simp only [Option.some.injEq, Prod.mk.injEq] at h
          obtain ⟨rfl, rfl, rfl⟩ := h
          rw [hx] at hlen hrel
          obtain ⟨u, hu⟩ : ∃ u, xs.map ae = #[u] := by
            have : (xs.map ae).size = 1 := hlen.symm
            exact ⟨(xs.map ae)[0], by apply Array.ext; simp [this]; intro i h1 h2; simp at h2; subst h2; rfl⟩
          have hvr := hrel 0 x u rfl (by rw [hu]; rfl)
          refine Leaves.quiet hH ⟨.int .i64 n, ?_, pr_int _ _⟩
          rw [hu]
          have := alen_sound hT ht hH hvr hn type
          have e : ∀ as : Array Value, (Builtin.len_ ts type as).run P w = (Builtin.len_ #[t] type as).run P w := fun as => by simp only [Builtin.len_, hts]; rfl
          rw [e]
          exact this
        · cases h
  · rename_i s x hx
    cases hts : ts[0]? with
    | none => simp [hts] at h
    | some t =>
      cases ht : E.ty t with
      | none => simp [hts, ht] at h
      | some ti =>
        cases hts2 : ts[1]? with
        | none => simp [hts, ht, hts2, notInt] at h
        | some t2 =>
          cases ht2 : E.ty t2 with
          | none => simp [hts, ht, hts2, ht2, notInt] at h
          | some ti2 =>
            simp only [hts, ht, hts2, ht2, Option.bind_some] at h
            split at h
            · rename_i hn2
              rw [hx] at hlen hrel
              obtain ⟨us, ux, hu⟩ : ∃ us ux, xs.map ae = #[us, ux] := by
                have : (xs.map ae).size = 2 := hlen.symm
                exact ⟨(xs.map ae)[0], (xs.map ae)[1], by
                  apply Array.ext
                  · simp [this]
                  · intro i h1 h2
                    simp at h2
                    match i, h2 with
                    | 0, _ => rfl
                    | 1, _ => rfl⟩
              have hs := hrel 0 s us rfl (by rw [hu]; rfl)
              have hxx := hrel 1 x ux rfl (by rw [hu]; rfl)
              refine Leaves.val ?_
              rw [hu]
              have e : ∀ as : Array Value, (Builtin.append_ ts type as) = (Builtin.append_ #[t, t2] type as) := fun as => by simp only [Builtin.append_, hts, hts2]; rfl
              rw [e]
              exact aappend_sound hT ht ht2 hn2 hH hs hxx h type
            · cases h
  · rename_i k a l hx
    obtain ⟨h1, h2, h3⟩ := pureR_some h
    subst h2; subst h3
    rw [hx] at hlen hrel
    have hxs : (xs.map ae).toList = .int k a :: ((xs.map ae).toList.drop 1) := by
      cases hl : (xs.map ae).toList with
      | nil =>
        have h0 : (xs.map ae).toList.length = 0 := by rw [hl]; rfl
        rw [Array.length_toList] at h0
        rw [List.length_cons] at hlen
        omega
      | cons u r =>
        have hu := hrel 0 _ u rfl (by rw [← Array.getElem?_toList, hl]; rfl)
        rw [pv_int hu]; rfl
    obtain ⟨u, q1, q2⟩ := minmax_sound (P := P) hT hH hev hc true k l ((xs.map ae).toList.drop 1) a v h1 (by simp at hlen ⊢; omega) (fun j p u hp hu => hrel (j + 1) p u (by simpa using hp) (by rw [List.getElem?_drop, Nat.add_comm, Array.getElem?_toList] at hu; exact hu))
    refine Leaves.quiet hH ⟨u, ?_, q2⟩
    simp only [Builtin.max_]
    rw [hxs]
    exact q1
  · rename_i k a l hx
    obtain ⟨h1, h2, h3⟩ := pureR_some h
    subst h2; subst h3
    rw [hx] at hlen hrel
    have hxs : (xs.map ae).toList = .int k a :: ((xs.map ae).toList.drop 1) := by
      cases hl : (xs.map ae).toList with
      | nil =>
        have h0 : (xs.map ae).toList.length = 0 := by rw [hl]; rfl
        rw [Array.length_toList] at h0
        rw [List.length_cons] at hlen
        omega
      | cons u r =>
        have hu := hrel 0 _ u rfl (by rw [← Array.getElem?_toList, hl]; rfl)
        rw [pv_int hu]; rfl
    obtain ⟨u, q1, q2⟩ := minmax_sound (P := P) hT hH hev hc false k l ((xs.map ae).toList.drop 1) a v h1 (by simp at hlen ⊢; omega) (fun j p u hp hu => hrel (j + 1) p u (by simpa using hp) (by rw [List.getElem?_drop, Nat.add_comm, Array.getElem?_toList] at hu; exact hu))
    refine Leaves.quiet hH ⟨u, ?_, q2⟩
    simp only [Builtin.min_]
    rw [hxs]
    exact q1
  · cases h
end
end Go.Ab

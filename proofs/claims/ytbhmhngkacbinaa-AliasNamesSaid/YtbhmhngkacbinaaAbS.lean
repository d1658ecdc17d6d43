/- The interpreter's calls against the model's. Conditions: the tables of types and of functions. -/
import Derived.Test.YtbhmhngkacbinaaAbR
namespace Go.Ab
open Go.RowKit
set_option autoImplicit false
set_option linter.unusedSimpArgs false

/-- The table of functions fits the program. -/
structure FnsOk (P : Program) (fns : Fns) : Prop where
  code : ∀ (f : Nat) (F : Func) (m : Mode), fns f = some (.code F m) → P.funcs[f]? = some F ∧ (F.name == "runtime.NumGoroutine") = false ∧ F.body.isNone = false
  ext : ∀ (f : Nat) (g : List PV → Option PV), fns f = some (.ext g) → ∀ (xs : List PV) (x : PV), g xs = some x → ∀ (w : World) (O : Nat → Prop) (us : Array Value), xs.length = us.size → (∀ (j : Nat) (p : PV) (u : Value), xs[j]? = some p → us[j]? = some u → PR w O p u) → ∃ u, (callFunc f us).run P w = .ok (.value u) w ∧ PR w O x u
def Args (w : World) (O : Nat → Prop) (ι : List Loc) (vs : List V) (us : Array Value) : Prop := vs.length = us.size ∧ ∀ (j : Nat) (p : V) (u : Value), vs[j]? = some p → us[j]? = some u → VR w O ι p u
def Post (w : World) (X : Nat → Prop) (ι : List Loc) (H : Heap) (v : V) (H' : Heap) (lg : Lg) (e : Ending) (w' : World) : Prop := ∃ u ι', e = .returned u ∧ HR w' X ι' H' ∧ VR w' (OX X ι' H') ι' v u ∧ Fr w ι H lg.mv w' ι' H'
def RunOk (P : Program) (run : Run) : Prop := ∀ f args H v H' lg, run f args H = some (v, H', lg) → ∀ w X ι us, HR w X ι H → Args w (OX X ι H) ι args us → Calls P f us w (Post w X ι H v H' lg)

theorem HR.grown {w w' : World} {X : Nat → Prop} {ι : List Loc} {H : Heap} (h : HR w X ι H) (hz : w.heap.size ≤ w'.heap.size) (hb : ∀ b, b < w.heap.size → w'.heap[b]? = w.heap[b]?) (ho : w'.os = w.os) (ht : w'.tape = w.tape) (hu : w'.output = w.output) : HR w' X ι H ∧ Fr w ι H [] w' ι H := by
  have hs : Same w (Own ι H) w' (Own ι H) := ⟨fun b hb' _ => hb b hb', hz, fun b hb => .inl hb⟩
  refine ⟨⟨h.len, fun id l B h1 h2 => (h.blk id l B h1 h2).keep (hs.withX X) (fun hv b o hp => hb b (own_lt h ⟨id, l, B, o, h1, h2, hv, hp⟩)) (fun _ _ => rfl), h.one, fun b hx => Nat.lt_of_lt_of_le (h.xlt b hx) hz, h.xo⟩, ⟨hs, ho, ht, hu, Nat.le_refl _, fun _ _ _ => rfl⟩⟩
theorem plain_any {w w' : World} {O O' : Nat → Prop} {x : PV} {u : Value} (h : PR w O x u) (hp : x.plain = true) : PR w' O' x u := by
  cases h <;> simp [PV.plain] at hp
  · exact .bool _
  · exact .int _ _
  · exact .flt _ _
  · exact .str _
theorem plainDeep_any {w w' : World} {O O' : Nat → Prop} {x : PV} {u : Value} (h : PR w O x u) (hp : x.plainDeep = true) : PR w' O' x u := by
  cases h with
  | agg n cs us hn hu hs hc h =>
    simp only [PV.plainDeep, List.all_eq_true] at hp
    exact .agg n cs us hn hu hs hc (fun i c u hi hui => plain_any (h i c u hi hui) (hp c (List.mem_of_getElem? hi)))
  | bool b => exact .bool b
  | int k n => exact .int k n
  | flt k b => exact .flt k b
  | str s => exact .str s
  | _ => simp [PV.plainDeep, PV.plain] at hp
theorem plainV_any {w w' : World} {O O' : Nat → Prop} {ι ι' : List Loc} {v : V} {u : Value} (h : VR w O ι v u) (hp : plainV v = true) : VR w' O' ι' v u := by
  cases h with
  | p x u h => exact .p _ _ (plainDeep_any h hp)
  | tup vs us hn h =>
    simp only [plainV, List.all_eq_true] at hp
    refine .tup vs us hn (fun i c u hi hui => ?_)
    have hc := hp c (List.mem_of_getElem? hi)
    have hv := h i c u hi hui
    cases hv with
    | p x u hx => exact .p _ _ (plainDeep_any hx hc)
    | _ => simp at hc
  | _ => simp [plainV] at hp
section
variable {w : World} {X : Nat → Prop} {ι : List Loc} {H : Heap} (hH : HR w X ι H) {S O' : Nat → Prop} (hS : Fz ι H S O') (hO : ∀ b, O' b → OX X ι H b)
include hH hS hO
theorem fzAll_sound {vs : List V} {xs : List PV} {us : Array Value} (h : fzAll H vs = some xs) (ha : Args w (OX X ι H) ι vs us) (hs : ∀ id ∈ V.refs.refsL vs, S id) : xs.length = us.size ∧ ∀ (j : Nat) (p : PV) (u : Value), xs[j]? = some p → us[j]? = some u → PR w O' p u := by
  obtain ⟨h1, h2⟩ := fzL_get h
  refine ⟨h1.trans ha.1, fun j p u hp hu => ?_⟩
  have hj : j < vs.length := by have := (List.getElem?_eq_some_iff.1 hp).1; omega
  have hv := List.getElem?_eq_getElem hj
  exact fzV_sound hH hS hO fuelZ fuelZ (Nat.le_refl _) _ p u (h2 j _ p hv hp) (ha.2 j _ u hv hu) (fun id hid => hs id (mem_refsL hv hid))
theorem fzRes_sound {v r : V} {u : Value} (h : fzRes H v = some r) (hv : VR w (OX X ι H) ι v u) (hs : ∀ id ∈ v.refs, S id) {ι' : List Loc} : VR w O' ι' r u := by
  unfold fzRes at h
  split at h
  · simp only [Option.map_eq_some_iff] at h
    obtain ⟨l, hl, rfl⟩ := h
    cases hv with
    | tup vs us hn hr =>
      obtain ⟨h1, h2⟩ := fzAll_sound hH hS hO hl ⟨hn, hr⟩ hs
      refine .tup _ us (by simp [h1]) (fun i c u hi hui => ?_)
      simp only [List.getElem?_map, Option.map_eq_some_iff] at hi
      obtain ⟨d, hd, rfl⟩ := hi
      exact .p _ _ (h2 i d u hd hui)
  · simp only [Option.map_eq_some_iff] at h
    obtain ⟨x, hx, rfl⟩ := h
    exact .p _ _ (fzV_sound hH hS hO fuelZ fuelZ (Nat.le_refl _) _ x u hx hv hs)
end
theorem pure_args {w : World} {O : Nat → Prop} {xs : List PV} {us : Array Value} (h : xs.length = us.size ∧ ∀ (j : Nat) (p : PV) (u : Value), xs[j]? = some p → us[j]? = some u → PR w O p u) (ι : List Loc) : Args w O ι (xs.map V.p) us := by
  refine ⟨by simp [h.1], fun j p u hp hu => ?_⟩
  simp only [List.getElem?_map, Option.map_eq_some_iff] at hp
  obtain ⟨d, hd, rfl⟩ := hp
  exact .p _ _ (h.2 j d u hd hu)
section
variable {P : Program} {E : Env} (hF : FnsOk P E.fns) {run : Run} (hR : RunOk P run) {w : World} {X : Nat → Prop} {ι : List Loc} {H : Heap} (hH : HR w X ι H)
include hF hR hH
theorem acallGo_sound {id : FuncId} {args : List V} {us : Array Value} {v : V} {H' : Heap} {lg : Lg} (ha : Args w (OX X ι H) ι args us) (h : acallF.go E run H id args = some (v, H', lg)) :
    (∃ u, (callFunc id us).run P w = .ok (.value u) w ∧ HR w X ι H' ∧ VR w (OX X ι H') ι v u ∧ Fr w ι H lg.mv w ι H') ∨ ((callFunc id us).run P w = .ok (.enter id us) w ∧ Calls P id us w (Post w X ι H v H' lg)) := by
  unfold acallF.go at h
  have enter : ∀ F m, E.fns id = some (.code F m) → (callFunc id us).run P w = .ok (.enter id us) w := by
    intro F m hf
    obtain ⟨h1, h2, h3⟩ := hF.code id F m hf
    simp only [callFunc, Sem.run_bind, run_program, Result.andThen_ok, h1, h2, h3, Bool.false_eq_true, if_false, Sem.run_pure]
  split at h
  · rename_i g hf
    split at h
    · rename_i xs hxs
      split at h
      · rename_i x hx
        simp only [Option.some.injEq, Prod.mk.injEq] at h
        obtain ⟨rfl, rfl, rfl⟩ := h
        have e := allPure_map hxs
        obtain ⟨u, h1, h2⟩ := hF.ext id g hf xs x hx w (OX X ι H) us (by rw [← ha.1, e]; simp) (fun j p u hp hu => by
          have := ha.2 j (.p p) u (by rw [e]; simp [hp]) hu
          cases this with | p _ _ this => exact this)
        exact .inl ⟨u, h1, hH, .p _ _ h2, Fr.refl _ _ _⟩
      · cases h
    · cases h
  · rename_i F hf
    exact .inr ⟨enter F _ hf, hR id args H v H' lg h w X ι us hH ha⟩
  · rename_i F hf
    split at h
    · rename_i xs hxs
      split at h
      · rename_i v2 H2 lg2 hrun
        split at h
        · rename_i r hr
          split at h
          · rename_i hpl
            simp only [Option.some.injEq, Prod.mk.injEq] at h
            obtain ⟨rfl, rfl, rfl⟩ := h
            have h0 := HR.nil w (fun _ => False) (fun _ h => h.elim)
            have hfz : Fz ι H (fun _ => True) (OX (fun _ => False) [] []) := ⟨fun _ _ _ _ _ _ => trivial, fun _ _ b _ _ _ _ _ _ hb => hb.elim (own_nil b) (fun h => h)⟩
            have hargs := pure_args (fzAll_sound hH hfz (fun b hb => (hb.elim (own_nil b) (fun h => h)).elim) hxs ha (fun _ _ => trivial)) []
            refine .inr ⟨enter F _ hf, (hR id _ [] v2 H2 lg2 hrun w _ [] us h0 hargs).mono ?_⟩
            rintro e w' ⟨u, ι2, rfl, g1, g2, g3⟩
            have hfz2 : Fz ι2 H2 (fun _ => True) (fun _ => False) := ⟨fun _ _ _ _ _ _ => trivial, fun _ _ b _ _ _ _ _ _ hb => hb⟩
            have g4 := fzRes_sound g1 hfz2 (fun b hb => hb.elim) hr g2 (fun _ _ => trivial) (ι' := ι2)
            obtain ⟨q1, q2⟩ := hH.grown g3.same.size (fun b hb => g3.same.block b hb (own_nil b)) g3.os g3.tape g3.output
            exact ⟨u, ι, rfl, q1, plainV_any g4 hpl, q2⟩
          · cases h
        · cases h
      · cases h
    · cases h
  · rename_i F hf
    split at h
    · rename_i xs H1 hxs hfz1
      split at hxs
      · rename_i hcl
        simp only [Bool.and_eq_true] at hcl
        split at h
        · rename_i v2 H2 lg2 hrun
          split at h
          · rename_i r hr
            simp only [Option.some.injEq, Prod.mk.injEq] at h
            obtain ⟨rfl, rfl, rfl⟩ := h
            obtain ⟨f1, f2⟩ := hH.freeze hcl.2 hfz1
            have hfz := Fz.of hH hcl.2 hfz1
            have hsub : ∀ b, OX X ι H1 b → OX X ι H b := by
              rintro b (hb | hb)
              · refine .inl ((f2.same.own b hb).elim (fun h => h) (fun hge => ?_))
                have := own_lt f1 hb
                omega
              · exact .inr hb
            have hpa := fzAll_sound hH hfz hsub hxs ha (inAll_iff hcl.1)
            have h0 := HR.nil w (OX X ι H1) (fun b hb => hb.elim (own_lt f1) (f1.xlt b))
            have hargs : Args w (OX (OX X ι H1) [] []) [] (xs.map V.p) us := by
              refine pure_args ⟨hpa.1, fun j p u hp hu => (hpa.2 j p u hp hu).keep (Same.shrink (fun b hb => hb.elim (fun h => (own_nil b h).elim) (fun h => h)))⟩ []
            refine .inr ⟨enter F _ hf, (hR id _ [] v2 H2 lg2 hrun w _ [] us h0 hargs).mono ?_⟩
            rintro e w' ⟨u, ι2, rfl, g1, g2, g3⟩
            have hfz2 : Fz ι2 H2 (fun _ => True) (OX X ι H1) := ⟨fun _ _ _ _ _ _ => trivial, fun j l b o _ hl hp _ hlv => by
              obtain ⟨B, hB, hv⟩ := hlv
              exact g1.xo b ⟨j, l, B, o, hl, hB, hv, hp⟩⟩
            have g4 := fzRes_sound g1 hfz2 (fun b hb => .inr hb) hr g2 (fun _ _ => trivial) (ι' := ι)
            obtain ⟨q1, q2⟩ := f1.grown g3.same.size (fun b hb => g3.same.block b hb (own_nil b)) g3.os g3.tape g3.output
            exact ⟨u, ι, rfl, q1, g4, f2.trans q2 (by simp)⟩
          · cases h
        · cases h
      · cases hxs
    · cases h
  · cases h
end
end Go.Ab

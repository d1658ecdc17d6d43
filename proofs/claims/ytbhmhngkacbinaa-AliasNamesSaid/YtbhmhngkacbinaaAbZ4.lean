/- Runs that are known, with an answer of its own. No conditions. -/
import Derived.Test.YtbhmhngkacbinaaAbZ3
namespace Go.Ab
open Go.RowKit
set_option autoImplicit false
set_option linter.unusedSimpArgs false

/-- A block out of another heap. -/
theorem HR.adopt {w w' : World} {X : Nat → Prop} {ι : List Loc} {H : Heap} (h : HR w X ι H) {ι' : List Loc} {H' : Heap} (g : HR w' (OX X ι H) ι' H') (hsz : w.heap.size ≤ w'.heap.size) (hb : ∀ b, b < w.heap.size → w'.heap[b]? = w.heap[b]?) (hos : w'.os = w.os) (ht : w'.tape = w.tape) (hu : w'.output = w.output)
    (hnew : ∀ b, Own ι' H' b → w.heap.size ≤ b) {id : Nat} {l : Loc} {B : Blk} (h1 : ι'[id]? = some l) (h2 : H'[id]? = some B) (hr : B.refs = []) :
    HR w' X (ι ++ [l]) (H ++ [B]) ∧ Fr w ι H [] w' (ι ++ [l]) (H ++ [B]) := by
  have own : ∀ b, Own (ι ++ [l]) (H ++ [B]) b → Own ι H b ∨ Own ι' H' b := by
    rintro b ⟨j, l', B', q, k1, k2, k3, k4⟩
    rcases get_snoc k1 with k1 | ⟨k1, rfl⟩
    · rcases get_snoc k2 with k2 | ⟨k2, rfl⟩
      · exact .inl ⟨j, l', B', q, k1, k2, k3, k4⟩
      · have := (List.getElem?_eq_some_iff.1 k1).1
        have := h.len
        omega
    · rcases get_snoc k2 with k2 | ⟨k2, rfl⟩
      · have := (List.getElem?_eq_some_iff.1 k2).1
        have := h.len
        omega
      · exact .inr ⟨id, l', B', q, h1, h2, k3, k4⟩
  have hs : Same w (Own ι H) w' (Own (ι ++ [l]) (H ++ [B])) := ⟨fun b hb' _ => hb b hb', hsz, fun b hb' => (own b hb').imp (fun h => h) (hnew b)⟩
  refine ⟨⟨by simp [h.len], ?_, ?_, fun b hb' => Nat.lt_of_lt_of_le (h.xlt b hb') hsz, fun b hb' hx => (own b hb').elim (fun h1 => h.xo b h1 hx) (fun h1 => by have := h.xlt b hx; have := hnew b h1; omega)⟩, ⟨hs, hos, ht, hu, by simp, fun j hj _ => by rw [List.getElem?_append_left hj]⟩⟩
  · intro j l' B' k1 k2
    rcases get_snoc k1 with k1 | ⟨k1, rfl⟩
    · rcases get_snoc k2 with k2 | ⟨k2, rfl⟩
      · have hbr := h.blk j l' B' k1 k2
        exact hbr.keep (hs.withX X) (fun hlv b q hq => hb b (own_lt h ⟨j, l', B', q, k1, k2, hlv, hq⟩)) (fun i hi => by rw [List.getElem?_append_left (hbr.refs_lt i hi)])
      · have := (List.getElem?_eq_some_iff.1 k1).1
        have := h.len
        omega
    · rcases get_snoc k2 with k2 | ⟨k2, rfl⟩
      · have := (List.getElem?_eq_some_iff.1 k2).1
        have := h.len
        omega
      · refine (g.blk id l' B' h1 h2).keep (Same.shrink (fun b hb' => ?_)) (fun _ _ _ _ => rfl) (fun i hi => by rw [hr] at hi; simp at hi)
        rcases hb' with hb' | hb'
        · rcases own b hb' with hb' | hb'
          · exact .inr (.inl hb')
          · exact .inl hb'
        · exact .inr (.inr hb')
  · intro j j' l1 l2 B1 B2 b o1 o2 e1 e2 e3 e4 e5 e6 e7 e8
    have hlen := h.len
    have a1 := (List.getElem?_eq_some_iff.1 e1).1
    have a2 := (List.getElem?_eq_some_iff.1 e2).1
    simp only [List.length_append, List.length_singleton] at a1 a2
    rcases Nat.lt_or_ge j ι.length with a | a
    · rw [List.getElem?_append_left a] at e1
      rw [List.getElem?_append_left (by omega)] at e3
      rcases Nat.lt_or_ge j' ι.length with a' | a'
      · rw [List.getElem?_append_left a'] at e2
        rw [List.getElem?_append_left (by omega)] at e4
        exact h.one j j' l1 l2 B1 B2 b o1 o2 e1 e2 e3 e4 e5 e6 e7 e8
      · obtain rfl : j' = ι.length := by omega
        simp at e2
        rw [hlen] at e4
        simp at e4
        subst e2; subst e4
        have q1 := own_lt h ⟨j, l1, B1, o1, e1, e3, e5, e7⟩
        have q2 := hnew b ⟨id, l, B, o2, h1, h2, e6, e8⟩
        omega
    · rcases Nat.lt_or_ge j' ι.length with a' | a'
      · rw [List.getElem?_append_left a'] at e2
        rw [List.getElem?_append_left (by omega)] at e4
        obtain rfl : j = ι.length := by omega
        simp at e1
        rw [hlen] at e3
        simp at e3
        subst e1; subst e3
        have q1 := own_lt h ⟨j', l2, B2, o2, e2, e4, e6, e8⟩
        have q2 := hnew b ⟨id, l, B, o1, h1, h2, e5, e7⟩
        omega
      · omega
/-- What is known of a function without arguments: its answer, frozen; or a list that nobody else has. -/
inductive Kn where
  | z (v : V)
  | fresh (k : EK) (xs : List PV)
def freshOf : R1 → Option Blk
  | some (.ls id, H', _) => H'[id]?
  | _ => none
def isFresh (k : EK) (xs : List PV) (r : R1) : Prop := freshOf r = some (.pu k xs)
def Kn.ok (run : Run) (f : Nat) : Kn → Prop
  | .z v => runZ run f [] [] = some (v, [], lg0)
  | .fresh k xs => isFresh k xs (run f [] [])
theorem Kn.ok_fresh {run : Run} {f : Nat} {k : EK} {xs : List PV} (h : freshOf (run f [] []) = some (.pu k xs)) : (Kn.fresh k xs).ok run f := h
theorem Kn.ok_z {run : Run} {f : Nat} {v : V} (h : runZ run f [] [] = some (v, [], lg0)) : (Kn.z v).ok run f := h
theorem kn_cons {run : Run} {f : Nat} {k : Kn} {l : List (Nat × Kn)} (h : k.ok run f) (hl : ∀ g j, (g, j) ∈ l → Kn.ok run g j) : ∀ g j, (g, j) ∈ (f, k) :: l → Kn.ok run g j := by
  intro g j hm
  rcases List.mem_cons.1 hm with e | hm
  · simp only [Prod.mk.injEq] at e
    obtain ⟨rfl, rfl⟩ := e
    exact h
  · exact hl g j hm
theorem kn_nil {run : Run} : ∀ g j, (g, j) ∈ ([] : List (Nat × Kn)) → Kn.ok run g j := by
  intro g j hm
  simp at hm
def runKn (tab : List (Nat × Kn)) : Run := fun f args H =>
  match args with
  | [] => go f H tab
  | _ => none
where go (f : Nat) (H : Heap) : List (Nat × Kn) → R1
  | [] => none
  | (g, k) :: r => if f = g then (match k with
    | .z v => match H with | [] => some (v, [], lg0) | _ => none
    | .fresh k xs => some (.ls H.length, H ++ [.pu k xs], lg0)) else go f H r
theorem runKn_ok {P : Program} {run : Run} (hR : RunOk P run) {tab : List (Nat × Kn)} (ht : ∀ f k, (f, k) ∈ tab → k.ok run f) : RunOk P (runKn tab) ∧ RunLog (runKn tab) := by
  have key : ∀ f H r (l : List (Nat × Kn)), runKn.go f H l = some r → ∃ k, (f, k) ∈ l ∧ runKn.go f H [(f, k)] = some r := by
    intro f H r l
    induction l with
    | nil => intro h; simp [runKn.go] at h
    | cons x l ih =>
      obtain ⟨g, k⟩ := x
      intro hg
      by_cases e : f = g
      · subst e
        refine ⟨k, List.mem_cons_self .., ?_⟩
        simp only [runKn.go, if_pos] at hg ⊢
        exact hg
      · simp only [runKn.go, if_neg e] at hg
        obtain ⟨k', h1, h2⟩ := ih hg
        exact ⟨k', List.mem_cons_of_mem _ h1, h2⟩
  have one : ∀ f args H r, runKn tab f args H = some r → args = [] ∧ ((∃ v, H = [] ∧ runZ run f [] [] = some (v, [], lg0) ∧ r = (v, [], lg0)) ∨ ∃ k xs, isFresh k xs (run f [] []) ∧ r = (.ls H.length, H ++ [.pu k xs], lg0)) := by
    intro f args H r hr
    unfold runKn at hr
    split at hr
    · refine ⟨rfl, ?_⟩
      obtain ⟨k, h1, h2⟩ := key f H r tab hr
      have hk := ht f k h1
      simp only [runKn.go, if_pos] at h2
      cases k with
      | z v =>
        simp only at h2
        split at h2
        · cases h2; exact .inl ⟨v, rfl, hk, rfl⟩
        · cases h2
      | fresh k xs =>
        simp only at h2
        cases h2
        exact .inr ⟨k, xs, hk, rfl⟩
    · cases hr
  refine ⟨fun f args H v H' lg hr w X ι us hH ha => ?_, fun f args H v H' lg hr => ?_⟩
  · obtain ⟨rfl, h1 | h1⟩ := one f args H _ hr
    · obtain ⟨v', rfl, h2, h3⟩ := h1
      simp only [Prod.mk.injEq] at h3
      obtain ⟨rfl, rfl, rfl⟩ := h3
      exact runZ_ok hR f [] [] _ [] lg0 h2 w X ι us hH ha
    · obtain ⟨k, xs, h2, h3⟩ := h1
      simp only [Prod.mk.injEq] at h3
      obtain ⟨rfl, rfl, rfl⟩ := h3
      unfold isFresh freshOf at h2
      split at h2
      · rename_i id H2 lg2 hrun
        have hus : us = #[] := by have := ha.1; simpa using this.symm
        subst hus
        have h0 := HR.nil w (OX X ι H) (fun b hb => hb.elim (own_lt hH) (hH.xlt b))
        refine (hR f [] [] _ H2 lg2 hrun w (OX X ι H) [] #[] h0 ⟨rfl, by simp⟩).mono ?_
        rintro e w' ⟨u, ι2, rfl, g1, g2, g3⟩
        have hid : id < ι2.length := by have := g1.len; have := (List.getElem?_eq_some_iff.1 h2).1; omega
        have hl := List.getElem?_eq_getElem hid
        obtain ⟨a1, a2⟩ := hH.adopt g1 g3.same.size (fun b hb => g3.same.block b hb (own_nil b)) g3.os g3.tape g3.output (fun b hb => (g3.same.own b hb).elim (fun h => (own_nil b h).elim) (fun h => h)) hl h2 rfl
        refine ⟨u, _, rfl, a1, ?_, a2⟩
        have hl2 : (ι ++ [ι2[id]])[H.length]? = some ι2[id] := by rw [← hH.len]; simp
        cases g2 with
        | ls _ l b o cap hl' hp q1 q2 =>
          rw [hl] at hl'; cases hl'
          exact .ls _ _ b o cap hl2 hp q1 q2
        | lsNil _ l a hl' hp q1 =>
          rw [hl] at hl'; cases hl'
          exact .lsNil _ _ a hl2 hp q1
      · cases h2
  · obtain ⟨rfl, h1 | h1⟩ := one f args H _ hr
    · obtain ⟨v', rfl, h2, h3⟩ := h1
      simp only [Prod.mk.injEq] at h3
      obtain ⟨rfl, rfl, rfl⟩ := h3
      exact LogOk.refl _ _
    · obtain ⟨k, xs, h2, h3⟩ := h1
      simp only [Prod.mk.injEq] at h3
      obtain ⟨rfl, rfl, rfl⟩ := h3
      exact LogOk.push _ _ _
end Go.Ab

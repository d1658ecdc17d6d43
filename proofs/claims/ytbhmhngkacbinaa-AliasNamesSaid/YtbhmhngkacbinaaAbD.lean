/- The heap of numbered blocks: a block written, frozen, moved; a part of the heap. No conditions. -/
import Derived.Test.YtbhmhngkacbinaaAbC
namespace Go.Ab
open Go.RowKit
set_option autoImplicit false
set_option linter.unusedSimpArgs false

theorem get_set {α : Type} {l : List α} {i j : Nat} {a x : α} (h : (l.set i a)[j]? = some x) : (j ≠ i ∧ l[j]? = some x) ∨ (j = i ∧ x = a ∧ i < l.length) := by
  rw [List.getElem?_set] at h
  split at h
  · rename_i e
    split at h
    · cases h; exact .inr ⟨e.symm, rfl, by assumption⟩
    · cases h
  · exact .inl ⟨by omega, h⟩
/-- One block written. -/
theorem HR.write {w w' : World} {X : Nat → Prop} {ι : List Loc} {H : Heap} (h : HR w X ι H) {id : Nat} {l : Loc} {B B' : Blk} {b o : Nat} (h1 : ι[id]? = some l) (h2 : H[id]? = some B) (h3 : B.live = true) (h4 : l.pl = some (b, o)) (h5 : B'.live = true)
    (hz : w'.heap.size = w.heap.size) (hb : ∀ c, c ≠ b → w'.heap[c]? = w.heap[c]?) (ho : w'.os = w.os) (ht : w'.tape = w.tape) (hu : w'.output = w.output)
    (hB : Same w (Own ι H) w' (Own ι (H.set id B')) → BR w' (OX X ι (H.set id B')) ι l B') : HR w' X ι (H.set id B') ∧ Fr w ι H [] w' ι (H.set id B') := by
  have own : ∀ c, Own ι (H.set id B') c → Own ι H c := by
    rintro c ⟨j, l', C, q, g1, g2, g3, g4⟩
    rcases get_set g2 with ⟨_, g2⟩ | ⟨rfl, rfl, _⟩
    · exact ⟨j, l', C, q, g1, g2, g3, g4⟩
    · exact ⟨j, l', B, q, g1, h2, h3, g4⟩
  have hs : Same w (Own ι H) w' (Own ι (H.set id B')) := ⟨fun c _ hc => hb c (fun e => hc (e ▸ ⟨id, l, B, o, h1, h2, h3, h4⟩)), by omega, fun c hc => .inl (own c hc)⟩
  refine ⟨⟨by simp [h.len], ?_, ?_, fun b hb => Nat.lt_of_lt_of_le (h.xlt b hb) hs.size, fun b hb hx => h.xo b (own b hb) hx⟩, ⟨hs, ho, ht, hu, Nat.le_refl _, fun _ _ _ => rfl⟩⟩
  · intro j l' C g1 g2
    rcases get_set g2 with ⟨hj, g2⟩ | ⟨rfl, rfl, _⟩
    · exact (h.blk j l' C g1 g2).keep (hs.withX X) (fun hlv c q hq => hb c (fun e => hj (h.one j id l' l C B b q o g1 h1 g2 h2 hlv h3 (e ▸ hq) h4))) (fun _ _ => rfl)
    · rw [h1] at g1; cases g1; exact hB hs
  · intro j j' l1 l2 B1 B2 c o1 o2 g1 g2 g3 g4 g5 g6 g7 g8
    have k1 : ∃ C, H[j]? = some C ∧ C.live = true := by
      rcases get_set g3 with ⟨_, g3⟩ | ⟨rfl, rfl, _⟩
      · exact ⟨_, g3, g5⟩
      · exact ⟨_, h2, h3⟩
    have k2 : ∃ C, H[j']? = some C ∧ C.live = true := by
      rcases get_set g4 with ⟨_, g4⟩ | ⟨rfl, rfl, _⟩
      · exact ⟨_, g4, g6⟩
      · exact ⟨_, h2, h3⟩
    obtain ⟨C1, q1, r1⟩ := k1
    obtain ⟨C2, q2, r2⟩ := k2
    exact h.one j j' l1 l2 C1 C2 c o1 o2 g1 g2 q1 q2 r1 r2 g7 g8

/-- Blocks of which less is said. -/
theorem HR.less {w : World} {X : Nat → Prop} {ι : List Loc} {H H' : Heap} (h : HR w X ι H) (hl : H'.length = H.length) (hv : ∀ (id : Nat) (B' : Blk), H'[id]? = some B' → B'.live = true → ∃ B, H[id]? = some B ∧ B.live = true)
    (hb : Same w (Own ι H) w (Own ι H') → ∀ (id : Nat) (l : Loc) (B' : Blk), ι[id]? = some l → H'[id]? = some B' → BR w (OX X ι H') ι l B') : HR w X ι H' ∧ Fr w ι H [] w ι H' := by
  have hs : Same w (Own ι H) w (Own ι H') := ⟨fun _ _ _ => rfl, Nat.le_refl _, by
    rintro b ⟨id, l, B', o, h1, h2, h3, h4⟩
    obtain ⟨B, h5, h6⟩ := hv id B' h2 h3
    exact .inl ⟨id, l, B, o, h1, h5, h6, h4⟩⟩
  refine ⟨⟨by rw [hl]; exact h.len, hb hs, ?_, h.xlt, fun b hb hx => (hs.own b hb).elim (fun h1 => h.xo b h1 hx) (fun h1 => by have := h.xlt b hx; omega)⟩, ⟨hs, rfl, rfl, rfl, Nat.le_refl _, fun _ _ _ => rfl⟩⟩
  intro j j' l1 l2 B1 B2 c o1 o2 g1 g2 g3 g4 g5 g6 g7 g8
  obtain ⟨C1, q1, r1⟩ := hv j B1 g3 g5
  obtain ⟨C2, q2, r2⟩ := hv j' B2 g4 g6
  exact h.one j j' l1 l2 C1 C2 c o1 o2 g1 g2 q1 q2 r1 r2 g7 g8

theorem restr_get (ids : List Nat) : ∀ (H : Heap) (n i : Nat), (restr ids n H)[i]? = (H[i]?).map fun b => if mem (n + i) ids then b else .dead
  | [], n, i => by simp [restr]
  | b :: r, n, 0 => by simp [restr]
  | b :: r, n, i + 1 => by
    simp only [restr, List.getElem?_cons_succ]
    rw [restr_get ids r (n + 1) i, show n + 1 + i = n + (i + 1) from by omega]
theorem restr_len (ids : List Nat) : ∀ (H : Heap) (n : Nat), (restr ids n H).length = H.length
  | [], _ => rfl
  | b :: r, n => by simp [restr, restr_len ids r (n + 1)]
theorem HR.restr {w : World} {X : Nat → Prop} {ι : List Loc} {H : Heap} (h : HR w X ι H) (ids : List Nat) : HR w X ι (restr ids 0 H) ∧ Fr w ι H [] w ι (restr ids 0 H) := by
  refine h.less (restr_len ids H 0) ?_ ?_
  · intro id B' h1 h2
    rw [restr_get] at h1
    cases hb : H[id]? with
    | none => simp [hb] at h1
    | some B =>
      simp only [hb, Option.map_some, Option.some.injEq] at h1
      split at h1
      · subst h1; exact ⟨B, rfl, h2⟩
      · subst h1; simp [Blk.live] at h2
  · intro hs id l B' h1 h2
    rw [restr_get] at h2
    cases hb : H[id]? with
    | none => simp [hb] at h2
    | some B =>
      simp only [hb, Option.map_some, Option.some.injEq] at h2
      split at h2
      · subst h2; exact (h.blk id l B h1 hb).keep (hs.withX X) (fun _ _ _ _ => rfl) (fun _ _ => rfl)
      · subst h2; trivial
theorem own_nil (b : Nat) : ¬ Own [] [] b := by rintro ⟨id, l, B, o, h1, _⟩; simp at h1
theorem HR.nil (w : World) (X : Nat → Prop) (hx : ∀ b, X b → b < w.heap.size) : HR w X [] [] := ⟨rfl, by simp, by simp, hx, fun b hb => (own_nil b hb).elim⟩

/-- Only the first numbers. -/
theorem HR.take {w : World} {X : Nat → Prop} {ι : List Loc} {H : Heap} (h : HR w X ι H) (m : Nat) (hm : ∀ (id : Nat) (B : Blk), id < m → H[id]? = some B → ∀ j ∈ B.refs, j < m) : HR w X (ι.take m) (H.take m) ∧ Same w (Own ι H) w (Own (ι.take m) (H.take m)) := by
  have get : ∀ {α : Type} {l : List α} {i : Nat} {x : α}, (l.take m)[i]? = some x → i < m ∧ l[i]? = some x := by
    intro α l i x h
    rw [List.getElem?_take] at h
    split at h
    · exact ⟨by assumption, h⟩
    · cases h
  have hs : Same w (Own ι H) w (Own (ι.take m) (H.take m)) := ⟨fun _ _ _ => rfl, Nat.le_refl _, by
    rintro b ⟨id, l, B, o, h1, h2, h3, h4⟩
    exact .inl ⟨id, l, B, o, (get h1).2, (get h2).2, h3, h4⟩⟩
  refine ⟨⟨by simp [h.len], ?_, ?_, h.xlt, fun b hb hx => (hs.own b hb).elim (fun h1 => h.xo b h1 hx) (fun h1 => by have := h.xlt b hx; omega)⟩, hs⟩
  · intro id l B h1 h2
    obtain ⟨hi, h1⟩ := get h1
    obtain ⟨_, h2⟩ := get h2
    exact (h.blk id l B h1 h2).keep (hs.withX X) (fun _ _ _ _ => rfl) (fun j hj => by rw [List.getElem?_take, if_pos (hm id B hi h2 j hj)])
  · intro j j' l1 l2 B1 B2 c o1 o2 g1 g2 g3 g4 g5 g6 g7 g8
    exact h.one j j' l1 l2 B1 B2 c o1 o2 (get g1).2 (get g2).2 (get g3).2 (get g4).2 g5 g6 g7 g8

theorem mem_iff {n : Nat} : ∀ {l : List Nat}, mem n l = true ↔ n ∈ l
  | [] => by simp [mem]
  | m :: r => by simp [mem, mem_iff (l := r)]
theorem invL_get (id : Nat) : ∀ (cs : List V) (i : Nat), (V.inv.invL id cs)[i]? = (cs[i]?).map (V.inv id)
  | [], i => by simp [V.inv.invL]
  | v :: r, 0 => by simp [V.inv.invL]
  | v :: r, i + 1 => by simp [V.inv.invL, invL_get id r i]
theorem invL_len (id : Nat) : ∀ (cs : List V), (V.inv.invL id cs).length = cs.length
  | [] => rfl
  | v :: r => by simp [V.inv.invL, invL_len id r]
mutual
theorem refs_inv (id : Nat) : ∀ (x : V) (j : Nat), j ∈ (x.inv id).refs → j ≠ id ∧ j ∈ x.refs
  | .p x, j, h => by simp [V.inv, V.refs] at h
  | .agg n cs, j, h => by simp only [V.inv, V.refs] at h ⊢; exact refs_invL id cs j h
  | .lp i a f, j, h => by
    simp only [V.inv] at h
    split at h
    · simp [V.refs] at h
    · rename_i e; simp [V.refs] at h ⊢; subst h; exact ⟨by simpa using e, rfl⟩
  | .ls i, j, h => by
    simp only [V.inv] at h
    split at h
    · simp [V.refs] at h
    · rename_i e; simp [V.refs] at h ⊢; subst h; exact ⟨by simpa using e, rfl⟩
  | .lsub i a f, j, h => by
    simp only [V.inv] at h
    split at h
    · simp [V.refs] at h
    · rename_i e; simp [V.refs] at h ⊢; subst h; exact ⟨by simpa using e, rfl⟩
  | .fn f cs, j, h => by
    simp only [V.inv] at h
    split at h
    · simp [V.refs] at h
    · rename_i e
      simp only [V.refs] at h ⊢
      exact ⟨by rintro rfl; exact e (mem_iff.2 h), h⟩
  | .tup cs, j, h => by simp only [V.inv, V.refs] at h ⊢; exact refs_invL id cs j h
  | .lm i, j, h => by
    simp only [V.inv] at h
    split at h
    · simp [V.refs] at h
    · rename_i e; simp [V.refs] at h ⊢; subst h; exact ⟨by simpa using e, rfl⟩
theorem refs_invL (id : Nat) : ∀ (cs : List V) (j : Nat), j ∈ V.refs.refsL (V.inv.invL id cs) → j ≠ id ∧ j ∈ V.refs.refsL cs
  | [], j, h => by simp [V.inv.invL, V.refs.refsL] at h
  | v :: r, j, h => by
    simp only [V.inv.invL, V.refs.refsL, List.mem_append] at h ⊢
    rcases h with h | h
    · exact ⟨(refs_inv id v j h).1, .inl (refs_inv id v j h).2⟩
    · exact ⟨(refs_invL id r j h).1, .inr (refs_invL id r j h).2⟩
end
theorem inv_isAgg (id : Nat) (x : V) (h : x.isAgg = false) : (x.inv id).isAgg = false := by
  cases x <;> simp only [V.inv] <;> (try split) <;> simp_all [V.isAgg, PV.isAgg]
theorem VR.inv {w : World} {O : Nat → Prop} {ι : List Loc} {x : V} {u : Value} (h : VR w O ι x u) (id : Nat) : VR w O ι (x.inv id) u := by
  induction h with
  | p x u h => exact .p x u h
  | agg n cs us hn hu hs hc _ ih =>
    simp only [V.inv]
    refine .agg n _ us (by rw [invL_len]; exact hn) hu ?_ hc ?_
    · intro i c hi
      rw [invL_get] at hi
      cases hc' : cs[i]? with
      | none => simp [hc'] at hi
      | some d => simp [hc'] at hi; subst hi; exact inv_isAgg id d (hs i d hc')
    · intro i c u hi hu'
      rw [invL_get] at hi
      cases hc' : cs[i]? with
      | none => simp [hc'] at hi
      | some d => simp [hc'] at hi; subst hi; exact ih i d u hc' hu'
  | lp j i f l b o hl hp =>
    simp only [V.inv]
    split
    · exact .p _ _ (.undef _)
    · exact .lp j i f l b o hl hp
  | ls j l b o cap hl hp h1 h2 =>
    simp only [V.inv]
    split
    · exact .p _ _ (.undef _)
    · exact .ls j l b o cap hl hp h1 h2
  | lsNil j l a hl hp h1 =>
    simp only [V.inv]
    split
    · exact .p _ _ (.undef _)
    · exact .lsNil j l a hl hp h1
  | lsub j q m l b o cap hl hp h1 h2 =>
    simp only [V.inv]
    split
    · exact .p _ _ (.undef _)
    · exact .lsub j q m l b o cap hl hp h1 h2
  | lsubNil j q l a hl hg =>
    simp only [V.inv]
    split
    · exact .p _ _ (.undef _)
    · exact .lsubNil j q l a hl hg
  | fn f cs us hn h ih =>
    simp only [V.inv]
    split
    · exact .p _ _ (.undef _)
    · exact .fn f cs us hn h
  | tup cs us hn _ ih =>
    simp only [V.inv]
    refine .tup _ us (by rw [invL_len]; exact hn) ?_
    intro i c u hi hu'
    rw [invL_get] at hi
    cases hc' : cs[i]? with
    | none => simp [hc'] at hi
    | some d => simp [hc'] at hi; subst hi; exact ih i d u hc' hu'
  | lm j l r o hl hp =>
    simp only [V.inv]
    split
    · exact .p _ _ (.undef _)
    · exact .lm j l r o hl hp
theorem cells_inv (id : Nat) (x : V) : (x.inv id).cells.length = x.cells.length := by
  cases x <;> simp only [V.inv] <;> (try split) <;> simp_all [V.cells, PV.cells, invL_len]
theorem isAgg_inv (id : Nat) (x : V) : (x.inv id).isAgg = x.isAgg := by
  cases x <;> simp only [V.inv] <;> (try split) <;> simp_all [V.isAgg, PV.isAgg]
theorem invH_get (id : Nat) : ∀ (H : Heap) (i : Nat), (invH id H)[i]? = (H[i]?).map (Blk.inv id)
  | [], i => by simp [invH]
  | v :: r, 0 => by simp [invH]
  | v :: r, i + 1 => by simp [invH, invH_get id r i]
theorem invH_len (id : Nat) : ∀ (H : Heap), (invH id H).length = H.length
  | [] => rfl
  | v :: r => by simp [invH, invH_len id r]
theorem inv_live (id : Nat) (B : Blk) : (B.inv id).live = B.live := by cases B <;> rfl
theorem cells_of_inv {id : Nat} {x : V} {j : Nat} {c : V} (h : (x.inv id).cells[j]? = some c) : ∃ d, x.cells[j]? = some d ∧ (c = d.inv id ∨ c = .p .undef) := by
  have one : ∀ {y : V}, x.cells = [x] → (x.inv id).cells = [y] → (y = x.inv id ∨ y = .p .undef) → ∃ d, x.cells[j]? = some d ∧ (c = d.inv id ∨ c = .p .undef) := by
    intro y h1 h2 h3
    rw [h2] at h
    cases j with
    | zero => simp at h; subst h; exact ⟨x, by simp [h1], h3⟩
    | succ j => simp at h
  cases x with
  | p y =>
    simp only [V.inv] at h
    have : c.inv id = c := by
      simp only [V.cells, List.getElem?_map] at h
      cases hy : y.cells[j]? with
      | none => simp [hy] at h
      | some z => simp [hy] at h; subst h; rfl
    exact ⟨c, h, .inl this.symm⟩
  | agg n cs =>
    simp only [V.inv, V.cells] at h ⊢
    rw [invL_get] at h
    cases hc : cs[j]? with
    | none => simp [hc] at h
    | some d => simp [hc] at h; exact ⟨d, rfl, .inl h.symm⟩
  | tup cs => exact one (y := (V.tup cs).inv id) rfl rfl (.inl rfl)
  | fn f cs =>
    by_cases e : mem id (V.refs.refsL cs) = true
    · exact one (y := .p .undef) rfl (by simp [V.inv, e, V.cells, PV.cells]) (.inr rfl)
    · exact one (y := .fn f cs) rfl (by simp [V.inv, e, V.cells]) (.inl (by simp [V.inv, e]))
  | lp i a f =>
    by_cases e : i = id
    · exact one (y := .p .undef) rfl (by simp [V.inv, e, V.cells, PV.cells]) (.inr rfl)
    · exact one (y := .lp i a f) rfl (by simp [V.inv, e, V.cells]) (.inl (by simp [V.inv, e]))
  | ls i =>
    by_cases e : i = id
    · exact one (y := .p .undef) rfl (by simp [V.inv, e, V.cells, PV.cells]) (.inr rfl)
    · exact one (y := .ls i) rfl (by simp [V.inv, e, V.cells]) (.inl (by simp [V.inv, e]))
  | lsub i a f =>
    by_cases e : i = id
    · exact one (y := .p .undef) rfl (by simp [V.inv, e, V.cells, PV.cells]) (.inr rfl)
    · exact one (y := .lsub i a f) rfl (by simp [V.inv, e, V.cells]) (.inl (by simp [V.inv, e]))
  | lm i =>
    by_cases e : i = id
    · exact one (y := .p .undef) rfl (by simp [V.inv, e, V.cells, PV.cells]) (.inr rfl)
    · exact one (y := .lm i) rfl (by simp [V.inv, e, V.cells]) (.inl (by simp [V.inv, e]))
theorem wf_inv (id : Nat) (x : V) (h : x.wf) : (x.inv id).wf := by
  cases x with
  | p y => exact h
  | agg n cs =>
    refine ⟨by rw [invL_len]; exact h.1, ?_⟩
    intro i c hi
    rw [invL_get] at hi
    cases hc : cs[i]? with
    | none => simp [hc] at hi
    | some d => simp [hc] at hi; subst hi; rw [isAgg_inv]; exact h.2 i d hc
  | tup vs => exact h.elim
  | _ => simp only [V.inv]; split <;> trivial
theorem Lies.invV {w : World} {O : Nat → Prop} {ι : List Loc} {cell : Nat → Option Value} {k : EK} {xs : List V} {o : Nat} (h : Lies V.cells V.fits (VR w O ι) cell k xs o) (id : Nat) : Lies V.cells V.fits (VR w O ι) cell k (V.inv.invL id xs) o where
  fit i x hx := by
    rw [invL_get] at hx
    cases hc : xs[i]? with
    | none => simp [hc] at hx
    | some d => simp [hc] at hx; subst hx; have := h.fit i d hc; exact ⟨(cells_inv id d).trans this.1, (isAgg_inv id d).trans this.2, wf_inv id d this.3⟩
  rep i x j c hx hj := by
    rw [invL_get] at hx
    cases hc : xs[i]? with
    | none => simp [hc] at hx
    | some d =>
      simp [hc] at hx; subst hx
      obtain ⟨e, he, h1⟩ := cells_of_inv hj
      obtain ⟨u, h2, h3, h4⟩ := h.rep i d j e hc he
      refine ⟨u, h2, h3, ?_⟩
      rcases h1 with rfl | rfl
      · exact h4.inv id
      · exact .p _ _ (.undef _)
theorem VLies.inv {w : World} {O : Nat → Prop} {ι : List Loc} {b : Nat} {k : EK} {xs : List V} {o : Nat} (h : VLies w O ι b k xs o) (id : Nat) : VLies w O ι b k (V.inv.invL id xs) o := Lies.invV h id
theorem BR.inv {w : World} {O : Nat → Prop} {ι : List Loc} {l : Loc} {B : Blk} (h : BR w O ι l B) (id : Nat) : BR w O ι l (B.inv id) := by
  cases B with
  | mi k xs =>
    obtain ⟨h1, h2, h3⟩ := h
    refine ⟨h1, by rw [invL_len]; exact h2, ?_⟩
    cases hl : l.pl with
    | none => simp only [hl] at h3 ⊢; subst h3; rfl
    | some p =>
      obtain ⟨b, o⟩ := p
      simp only [hl] at h3 ⊢
      exact ⟨h3.1, by rw [invL_len]; exact h3.2.1, VLies.inv h3.2.2 id⟩
  | _ => exact h
theorem blk_refs_inv (id : Nat) (B : Blk) : ∀ j ∈ (B.inv id).refs, j ≠ id ∧ j ∈ B.refs := by
  intro j hj
  cases B with
  | mi k xs => exact refs_invL id xs j hj
  | _ => simp [Blk.inv, Blk.refs] at hj
end Go.Ab

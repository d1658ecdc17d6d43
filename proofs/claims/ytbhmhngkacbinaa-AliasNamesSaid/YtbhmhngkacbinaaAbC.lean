/- The heap of numbered blocks against the model's memory: steps. No conditions. -/
import Derived.Test.YtbhmhngkacbinaaAbB
namespace Go.Ab
open Go.RowKit
set_option autoImplicit false
set_option linter.unusedSimpArgs false

theorem Lies.keep {α : Type} {cells : α → List α} {fits : EK → α → Prop} {R R' : α → Value → Prop} {c c' : Nat → Option Value} {k : EK} {xs : List α} {o : Nat} (h : Lies cells fits R c k xs o)
    (hc : ∀ off, c' off = c off) (hR : ∀ (i : Nat) (x : α) (j : Nat) (y : α) (u : Value), xs[i]? = some x → (cells x)[j]? = some y → R y u → R' y u) : Lies cells fits R' c' k xs o where
  fit := h.fit
  rep i x j y hx hy := by
    obtain ⟨u, h1, h2, h3⟩ := h.rep i x j y hx hy
    exact ⟨u, (hc _).trans h1, h2, hR i x j y u hx hy h3⟩
theorem PLies.keep {w w' : World} {O O' : Nat → Prop} (hs : Same w O w' O') {b : Nat} {k : EK} {xs : List PV} {o : Nat} (h : PLies w O b k xs o) (hb : w'.heap[b]? = w.heap[b]?) : PLies w' O' b k xs o :=
  Lies.keep h (fun off => by simp only [World.cell?, hb]) (fun _ _ _ _ _ _ _ hR => hR.keep hs)
theorem cells_refs {x : V} {j : Nat} {c : V} (h : x.cells[j]? = some c) : ∀ id ∈ c.refs, id ∈ x.refs := by
  intro id hid
  cases x with
  | p y =>
    simp only [V.cells, List.getElem?_map] at h
    cases hy : y.cells[j]? with
    | none => simp [hy] at h
    | some z => simp [hy] at h; subst h; simp [V.refs] at hid
  | agg n cs => simp only [V.cells] at h; simp only [V.refs]; exact mem_refsL h hid
  | _ =>
    simp only [V.cells] at h
    cases j with
    | zero => simp at h; subst h; exact hid
    | succ j => simp at h
theorem VLies.keep {w w' : World} {O O' : Nat → Prop} (hs : Same w O w' O') {ι ι' : List Loc} {b : Nat} {k : EK} {xs : List V} {o : Nat} (h : VLies w O ι b k xs o) (hb : w'.heap[b]? = w.heap[b]?)
    (hi : ∀ id ∈ V.refs.refsL xs, ι'[id]? = ι[id]?) : VLies w' O' ι' b k xs o :=
  Lies.keep h (fun off => by simp only [World.cell?, hb]) (fun _ _ _ _ _ hx hy hR => hR.keep hs fun id hid => hi id (mem_refsL hx (cells_refs hy id hid)))
theorem Room.keep {w w' : World} {b n : Nat} (h : Room w b n) (hb : w'.heap[b]? = w.heap[b]?) : Room w' b n where
  there := by rw [hb]; exact h.there
  free off ho := by have := h.free off ho; simp only [World.frozen?, hb] at *; exact this
theorem MapAt.keep {w w' : World} {O O' : Nat → Prop} (hs : Same w O w' O') {r : Nat} {ks vs : List PV} (h : MapAt w O r ks vs) (hb : w'.heap[r]? = w.heap[r]?) : MapAt w' O' r ks vs where
  at_ := by
    obtain ⟨es, clk, h0, h1, h2, h3, h4⟩ := h.at_
    exact ⟨es, clk, hb.trans h0, h1, h2, fun i c e a b => (h3 i c e a b).keep hs, fun i c e a b => (h4 i c e a b).keep hs⟩
theorem MapAt.lt {w : World} {O : Nat → Prop} {r : Nat} {ks vs : List PV} (h : MapAt w O r ks vs) : r < w.heap.size := by
  obtain ⟨es, clk, h0, _⟩ := h.at_
  exact heap_lt h0
theorem BR.keep {w w' : World} {O O' : Nat → Prop} (hs : Same w O w' O') {ι ι' : List Loc} {l : Loc} {B : Blk} (h : BR w O ι l B) (hb : B.live = true → ∀ b o, l.pl = some (b, o) → w'.heap[b]? = w.heap[b]?)
    (hi : ∀ id ∈ B.refs, ι'[id]? = ι[id]?) : BR w' O' ι' l B := by
  cases B with
  | dead => trivial
  | pu k xs =>
    obtain ⟨h1, h2, h3⟩ := h
    refine ⟨h1, h2, ?_⟩
    cases hl : l.pl with
    | none => simp only [hl] at h3; exact h3
    | some p =>
      obtain ⟨b, o⟩ := p
      simp only [hl] at h3 ⊢
      have hb := hb rfl b o hl
      exact ⟨h3.1.keep hb, h3.2.1, PLies.keep hs h3.2.2 hb⟩
  | mi k xs =>
    obtain ⟨h1, h2, h3⟩ := h
    refine ⟨h1, h2, ?_⟩
    cases hl : l.pl with
    | none => simp only [hl] at h3; exact h3
    | some p =>
      obtain ⟨b, o⟩ := p
      simp only [hl] at h3 ⊢
      have hb := hb rfl b o hl
      exact ⟨h3.1.keep hb, h3.2.1, VLies.keep hs h3.2.2 hb hi⟩
  | fz k xs =>
    obtain ⟨h1, h2, h3⟩ := h
    refine ⟨h1, h2, ?_⟩
    cases hl : l.pl with
    | none => simp only [hl] at h3; exact h3
    | some p =>
      obtain ⟨b, o⟩ := p
      simp only [hl] at h3 ⊢
      exact ⟨Nat.lt_of_lt_of_le h3.1 hs.size, hs.not_own h3.1 h3.2.1, PLies.keep hs h3.2.2 (hs.block b h3.1 h3.2.1)⟩
  | mp ks vs =>
    simp only [BR] at h ⊢
    cases hl : l.pl with
    | none => simp only [hl] at h
    | some p =>
      obtain ⟨b, o⟩ := p
      simp only [hl] at h ⊢
      exact h.keep hs (hb rfl b o hl)
  | fm ks vs =>
    simp only [BR] at h ⊢
    cases hl : l.pl with
    | none => simp only [hl] at h
    | some p =>
      obtain ⟨b, o⟩ := p
      simp only [hl] at h ⊢
      exact ⟨hs.not_own h.2.lt h.1, h.2.keep hs (hs.block b h.2.lt h.1)⟩

/-- From one state to another: what a step leaves. mv: the numbers whose place has changed. -/
structure Fr (w : World) (ι : List Loc) (H : Heap) (mv : List Nat) (w' : World) (ι' : List Loc) (H' : Heap) : Prop where
  same : Same w (Own ι H) w' (Own ι' H')
  os : w'.os = w.os
  tape : w'.tape = w.tape
  output : w'.output = w.output
  len : ι.length ≤ ι'.length
  loc : ∀ id, id < ι.length → id ∉ mv → ι'[id]? = ι[id]?
theorem Fr.refl (w : World) (ι : List Loc) (H : Heap) : Fr w ι H [] w ι H := ⟨.refl _ _, rfl, rfl, rfl, Nat.le_refl _, fun _ _ _ => rfl⟩
theorem Fr.trans {w w1 w2 : World} {ι ι1 ι2 : List Loc} {H H1 H2 : Heap} {mv mv1 mv2 : List Nat} (h : Fr w ι H mv w1 ι1 H1) (g : Fr w1 ι1 H1 mv1 w2 ι2 H2) (hm : ∀ id, id ∈ mv ∨ (id ∈ mv1 ∧ id < ι.length) → id ∈ mv2) : Fr w ι H mv2 w2 ι2 H2 :=
  ⟨h.same.trans g.same, g.os.trans h.os, g.tape.trans h.tape, g.output.trans h.output, Nat.le_trans h.len g.len, fun id h1 h2 =>
    (g.loc id (Nat.lt_of_lt_of_le h1 h.len) (fun h3 => h2 (hm id (.inr ⟨h3, h1⟩)))).trans (h.loc id h1 (fun h3 => h2 (hm id (.inl h3))))⟩
theorem Fr.mono {w w' : World} {ι ι' : List Loc} {H H' : Heap} {mv mv' : List Nat} (h : Fr w ι H mv w' ι' H') (hm : ∀ id, id ∈ mv → id ∈ mv') : Fr w ι H mv' w' ι' H' :=
  ⟨h.same, h.os, h.tape, h.output, h.len, fun id h1 h2 => h.loc id h1 (fun h3 => h2 (hm id h3))⟩
theorem VR.step {w w' : World} {ι ι' : List Loc} {H H' : Heap} {mv : List Nat} (h : Fr w ι H mv w' ι' H') {X : Nat → Prop} {x : V} {u : Value} (hx : VR w (OX X ι H) ι x u) (hm : ∀ id ∈ x.refs, id ∉ mv) : VR w' (OX X ι' H') ι' x u :=
  hx.keep (h.same.withX X) fun id hid => h.loc id (hx.refs_lt id hid) (hm id hid)

theorem get_append {α : Type} {l r : List α} {i : Nat} {x : α} (h : l[i]? = some x) : (l ++ r)[i]? = some x := by
  rw [List.getElem?_append_left (List.getElem?_eq_some_iff.1 h).1]; exact h
theorem get_snoc {α : Type} {l : List α} {y : α} {i : Nat} {x : α} (h : (l ++ [y])[i]? = some x) : l[i]? = some x ∨ (i = l.length ∧ x = y) := by
  rcases Nat.lt_or_ge i l.length with hi | hi
  · rw [List.getElem?_append_left hi] at h; exact .inl h
  · rw [List.getElem?_append_right hi] at h
    have : i - l.length = 0 := by
      rcases Nat.eq_zero_or_pos (i - l.length) with h0 | h0
      · exact h0
      · rw [List.getElem?_eq_none (by simp; omega)] at h; cases h
    rw [this] at h
    simp at h
    exact .inr ⟨by omega, h.symm⟩
theorem refsL_mem {vs : List V} {id : Nat} (h : id ∈ V.refs.refsL vs) : ∃ (i : Nat) (c : V), vs[i]? = some c ∧ id ∈ c.refs := by
  induction vs with
  | nil => simp [V.refs.refsL] at h
  | cons v r ih =>
    simp only [V.refs.refsL, List.mem_append] at h
    rcases h with h | h
    · exact ⟨0, v, rfl, h⟩
    · obtain ⟨i, c, hi, hc⟩ := ih h
      exact ⟨i + 1, c, by simpa using hi, hc⟩
theorem V.mem_refs_cells {x : V} {id : Nat} (h : id ∈ x.refs) : ∃ (j : Nat) (c : V), x.cells[j]? = some c ∧ id ∈ c.refs := by
  cases x with
  | p y => simp [V.refs] at h
  | agg n cs => exact refsL_mem h
  | _ => exact ⟨0, _, rfl, h⟩
theorem BR.refs_lt {w : World} {O : Nat → Prop} {ι : List Loc} {l : Loc} {B : Blk} (h : BR w O ι l B) : ∀ id ∈ B.refs, id < ι.length := by
  intro id hid
  cases B with
  | mi k xs =>
    obtain ⟨h1, h2, h3⟩ := h
    obtain ⟨i, c, hi, hc⟩ := refsL_mem hid
    cases hl : l.pl with
    | none => simp only [hl] at h3; subst h3; simp at hi
    | some p =>
      obtain ⟨b, o⟩ := p
      simp only [hl] at h3
      obtain ⟨j, d, hj, hd⟩ := V.mem_refs_cells hc
      obtain ⟨u, _, _, hu⟩ := h3.2.2.rep i c j d hi hj
      exact hu.refs_lt id hd
  | _ => simp [Blk.refs] at hid
theorem own_lt {w : World} {X : Nat → Prop} {ι : List Loc} {H : Heap} (h : HR w X ι H) {b : Nat} (hb : Own ι H b) : b < w.heap.size := by
  obtain ⟨id, l, B, o, h1, h2, h3, h4⟩ := hb
  have := h.blk id l B h1 h2
  cases B with
  | dead => simp [Blk.live] at h3
  | fz k xs => simp [Blk.live] at h3
  | fm k xs => simp [Blk.live] at h3
  | pu k xs =>
    obtain ⟨_, _, h5⟩ := this
    simp only [h4] at h5
    obtain ⟨⟨⟨cs, e, fz, hh, _⟩, _⟩, _⟩ := h5
    exact heap_lt hh
  | mi k xs =>
    obtain ⟨_, _, h5⟩ := this
    simp only [h4] at h5
    obtain ⟨⟨⟨cs, e, fz, hh, _⟩, _⟩, _⟩ := h5
    exact heap_lt hh
  | mp ks vs =>
    simp only [BR, h4] at this
    exact this.lt

/-- A new block. -/
theorem HR.push {w w' : World} {X : Nat → Prop} {ι : List Loc} {H : Heap} (h : HR w X ι H) (o : Obj) (hw : w'.heap = w.heap.push o) (ho : w'.os = w.os) (ht : w'.tape = w.tape) (hu : w'.output = w.output) (l : Loc) (B : Blk)
    (hl : B.live = true) (hp : ∀ b o, l.pl = some (b, o) → b = w.heap.size) (hB : BR w' (OX X (ι ++ [l]) (H ++ [B])) (ι ++ [l]) l B) :
    HR w' X (ι ++ [l]) (H ++ [B]) ∧ Fr w ι H [] w' (ι ++ [l]) (H ++ [B]) := by
  have hold : ∀ b, b < w.heap.size → w'.heap[b]? = w.heap[b]? := fun b hb => by rw [hw, Array.getElem?_push, if_neg (by omega)]
  have hs : Same w (Own ι H) w' (Own (ι ++ [l]) (H ++ [B])) := by
    refine ⟨fun b hb _ => hold b hb, by rw [hw]; simp, ?_⟩
    rintro b ⟨id, l', B', q, h1, h2, h3, h4⟩
    rcases get_snoc h1 with h1 | ⟨h1, rfl⟩
    · rcases get_snoc h2 with h2 | ⟨h2, rfl⟩
      · exact .inl ⟨id, l', B', q, h1, h2, h3, h4⟩
      · have := (List.getElem?_eq_some_iff.1 h1).1
        have := h.len
        omega
    · exact .inr (by have := hp b q h4; omega)
  refine ⟨⟨by simp [h.len], ?_, ?_, fun b hb => Nat.lt_of_lt_of_le (h.xlt b hb) hs.size, fun b hb hx => (hs.own b hb).elim (fun h1 => h.xo b h1 hx) (fun h1 => by have := h.xlt b hx; omega)⟩, ⟨hs, ho, ht, hu, by simp, fun id hid _ => by rw [List.getElem?_append_left hid]⟩⟩
  · intro id l' B' h1 h2
    rcases get_snoc h1 with h1 | ⟨h1, rfl⟩
    · rcases get_snoc h2 with h2 | ⟨h2, rfl⟩
      · have hbr := h.blk id l' B' h1 h2
        exact hbr.keep (hs.withX X) (fun hlv b q hq => hold b (own_lt h ⟨id, l', B', q, h1, h2, hlv, hq⟩)) (fun j hj => by rw [List.getElem?_append_left (hbr.refs_lt j hj)])
      · have := (List.getElem?_eq_some_iff.1 h1).1
        have := h.len
        omega
    · rcases get_snoc h2 with h2 | ⟨h2, rfl⟩
      · have := (List.getElem?_eq_some_iff.1 h2).1
        have := h.len
        omega
      · exact hB
  · intro id id' l1 l2 B1 B2 b o1 o2 h1 h2 h3 h4 h5 h6 h7 h8
    have hlen := h.len
    have e1 := (List.getElem?_eq_some_iff.1 h1).1
    have e2 := (List.getElem?_eq_some_iff.1 h2).1
    simp only [List.length_append, List.length_singleton] at e1 e2
    rcases Nat.lt_or_ge id ι.length with a | a
    · rw [List.getElem?_append_left a] at h1
      rw [List.getElem?_append_left (by omega)] at h3
      rcases Nat.lt_or_ge id' ι.length with a' | a'
      · rw [List.getElem?_append_left a'] at h2
        rw [List.getElem?_append_left (by omega)] at h4
        exact h.one id id' l1 l2 B1 B2 b o1 o2 h1 h2 h3 h4 h5 h6 h7 h8
      · obtain rfl : id' = ι.length := by omega
        simp at h2
        subst h2
        have := own_lt h ⟨id, l1, B1, o1, h1, h3, h5, h7⟩
        have := hp b o2 h8
        omega
    · rcases Nat.lt_or_ge id' ι.length with a' | a'
      · rw [List.getElem?_append_left a'] at h2
        rw [List.getElem?_append_left (by omega)] at h4
        obtain rfl : id = ι.length := by omega
        simp at h1
        subst h1
        have := own_lt h ⟨id', l2, B2, o2, h2, h4, h6, h8⟩
        have := hp b o1 h7
        omega
      · omega
end Go.Ab

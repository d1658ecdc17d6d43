/- Regions that draw their order: one operation. Conditions: the tables of types and of functions. -/
import Derived.Test.YtbhmhngkacbinaaAbX
namespace Go.Ab
open Go.RowKit
set_option autoImplicit false
set_option linter.unusedSimpArgs false

/-- No place yet: no value names it. -/
def filler : Loc := ⟨none, 0, 1, 0⟩
theorem VR.not_filler {w : World} {O : Nat → Prop} {ι : List Loc} {x : V} {u : Value} (h : VR w O ι x u) : ∀ id ∈ x.refs, ι[id]? ≠ some filler := by
  have L : ∀ (cs : List V) (us : Array Value), cs.length = us.size → (∀ (i : Nat) (c : V) (u : Value), cs[i]? = some c → us[i]? = some u → ∀ id ∈ c.refs, ι[id]? ≠ some filler) → ∀ id ∈ V.refs.refsL cs, ι[id]? ≠ some filler := by
    intro cs us hn h id hid
    obtain ⟨i, c, hi, hc⟩ := refsL_mem hid
    exact h i c _ hi (Array.getElem?_eq_getElem (by have := (List.getElem?_eq_some_iff.1 hi).1; omega)) id hc
  induction h with
  | p x u h => intro id hid; simp [V.refs] at hid
  | agg n cs us hn hu h1 hc _ ih => exact L cs us (by omega) ih
  | lp id i f l b o hl hp => intro j hj e; simp [V.refs] at hj; subst hj; rw [hl] at e; cases e; simp [filler] at hp
  | ls id l b o cap hl hp h1 h2 => intro j hj e; simp [V.refs] at hj; subst hj; rw [hl] at e; cases e; simp [filler] at hp
  | lsNil id l a hl hp h1 => intro j hj e; simp [V.refs] at hj; subst hj; rw [hl] at e; cases e; simp [filler] at h1
  | lsub id q m l b o cap hl hp h1 h2 => intro j hj e; simp [V.refs] at hj; subst hj; rw [hl] at e; cases e; simp [filler] at hp
  | lsubNil id q l a hl hg => intro j hj e; simp [V.refs] at hj; subst hj; rw [hl] at e; cases e; have := hg rfl; simp [filler] at this
  | fn f cs us hn _ ih => exact L cs us hn ih
  | tup cs us hn _ ih => exact L cs us hn ih
  | lm id l r o hl hp => intro j hj e; simp [V.refs] at hj; subst hj; rw [hl] at e; cases e; simp [filler] at hp
theorem BR.not_filler {w : World} {O : Nat → Prop} {ι : List Loc} {l : Loc} {B : Blk} (h : BR w O ι l B) : ∀ id ∈ B.refs, ι[id]? ≠ some filler := by
  intro id hid
  cases B with
  | mi k xs =>
    obtain ⟨h1, h2, h3⟩ := h
    obtain ⟨i, c, hi, hc⟩ := refsL_mem hid
    cases hl : l.pl with
    | none => simp only [hl] at h3; subst h3; simp at hi
    | some p =>
      obtain ⟨b, o⟩ := p
      simp only [hl] at h3
      obtain ⟨j, d, hj, hd⟩ := V.mem_refs_cells hc
      obtain ⟨u, _, _, hu⟩ := h3.2.2.rep i c j d hi hj
      exact hu.not_filler id hd
  | _ => simp [Blk.refs] at hid
theorem pad_get {α : Type} {l : List α} {k : Nat} {x y : α} {i : Nat} (h : (l ++ List.replicate k x)[i]? = some y) : l[i]? = some y ∨ (l.length ≤ i ∧ y = x) := by
  rcases Nat.lt_or_ge i l.length with hi | hi
  · rw [List.getElem?_append_left hi] at h; exact .inl h
  · rw [List.getElem?_append_right hi, List.getElem?_replicate] at h
    split at h
    · cases h; exact .inr ⟨hi, rfl⟩
    · cases h
theorem HR.pad {w : World} {X : Nat → Prop} {ι : List Loc} {H : Heap} (h : HR w X ι H) (k : Nat) : HR w X (ι ++ List.replicate k filler) (H ++ List.replicate k .dead) ∧ Fr w ι H [] w (ι ++ List.replicate k filler) (H ++ List.replicate k .dead) ∧ ∀ b, Own ι H b → Own (ι ++ List.replicate k filler) (H ++ List.replicate k .dead) b := by
  have old : ∀ {id : Nat} {l : Loc} {B : Blk}, (ι ++ List.replicate k filler)[id]? = some l → (H ++ List.replicate k .dead)[id]? = some B → B = .dead ∨ (ι[id]? = some l ∧ H[id]? = some B) := by
    intro id l B h1 h2
    rcases pad_get h2 with h2 | ⟨_, h2⟩
    · rcases pad_get h1 with h1 | ⟨hge, _⟩
      · exact .inr ⟨h1, h2⟩
      · have := (List.getElem?_eq_some_iff.1 h2).1
        have := h.len
        omega
    · exact .inl h2
  have own : ∀ b, Own (ι ++ List.replicate k filler) (H ++ List.replicate k .dead) b → Own ι H b := by
    rintro b ⟨id, l, B, o, h1, h2, h3, h4⟩
    rcases old h1 h2 with rfl | ⟨g1, g2⟩
    · simp [Blk.live] at h3
    · exact ⟨id, l, B, o, g1, g2, h3, h4⟩
  have hs : Same w (Own ι H) w (Own (ι ++ List.replicate k filler) (H ++ List.replicate k .dead)) := Same.shrink own
  refine ⟨⟨by simp [h.len], ?_, ?_, h.xlt, fun b hb => h.xo b (own b hb)⟩, ⟨hs, rfl, rfl, rfl, by simp, fun id hid _ => by rw [List.getElem?_append_left hid]⟩, ?_⟩
  · intro id l B h1 h2
    rcases old h1 h2 with rfl | ⟨g1, g2⟩
    · trivial
    · have hbr := h.blk id l B g1 g2
      exact hbr.keep (hs.withX X) (fun _ _ _ _ => rfl) (fun j hj => by rw [List.getElem?_append_left (hbr.refs_lt j hj)])
  · intro j j' l1 l2 B1 B2 c o1 o2 g1 g2 g3 g4 g5 g6 g7 g8
    rcases old g1 g3 with rfl | ⟨k1, k3⟩
    · simp [Blk.live] at g5
    · rcases old g2 g4 with rfl | ⟨k2, k4⟩
      · simp [Blk.live] at g6
      · exact h.one j j' l1 l2 B1 B2 c o1 o2 k1 k2 k3 k4 g5 g6 g7 g8
  · rintro b ⟨id, l, B, o, h1, h2, h3, h4⟩
    exact ⟨id, l, B, o, by rw [List.getElem?_append_left (List.getElem?_eq_some_iff.1 h1).1]; exact h1, by rw [List.getElem?_append_left (List.getElem?_eq_some_iff.1 h2).1]; exact h2, h3, h4⟩
section
variable {P : Program} {E : Env} (hT : TyOk P E.ty) (hF : FnsOk P E.fns) {run : Run} (hR : RunOk P run) {w : World} {X : Nat → Prop} {ι : List Loc} {H : Heap} (hH : HR w X ι H)
include hT hF hR hH
theorem draw_step {L : Nat} {ids : List Nat} {Hj : Heap} (hLN : L ≤ H.length) (hLj : Hj.length = L) (hag : ∀ id ∈ ids, id < L ∧ H[id]? = Hj[id]? ∧ ∀ B, Hj[id]? = some B → ∀ r ∈ B.refs, r < L)
    {ev : Operand → V} {a : Act} (hev : ∀ x, VR w (OX X ι H) ι (ev x) (a.eval x) ∧ ∀ r ∈ (ev x).refs, r < L) {o : Oper} {v : V} {H' : Heap} {lg : Lg} (hop : aop E run ev (restr ids 0 Hj) o = some (v, H', lg)) (hmv : lg.mv = [])
    (hL'N : H'.length ≤ H.length) (hfil : ∀ id, L ≤ id → id < H'.length → ι[id]? = some filler) {H2 : Heap} (hH2 : H2.length = H.length) (hg2 : ∀ id, id < H.length → H2[id]? = if id < H'.length ∧ (id ∈ ids ∨ L ≤ id) then H'[id]? else H[id]?)
    {next : Act → World → Prop} {Q : Exit → Act → World → Prop}
    (hk : ∀ u w' ι2, HR w' X ι2 H2 → VR w' (OX X ι2 H2) ι2 v u → (∀ x y, VR w (OX X ι H) ι x y → VR w' (OX X ι2 H2) ι2 x y) → (∀ mv, (∀ id, L ≤ id → id < H.length → id ∈ mv) → Fr w ι H mv w' ι2 H2) → (∀ id, ¬ (L ≤ id ∧ id < H'.length) → ι2[id]? = ι[id]?) → next (a.put o.dst u) w') : o.wp P a w next Q := by
  have hlen := hH.len
  -- the restricted heap
  have hR1 : (restr ids 0 H).take L = restr ids 0 Hj := by
    apply List.ext_getElem?
    intro i
    rw [List.getElem?_take, restr_get, restr_get, Nat.zero_add]
    split
    · rename_i hi
      have h1 := List.getElem?_eq_getElem (l := H) (i := i) (by omega)
      have h2 := List.getElem?_eq_getElem (l := Hj) (i := i) (by omega)
      cases hm : mem i ids with
      | true =>
        have := (hag i (mem_iff.1 hm)).2.1
        rw [this]
      | false => rw [h1, h2]; simp [hm]
    · rw [List.getElem?_eq_none (by omega)]; rfl
  obtain ⟨r1, r2⟩ := hH.restr ids
  have hrefs : ∀ (id : Nat) (B : Blk), id < L → (restr ids 0 H)[id]? = some B → ∀ j ∈ B.refs, j < L := by
    intro id B hid hB j hj
    rw [restr_get, Nat.zero_add] at hB
    cases hb : H[id]? with
    | none => simp [hb] at hB
    | some C =>
      simp only [hb, Option.map_some, Option.some.injEq] at hB
      split at hB
      · rename_i hm
        subst hB
        obtain ⟨_, e, h3⟩ := hag id (mem_iff.1 hm)
        exact h3 C (by rw [← e]; exact hb) j hj
      · subst hB; simp [Blk.refs] at hj
  have hlive : ∀ (id : Nat) (B : Blk), (restr ids 0 H)[id]? = some B → B.live = true → id ∈ ids ∧ H[id]? = some B := by
    intro id B hB hl
    rw [restr_get, Nat.zero_add] at hB
    cases hb : H[id]? with
    | none => simp [hb] at hB
    | some C =>
      simp only [hb, Option.map_some, Option.some.injEq] at hB
      split at hB
      · rename_i hm; subst hB; exact ⟨mem_iff.1 hm, rfl⟩
      · subst hB; simp [Blk.live] at hl
  let O1 : Nat → Prop := Own ι (restr ids 0 H)
  let X' : Nat → Prop := fun b => OX X ι H b ∧ ¬ O1 b
  have hO1 : ∀ b, O1 b → Own ι H b := fun b hb => (r2.same.own b hb).elim (fun h => h) (fun h2 => by have := own_lt r1 hb; omega)
  have hXX : ∀ b, OX X' ι (restr ids 0 H) b → OX X ι H b := fun b hb => hb.elim (fun h => .inl (hO1 b h)) (fun h => h.1)
  have hXR : ∀ b, X b → X' b := fun b hb => ⟨.inr hb, fun h => hH.xo b (hO1 b h) hb⟩
  have hX1 : HR w X' ι (restr ids 0 H) := by
    refine ⟨r1.len, fun id l B h1 h2 => ?_, r1.one, fun b hb => hb.1.elim (own_lt hH) (hH.xlt b), fun b hb hx => hx.2 hb⟩
    rw [restr_get, Nat.zero_add] at h2
    cases hb : H[id]? with
    | none => simp [hb] at h2
    | some C =>
      simp only [hb, Option.map_some, Option.some.injEq] at h2
      split at h2
      · subst h2
        exact (hH.blk id l C h1 hb).keep (Same.shrink hXX) (fun _ _ _ _ => rfl) (fun _ _ => rfl)
      · subst h2; trivial
  obtain ⟨t1, t2⟩ := hX1.take L hrefs
  rw [hR1] at t1 t2
  have hOt : ∀ b, Own (ι.take L) (restr ids 0 Hj) b → O1 b := fun b hb => (t2.own b hb).elim (fun h => h) (fun h2 => by have := own_lt t1 hb; omega)
  have hOX : ∀ b, OX X' (ι.take L) (restr ids 0 Hj) b → OX X ι H b := fun b hb => hb.elim (fun h => .inl (hO1 b (hOt b h))) (fun h => h.1)
  have hev1 : ∀ x, VR w (OX X' (ι.take L) (restr ids 0 Hj)) (ι.take L) (ev x) (a.eval x) := fun x => (hev x).1.keep (Same.shrink hOX) (fun id hid => by rw [List.getElem?_take, if_pos ((hev x).2 id hid)])
  refine aop_wp hT hF hR t1 hev1 hop ?_
  intro u w' ι' g1 g2 g3
  rw [hmv] at g3
  have hlt : (ι.take L).length = L := by simp; omega
  have hl' : ι'.length = H'.length := g1.len
  have hLL : L ≤ H'.length := by have := g3.len; omega
  have hloc : ∀ id, id < L → ι'[id]? = ι[id]? := fun id hid => by rw [g3.loc id (by omega) (by simp), List.getElem?_take, if_pos hid]
  obtain ⟨ι2, hι2⟩ : ∃ ι2, ι2 = ι' ++ ι.drop H'.length := ⟨_, rfl⟩
  have h2len : ι2.length = H.length := by rw [hι2]; simp; omega
  have h2a : ∀ id, id < H'.length → ι2[id]? = ι'[id]? := fun id hid => by rw [hι2, List.getElem?_append_left (by omega)]
  have h2b : ∀ id, ¬ (L ≤ id ∧ id < H'.length) → ι2[id]? = ι[id]? := by
    intro id hid
    rcases Nat.lt_or_ge id H'.length with h1 | h1
    · rw [h2a id h1, hloc id (by omega)]
    · rw [hι2, List.getElem?_append_right (by omega), List.getElem?_drop]
      congr 1
      omega
  -- of which kind a number is
  have kind : ∀ (id : Nat) (l : Loc) (B : Blk), ι2[id]? = some l → H2[id]? = some B → (id < H'.length ∧ (id ∈ ids ∨ L ≤ id) ∧ ι'[id]? = some l ∧ H'[id]? = some B) ∨ (id ∉ ids ∧ ¬ (L ≤ id ∧ id < H'.length) ∧ ι[id]? = some l ∧ H[id]? = some B) := by
    intro id l B h1 h2
    have hid : id < H.length := by have := (List.getElem?_eq_some_iff.1 h2).1; omega
    rw [hg2 id hid] at h2
    split at h2
    · rename_i hc
      exact .inl ⟨hc.1, hc.2, by rw [← h2a id hc.1]; exact h1, h2⟩
    · rename_i hc
      have hn : ¬ (L ≤ id ∧ id < H'.length) := fun h => hc ⟨h.2, .inr h.1⟩
      refine .inr ⟨fun hm => hc ⟨?_, .inl hm⟩, hn, by rw [← h2b id hn]; exact h1, h2⟩
      have := (hag id hm).1
      omega
  have oldown : ∀ (id : Nat) (l : Loc) (B : Blk) (b q : Nat), id ∉ ids → ι[id]? = some l → H[id]? = some B → B.live = true → l.pl = some (b, q) → Own ι H b ∧ ¬ O1 b := by
    intro id l B b q h1 h2 h3 h4 h5
    refine ⟨⟨id, l, B, q, h2, h3, h4, h5⟩, ?_⟩
    rintro ⟨id2, l2, B2, q2, k1, k2, k3, k4⟩
    obtain ⟨m1, m2⟩ := hlive id2 B2 k2 k3
    have := hH.one id id2 l l2 B B2 b q q2 h2 k1 h3 m2 h4 k3 h5 k4
    subst this
    exact h1 m1
  have own2 : ∀ b, Own ι2 H2 b → Own ι' H' b ∨ (Own ι H b ∧ ¬ O1 b) := by
    rintro b ⟨id, l, B, q, h1, h2, h3, h4⟩
    rcases kind id l B h1 h2 with ⟨_, _, k1, k2⟩ | ⟨k0, _, k1, k2⟩
    · exact .inl ⟨id, l, B, q, k1, k2, h3, h4⟩
    · exact .inr (oldown id l B b q k0 k1 k2 h3 h4)
  have ownnew : ∀ b, Own ι' H' b → O1 b ∨ w.heap.size ≤ b := fun b hb => (g3.same.own b hb).imp (hOt b) (fun h => h)
  have hblock : ∀ b, b < w.heap.size → ¬ O1 b → w'.heap[b]? = w.heap[b]? := fun b hb hO => g3.same.block b hb (fun h => hO (hOt b h))
  have sOld : Same w (OX X ι H) w' (OX X ι2 H2) := by
    refine ⟨fun b hb hO => hblock b hb (fun h => hO (.inl (hO1 b h))), g3.same.size, fun b hb => ?_⟩
    rcases hb with hb | hb
    · rcases own2 b hb with hb | hb
      · exact (ownnew b hb).imp (fun h => .inl (hO1 b h)) (fun h => h)
      · exact .inl (.inl hb.1)
    · exact .inl (.inr hb)
  have sNew : Same w' (OX X' ι' H') w' (OX X ι2 H2) := Same.shrink (fun b hb => by
    rcases hb with hb | hb
    · rcases own2 b hb with hb | hb
      · exact .inl hb
      · exact .inr ⟨.inl hb.1, hb.2⟩
    · exact .inr (hXR b hb))
  have keepOld : ∀ x y, VR w (OX X ι H) ι x y → VR w' (OX X ι2 H2) ι2 x y := fun x y hx => hx.keep sOld (fun id hid => by
    refine h2b id (fun hc => ?_)
    exact hx.not_filler id hid (hfil id hc.1 hc.2))
  have hHR : HR w' X ι2 H2 := by
    refine ⟨by omega, fun id l B h1 h2 => ?_, ?_, fun b hb => Nat.lt_of_lt_of_le (hH.xlt b hb) g3.same.size, fun b hb hx => ?_⟩
    · rcases kind id l B h1 h2 with ⟨_, _, k1, k2⟩ | ⟨k0, _, k1, k2⟩
      · have hbr := g1.blk id l B k1 k2
        exact hbr.keep sNew (fun _ _ _ _ => rfl) (fun j hj => h2a j (by have := hbr.refs_lt j hj; omega))
      · have hbr := hH.blk id l B k1 k2
        refine hbr.keep sOld (fun hlv b q hq => ?_) (fun j hj => h2b j (fun hc => hbr.not_filler j hj (hfil j hc.1 hc.2)))
        obtain ⟨m1, m2⟩ := oldown id l B b q k0 k1 k2 hlv hq
        exact hblock b (own_lt hH m1) m2
    · intro j j' l1 l2 B1 B2 c o1 o2 e1 e2 e3 e4 e5 e6 e7 e8
      rcases kind j l1 B1 e1 e3 with ⟨_, _, k1, k3⟩ | ⟨k0, _, k1, k3⟩ <;> rcases kind j' l2 B2 e2 e4 with ⟨_, _, m1, m3⟩ | ⟨m0, _, m1, m3⟩
      · exact g1.one j j' l1 l2 B1 B2 c o1 o2 k1 m1 k3 m3 e5 e6 e7 e8
      · exfalso
        obtain ⟨q1, q2⟩ := oldown j' l2 B2 c o2 m0 m1 m3 e6 e8
        rcases ownnew c ⟨j, l1, B1, o1, k1, k3, e5, e7⟩ with h | h
        · exact q2 h
        · have := own_lt hH q1; omega
      · exfalso
        obtain ⟨q1, q2⟩ := oldown j l1 B1 c o1 k0 k1 k3 e5 e7
        rcases ownnew c ⟨j', l2, B2, o2, m1, m3, e6, e8⟩ with h | h
        · exact q2 h
        · have := own_lt hH q1; omega
      · exact hH.one j j' l1 l2 B1 B2 c o1 o2 k1 m1 k3 m3 e5 e6 e7 e8
    · rcases own2 b hb with hb | hb
      · exact g1.xo b hb (hXR b hx)
      · exact hH.xo b hb.1 hx
  refine hk u w' ι2 hHR (g2.keep sNew (fun id hid => h2a id (by have := g2.refs_lt id hid; omega))) keepOld (fun mv hmv' => ⟨⟨fun b hb hO => hblock b hb (fun h => hO (hO1 b h)), g3.same.size, fun b hb => ?_⟩, g3.os, g3.tape, g3.output, by omega, fun id hid hm => h2b id (fun hc => hm (hmv' id hc.1 (by omega)))⟩) h2b
  rcases own2 b hb with hb | hb
  · exact (ownnew b hb).imp (hO1 b) (fun h => h)
  · exact .inl hb.1
end
end Go.Ab

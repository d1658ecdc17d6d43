/- The heap of numbered blocks: a block moved. append. Conditions: the table of types. -/
import Derived.Test.YtbhmhngkacbinaaAbL
namespace Go.Ab
open Go.RowKit
set_option autoImplicit false
set_option linter.unusedSimpArgs false

theorem HR.move {w w' : World} {X : Nat → Prop} {ι : List Loc} {H : Heap} (h : HR w X ι H) {id : Nat} {l l' : Loc} {B B' : Blk} (hl : ι[id]? = some l) (hB : H[id]? = some B) (hv : B'.live = true)
    (hz : w.heap.size ≤ w'.heap.size) (hk : ∀ c, c < w.heap.size → ¬ (B.live = true ∧ ∃ o, l.pl = some (c, o)) → w'.heap[c]? = w.heap[c]?) (ho : w'.os = w.os) (ht : w'.tape = w.tape) (hu : w'.output = w.output)
    (hp : ∀ b o, l'.pl = some (b, o) → (B.live = true ∧ ∃ o', l.pl = some (b, o')) ∨ w.heap.size ≤ b)
    (hBR : Same w (Own ι H) w' (Own (ι.set id l') ((invH id H).set id B')) → BR w' (OX X (ι.set id l') ((invH id H).set id B')) (ι.set id l') l' B') :
    HR w' X (ι.set id l') ((invH id H).set id B') ∧ Fr w ι H [id] w' (ι.set id l') ((invH id H).set id B') := by
  have hid : id < ι.length := (List.getElem?_eq_some_iff.1 hl).1
  have back : ∀ (j : Nat) (C : Blk), (invH id H)[j]? = some C → ∃ D, H[j]? = some D ∧ C = D.inv id := by
    intro j C hC
    rw [invH_get] at hC
    cases hD : H[j]? with
    | none => simp [hD] at hC
    | some D => simp [hD] at hC; exact ⟨D, rfl, hC.symm⟩
  have own : ∀ c, Own (ι.set id l') ((invH id H).set id B') c → Own ι H c ∨ w.heap.size ≤ c := by
    rintro c ⟨j, lj, C, q, g1, g2, g3, g4⟩
    rcases get_set g1 with ⟨hj, g1⟩ | ⟨rfl, rfl, _⟩
    · rcases get_set g2 with ⟨_, g2⟩ | ⟨e, _, _⟩
      · obtain ⟨D, hD, rfl⟩ := back j C g2
        rw [inv_live] at g3
        exact .inl ⟨j, lj, D, q, g1, hD, g3, g4⟩
      · exact absurd e hj
    · rcases hp c q g4 with ⟨h1, o', h2⟩ | h1
      · exact .inl ⟨j, l, B, o', hl, hB, h1, h2⟩
      · exact .inr h1
  have hs : Same w (Own ι H) w' (Own (ι.set id l') ((invH id H).set id B')) := ⟨fun c hc hO => hk c hc (fun ⟨h1, o, h2⟩ => hO ⟨id, l, B, o, hl, hB, h1, h2⟩), hz, own⟩
  refine ⟨⟨by simp [invH_len, h.len], ?_, ?_, fun b hb => Nat.lt_of_lt_of_le (h.xlt b hb) hz, fun b hb hx => (own b hb).elim (fun h1 => h.xo b h1 hx) (fun h1 => by have := h.xlt b hx; omega)⟩,
    ⟨hs, ho, ht, hu, by simp, fun j _ hj => by rw [List.getElem?_set, if_neg (by simpa using fun e => hj (by simp [e]))]⟩⟩
  · intro j lj C g1 g2
    rcases get_set g1 with ⟨hj, g1⟩ | ⟨rfl, rfl, _⟩
    · rcases get_set g2 with ⟨_, g2⟩ | ⟨e, _, _⟩
      · obtain ⟨D, hD, rfl⟩ := back j C g2
        have hbr := (h.blk j lj D g1 hD).inv id
        refine hbr.keep (hs.withX X) (fun hlv b q hq => ?_) (fun r hr => ?_)
        · rw [inv_live] at hlv
          exact hk b (own_lt h ⟨j, lj, D, q, g1, hD, hlv, hq⟩) (fun ⟨h1, o, h2⟩ => hj (h.one j id lj l D B b q o g1 hl hD hB hlv h1 hq h2))
        · have := (blk_refs_inv id D r hr).1
          rw [List.getElem?_set, if_neg (by simpa using fun e => this e.symm)]
      · exact absurd e hj
    · rcases get_set g2 with ⟨e, _⟩ | ⟨_, rfl, _⟩
      · exact absurd rfl e
      · exact hBR hs
  · intro j j' l1 l2 B1 B2 c o1 o2 g1 g2 g3 g4 g5 g6 g7 g8
    rcases get_set g1 with ⟨hj, e1⟩ | ⟨hj, e1, _⟩ <;> rcases get_set g2 with ⟨hj', e2⟩ | ⟨hj', e2, _⟩
    · rcases get_set g3 with ⟨_, e3⟩ | ⟨e, _, _⟩
      · rcases get_set g4 with ⟨_, e4⟩ | ⟨e, _, _⟩
        · obtain ⟨D1, k1, rfl⟩ := back j B1 e3
          obtain ⟨D2, k2, rfl⟩ := back j' B2 e4
          rw [inv_live] at g5 g6
          exact h.one j j' l1 l2 D1 D2 c o1 o2 e1 e2 k1 k2 g5 g6 g7 g8
        · exact absurd e hj'
      · exact absurd e hj
    · subst e2
      rcases get_set g3 with ⟨_, e3⟩ | ⟨e, _, _⟩
      · obtain ⟨D1, k1, rfl⟩ := back j B1 e3
        rw [inv_live] at g5
        rcases hp c o2 g8 with ⟨q1, o', q2⟩ | q1
        · exact (h.one j id l1 l D1 B c o1 o' e1 hl k1 hB g5 q1 g7 q2).trans hj'.symm
        · have := own_lt h ⟨j, l1, D1, o1, e1, k1, g5, g7⟩; omega
      · exact absurd e hj
    · subst e1
      rcases get_set g4 with ⟨_, e4⟩ | ⟨e, _, _⟩
      · obtain ⟨D2, k2, rfl⟩ := back j' B2 e4
        rw [inv_live] at g6
        rcases hp c o1 g7 with ⟨q1, o', q2⟩ | q1
        · exact hj.trans (h.one id j' l l2 B D2 c o' o2 hl e2 hB k2 q1 g6 q2 g8)
        · have := own_lt h ⟨j', l2, D2, o2, e2, k2, g6, g8⟩; omega
      · exact absurd e hj'
    · exact hj.trans hj'.symm
/-- A number without a place: an empty slice. -/
theorem HR.ghost {w : World} {X : Nat → Prop} {ι : List Loc} {H : Heap} (h : HR w X ι H) (k : EK) (n : Nat) : HR w X (ι ++ [⟨none, k.sz, 0, n⟩]) (H ++ [.pu k []]) ∧ Fr w ι H [] w (ι ++ [⟨none, k.sz, 0, n⟩]) (H ++ [.pu k []]) := by
  have own : ∀ c, Own (ι ++ [⟨none, k.sz, 0, n⟩]) (H ++ [.pu k []]) c → Own ι H c := by
    rintro c ⟨j, lj, C, q, g1, g2, g3, g4⟩
    rcases get_snoc g1 with g1 | ⟨h1, rfl⟩
    · rcases get_snoc g2 with g2 | ⟨h2, rfl⟩
      · exact ⟨j, lj, C, q, g1, g2, g3, g4⟩
      · have := (List.getElem?_eq_some_iff.1 g1).1
        have := h.len
        omega
    · simp at g4
  have hs : Same w (Own ι H) w (Own (ι ++ [⟨none, k.sz, 0, n⟩]) (H ++ [.pu k []])) := ⟨fun _ _ _ => rfl, Nat.le_refl _, fun c hc => .inl (own c hc)⟩
  refine ⟨⟨by simp [h.len], ?_, ?_, h.xlt, fun b hb hx => h.xo b (own b hb) hx⟩, ⟨hs, rfl, rfl, rfl, by simp, fun j hj _ => by rw [List.getElem?_append_left hj]⟩⟩
  · intro j lj C g1 g2
    rcases get_snoc g1 with g1 | ⟨h1, rfl⟩
    · rcases get_snoc g2 with g2 | ⟨h2, rfl⟩
      · have hbr := h.blk j lj C g1 g2
        exact hbr.keep (hs.withX X) (fun _ _ _ _ => rfl) (fun r hr => by rw [List.getElem?_append_left (hbr.refs_lt r hr)])
      · have := (List.getElem?_eq_some_iff.1 g1).1
        have := h.len
        omega
    · rcases get_snoc g2 with g2 | ⟨h2, rfl⟩
      · have := (List.getElem?_eq_some_iff.1 g2).1
        have := h.len
        omega
      · exact ⟨rfl, rfl, rfl⟩
  · intro j j' l1 l2 B1 B2 c o1 o2 g1 g2 g3 g4 g5 g6 g7 g8
    rcases get_snoc g1 with g1 | ⟨h1, rfl⟩
    · rcases get_snoc g2 with g2 | ⟨h2, rfl⟩
      · rcases get_snoc g3 with g3 | ⟨h3, rfl⟩
        · rcases get_snoc g4 with g4 | ⟨h4, rfl⟩
          · exact h.one j j' l1 l2 B1 B2 c o1 o2 g1 g2 g3 g4 g5 g6 g7 g8
          · have := (List.getElem?_eq_some_iff.1 g2).1
            have := h.len
            omega
        · have := (List.getElem?_eq_some_iff.1 g1).1
          have := h.len
          omega
      · simp at g8
    · simp at g7

def Cont.vs : Cont → List V
  | .pu xs => xs.map V.p
  | .mi xs => xs
theorem Cont.vs_len (c : Cont) : c.vs.length = c.len := by cases c <;> simp [Cont.vs, Cont.len]
theorem joinC_or (k : EK) (a b : Cont) : joinC k a b = .mi k (a.vs ++ b.vs) ∨ ∃ xs, a.vs ++ b.vs = xs.map V.p ∧ joinC k a b = .pu k xs := by
  cases a <;> cases b
  · exact .inr ⟨_, by simp [Cont.vs], rfl⟩
  · exact .inl rfl
  · exact .inl rfl
  · exact .inl rfl
theorem Lies.lift {w : World} {O : Nat → Prop} {ι : List Loc} {cell : Nat → Option Value} {k : EK} {xs : List PV} {o : Nat} (h : Lies PV.cells PV.fits (PR w O) cell k xs o) : Lies V.cells V.fits (VR w O ι) cell k (xs.map V.p) o where
  fit i x hx := by
    simp only [List.getElem?_map, Option.map_eq_some_iff] at hx
    obtain ⟨d, hd, rfl⟩ := hx
    have := h.fit i d hd
    exact ⟨by simp [V.cells, this.len], this.ag, this.wf⟩
  rep i x j c hx hc := by
    simp only [List.getElem?_map, Option.map_eq_some_iff] at hx
    obtain ⟨d, hd, rfl⟩ := hx
    simp only [V.cells, List.getElem?_map, Option.map_eq_some_iff] at hc
    obtain ⟨e, he, rfl⟩ := hc
    obtain ⟨u, g1, g2, g3⟩ := h.rep i d j e hd he
    exact ⟨u, g1, g2, .p _ _ g3⟩
theorem Lies.sub {α : Type} {cells : α → List α} {fits : EK → α → Prop} {R : α → Value → Prop} {c : Nat → Option Value} {k : EK} {xs : List α} {o : Nat} (h : Lies cells fits R c k xs o) (q m : Nat) : Lies cells fits R c k ((xs.drop q).take m) (o + q * k.sz) where
  fit i x hx := by
    rw [List.getElem?_take] at hx
    split at hx
    · rw [List.getElem?_drop] at hx; exact h.fit _ x hx
    · cases hx
  rep i x j d hx hj := by
    rw [List.getElem?_take] at hx
    split at hx
    · rw [List.getElem?_drop] at hx
      obtain ⟨u, h1, h2, h3⟩ := h.rep _ x j d hx hj
      refine ⟨u, ?_, h2, h3⟩
      rw [← h1, Nat.add_mul]
      simp only [Nat.add_assoc]
    · cases hx
/-- Elements in memory, read out. -/
theorem read_lies {P : Program} {w : World} {O : Nat → Prop} {ι : List Loc} {b o : Nat} {k : EK} {xs : List V} (h : VLies w O ι b k xs o) : ∃ us : Array Value, (∀ w' : World, w'.heap = w.heap → (loadCells ⟨b, o, none⟩ (xs.length * k.sz)).run P w' = .ok us w') ∧ us.size = xs.length * k.sz ∧ VReps w O ι us k xs := by
  have cell : ∀ q, q < xs.length * k.sz → ∃ u, w.cell? ⟨b, o + q, none⟩ = some u := by
    intro q hq
    have hk : 0 < k.sz := by
      rcases Nat.eq_zero_or_pos k.sz with h0 | h0
      · rw [h0] at hq; omega
      · exact h0
    have hi : q / k.sz < xs.length := Nat.div_lt_of_lt_mul (by rw [Nat.mul_comm]; exact hq)
    have hx := List.getElem?_eq_getElem hi
    have hj : q % k.sz < (xs[q / k.sz]).cells.length := by rw [(h.fit _ _ hx).len]; exact Nat.mod_lt _ hk
    obtain ⟨u, h1, _⟩ := h.rep _ _ _ _ hx (List.getElem?_eq_getElem hj)
    refine ⟨u, ?_⟩
    rw [← h1]
    congr 2
    have := Nat.div_add_mod q k.sz
    rw [Nat.mul_comm] at this
    omega
  have hrun : ∀ w' : World, w'.heap = w.heap → _ := fun w' hw' => run_loadCells (P := P) w' ⟨b, o, none⟩ (xs.length * k.sz) (fun q => (w.cell? ⟨b, o + q, none⟩).getD undef) (fun j hj => by
    obtain ⟨u, hu⟩ := cell j hj
    rw [Addr.add_mid, show w'.cell? ⟨b, o + j, none⟩ = w.cell? ⟨b, o + j, none⟩ from by simp only [World.cell?, hw'], hu]; rfl)
  refine ⟨_, hrun, by simp, ?_⟩
  refine ⟨h.fit, fun i x j c hx hc => ?_⟩
  obtain ⟨u, h1, h2, h3⟩ := h.rep i x j c hx hc
  refine ⟨u, ?_, h2, h3⟩
  have hi : i < xs.length := (List.getElem?_eq_some_iff.1 hx).1
  have hj : j < k.sz := by rw [← (h.fit i x hx).len]; exact (List.getElem?_eq_some_iff.1 hc).1
  have hlt : i * k.sz + j < xs.length * k.sz := by
    have : (i + 1) * k.sz ≤ xs.length * k.sz := Nat.mul_le_mul_right _ hi
    rw [Nat.add_mul] at this
    omega
  have h1' : w.cell? ⟨b, o + (i * k.sz + j), none⟩ = some u := by rw [← h1]; congr 2; omega
  simp [hlt, h1']
theorem VReps.nil {w : World} {O : Nat → Prop} {ι : List Loc} (us : Array Value) (k : EK) : VReps w O ι us k [] := ⟨by simp, by simp⟩
section
variable {P : Program} {E : Env} {w : World} {X : Nat → Prop} {ι : List Loc} {H : Heap} (hH : HR w X ι H)
include hH
/-- The cells of what a slice (or a text) holds. -/
theorem cont_read {te : TI} {x : V} {ux : Value} (hx : VR w (OX X ι H) ι x ux) {c : Cont} (h : contOf H te x = some c) : (Builtin.lenOf ux).run P w = .ok c.len w ∧ ∃ us : Array Value, (∀ w' : World, w'.heap = w.heap → (Builtin.firstCells te.sz c.len ux).run P w' = .ok us w') ∧ us.size = c.len * te.sz ∧ VReps w (OX X ι H) ι us te.ek c.vs := by
  have slice : ∀ (b o cap : Nat) (vs : List V), vs = c.vs → VLies w (OX X ι H) ι b te.ek vs o → ux = .slice (some ⟨b, o, none⟩) c.len cap → (Builtin.lenOf ux).run P w = .ok c.len w ∧ ∃ us : Array Value, (∀ w' : World, w'.heap = w.heap → (Builtin.firstCells te.sz c.len ux).run P w' = .ok us w') ∧ us.size = c.len * te.sz ∧ VReps w (OX X ι H) ι us te.ek c.vs := by
    rintro b o cap vs rfl hl rfl
    obtain ⟨us, h1, h2, h3⟩ := read_lies (P := P) hl
    rw [Cont.vs_len] at h1 h2
    exact ⟨rfl, us, h1, h2, h3⟩
  have empty : ∀ (a : Option Addr), c.vs = [] → ux = .slice a 0 0 → (Builtin.lenOf ux).run P w = .ok c.len w ∧ ∃ us : Array Value, (∀ w' : World, w'.heap = w.heap → (Builtin.firstCells te.sz c.len ux).run P w' = .ok us w') ∧ us.size = c.len * te.sz ∧ VReps w (OX X ι H) ι us te.ek c.vs := by
    rintro a h0 rfl
    have : c.len = 0 := by rw [← Cont.vs_len, h0]; rfl
    rw [this, h0]
    refine ⟨rfl, #[], fun w' _ => ?_, by simp, VReps.nil _ _⟩
    cases a with
    | none => rfl
    | some a => simp [Builtin.firstCells, loadCells, loadCellsFrom]
  unfold contOf at h
  split at h
  · cases h
    obtain rfl : ux = .slice none 0 0 := by cases hx with | p _ _ hx => cases hx; rfl
    exact empty none rfl rfl
  · split at h
    · rename_i k xs hk
      subst hk
      cases h
      cases hx with
      | p _ _ hx =>
        cases hx with
        | slNil _ a => exact empty a rfl rfl
        | sl _ _ b o cap hf hb hm hr hl =>
          refine slice b o cap _ rfl (Lies.lift ⟨hf, fun i x j c hx hj => ?_⟩) rfl
          obtain ⟨u, g1, g2⟩ := hm i x j c hx hj
          have := hr i x j c hx hj
          rw [g1] at this
          exact ⟨u, g1, g2, this⟩
    · cases h
  · rename_i id
    have get : ∀ (B : Blk), H[id]? = some B → (∀ (l : Loc) (b o : Nat), ι[id]? = some l → l.pl = some (b, o) → BR w (OX X ι H) ι l B → VLies w (OX X ι H) ι b te.ek c.vs o ∧ l.len = c.len) → (∀ (l : Loc), l.pl = none → BR w (OX X ι H) ι l B → c.vs = []) →
        (Builtin.lenOf ux).run P w = .ok c.len w ∧ ∃ us : Array Value, (∀ w' : World, w'.heap = w.heap → (Builtin.firstCells te.sz c.len ux).run P w' = .ok us w') ∧ us.size = c.len * te.sz ∧ VReps w (OX X ι H) ι us te.ek c.vs := by
      intro B hB h1 h2
      cases hx with
      | ls _ l b o cap hl hp g1 g2 =>
        obtain ⟨q1, q2⟩ := h1 l b o hl hp (hH.blk id l B hl hB)
        exact slice b o cap _ rfl q1 (by rw [q2])
      | lsNil _ l a hl hp g1 => exact empty a (h2 l hp (hH.blk id l B hl hB)) rfl
    split at h
    · rename_i k xs hB
      split at h
      · rename_i hk
        subst hk
        cases h
        refine get _ hB (fun l b o hl hp hbr => ?_) (fun l hp hbr => ?_)
        · obtain ⟨q1, q2, q3⟩ := hbr
          simp only [hp] at q3
          exact ⟨Lies.lift q3.2.2, q2⟩
        · obtain ⟨q1, q2, q3⟩ := hbr
          simp only [hp] at q3
          simp [Cont.vs, q3]
      · cases h
    · rename_i k xs hB
      split at h
      · rename_i hk
        subst hk
        cases h
        refine get _ hB (fun l b o hl hp hbr => ?_) (fun l hp hbr => ?_)
        · obtain ⟨q1, q2, q3⟩ := hbr
          simp only [hp] at q3
          exact ⟨Lies.lift q3.2.2, q2⟩
        · obtain ⟨q1, q2, q3⟩ := hbr
          simp only [hp] at q3
          simp [Cont.vs, q3]
      · cases h
    · rename_i k xs hB
      split at h
      · rename_i hk
        subst hk
        cases h
        refine get _ hB (fun l b o hl hp hbr => ?_) (fun l hp hbr => ?_)
        · obtain ⟨q1, q2, q3⟩ := hbr
          simp only [hp] at q3
          exact ⟨q3.2.2, q2⟩
        · obtain ⟨q1, q2, q3⟩ := hbr
          simp only [hp] at q3
          simp [Cont.vs, q3]
      · cases h
    · cases h
  · rename_i id q m
    have get : ∀ (B : Blk), H[id]? = some B → c.len = m → (∀ (l : Loc) (b o : Nat), ι[id]? = some l → l.pl = some (b, o) → BR w (OX X ι H) ι l B → VLies w (OX X ι H) ι b te.ek c.vs (o + q * te.sz) ∧ l.sz = te.sz) →
        (Builtin.lenOf ux).run P w = .ok c.len w ∧ ∃ us : Array Value, (∀ w' : World, w'.heap = w.heap → (Builtin.firstCells te.sz c.len ux).run P w' = .ok us w') ∧ us.size = c.len * te.sz ∧ VReps w (OX X ι H) ι us te.ek c.vs := by
      intro B hB hm h1
      cases hx with
      | lsub _ _ _ l b o cap hl hp g1 g2 =>
        obtain ⟨q1, q2⟩ := h1 l b o hl hp (hH.blk id l B hl hB)
        exact slice b (o + q * te.sz) cap _ rfl q1 (by rw [q2, hm])
      | lsubNil _ _ l a hl hg => exact empty a (List.eq_nil_of_length_eq_zero (by rw [Cont.vs_len, hm])) rfl
    split at h
    · rename_i k xs hB
      split at h
      · rename_i hk
        obtain ⟨rfl, hqm⟩ := hk
        cases h
        refine get _ hB (by simp [Cont.len]; omega) (fun l b o hl hp hbr => ?_)
        obtain ⟨q1, q2, q3⟩ := hbr
        simp only [hp] at q3
        exact ⟨Lies.lift (q3.2.2.sub q m), q1⟩
      · cases h
    · rename_i k xs hB
      split at h
      · rename_i hk
        obtain ⟨rfl, hqm⟩ := hk
        cases h
        refine get _ hB (by simp [Cont.len]; omega) (fun l b o hl hp hbr => ?_)
        obtain ⟨q1, q2, q3⟩ := hbr
        simp only [hp] at q3
        exact ⟨Lies.lift (q3.2.2.sub q m), q1⟩
      · cases h
    · rename_i k xs hB
      split at h
      · rename_i hk
        obtain ⟨rfl, hqm⟩ := hk
        cases h
        refine get _ hB (by simp [Cont.len]; omega) (fun l b o hl hp hbr => ?_)
        obtain ⟨q1, q2, q3⟩ := hbr
        simp only [hp] at q3
        exact ⟨q3.2.2.sub q m, q1⟩
      · cases h
    · cases h
  · split at h
    · rename_i s hk
      cases h
      obtain ⟨a, rfl, rfl⟩ := pv_str hx
      have ha : a.data.toList.length = a.size := by rw [Array.length_toList]; rfl
      have hsz : te.sz = 1 := congrArg EK.sz hk
      refine ⟨by simp [Builtin.lenOf, Cont.len], (a.extract 0 a.size).data.map fun b => .int .u8 b.toNat, fun w' _ => ?_, ?_, ?_⟩
      · simp [Builtin.firstCells, Cont.len]
      · simp [Cont.len, hsz, ByteArray.data_extract]
      · rw [hk]
        refine ⟨fun i x hx => ?_, fun i x j c hx hc => ?_⟩
        · simp only [Cont.vs, List.getElem?_map, Option.map_eq_some_iff] at hx
          obtain ⟨d, ⟨e, _, rfl⟩, rfl⟩ := hx
          exact ⟨rfl, rfl, trivial⟩
        · simp only [Cont.vs, List.getElem?_map, Option.map_eq_some_iff] at hx
          obtain ⟨d, ⟨e, he, rfl⟩, rfl⟩ := hx
          cases j with
          | succ j => simp [V.cells, PV.cells] at hc
          | zero =>
            simp [V.cells, PV.cells] at hc
            subst hc
            refine ⟨.int .u8 e.toNat, ?_, rfl, pr_int _ _⟩
            have hd : a.data[i]? = some e := by simpa using he
            have hlt : i < a.size := (Array.getElem?_eq_some_iff.1 hd).1
            have hlt' : i < a.data.size := hlt
            simp [ByteArray.data_extract, hd]
    · cases h
  · cases h
end
end Go.Ab

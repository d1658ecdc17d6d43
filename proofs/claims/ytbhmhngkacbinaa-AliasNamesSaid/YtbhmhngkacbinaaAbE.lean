/- The heap of numbered blocks: what is frozen. No conditions. -/
import Derived.Test.YtbhmhngkacbinaaAbD
namespace Go.Ab
open Go.RowKit
set_option autoImplicit false
set_option linter.unusedSimpArgs false

theorem fzL_get {g : V → Option PV} : ∀ {vs : List V} {xs : List PV}, fzL g vs = some xs → xs.length = vs.length ∧ ∀ (i : Nat) (v : V) (x : PV), vs[i]? = some v → xs[i]? = some x → g v = some x
  | [], xs, h => by simp [fzL] at h; subst h; simp
  | v :: r, xs, h => by
    simp only [fzL] at h
    cases hg : g v with
    | none => simp [hg] at h
    | some y =>
      simp only [hg] at h
      cases hr : fzL g r with
      | none => simp [hr] at h
      | some l =>
        simp [hr] at h; subst h
        obtain ⟨h1, h2⟩ := fzL_get hr
        refine ⟨by simp [h1], ?_⟩
        intro i v' x hi hx
        cases i with
        | zero => simp at hi hx; subst hi; subst hx; exact hg
        | succ i => exact h2 i v' x (by simpa using hi) (by simpa using hx)
theorem fzV_isAgg {n : Nat} {H : Heap} {v : V} {x : PV} (h : fzV n H v = some x) : x.isAgg = v.isAgg := by
  cases n with
  | zero => simp [fzV] at h
  | succ n =>
    cases v with
    | p y => simp [fzV] at h; subst h; rfl
    | agg m cs => simp only [fzV, Option.map_eq_some_iff] at h; obtain ⟨l, _, rfl⟩ := h; rfl
    | lp id i f => simp only [fzV] at h; split at h <;> (try split at h) <;> simp at h; subst h; rfl
    | ls id => simp only [fzV] at h; split at h <;> simp at h; subst h; rfl
    | lsub id i f => simp only [fzV] at h; split at h <;> (try split at h) <;> simp at h; subst h; rfl
    | fn f cs => simp only [fzV, Option.map_eq_some_iff] at h; obtain ⟨l, _, rfl⟩ := h; rfl
    | tup vs => simp [fzV] at h
    | lm id => simp only [fzV] at h; split at h <;> simp at h <;> subst h <;> rfl

/-- What is asked of a set of numbers that are frozen: what they name is among them, and their blocks are not in O'. -/
structure Fz (ι : List Loc) (H : Heap) (S : Nat → Prop) (O' : Nat → Prop) : Prop where
  closed : ∀ id B, S id → H[id]? = some B → ∀ j ∈ B.refs, S j
  off : ∀ id l b o, S id → ι[id]? = some l → l.pl = some (b, o) → H[id]? ≠ none → (∃ B, H[id]? = some B ∧ (B.live = true)) → ¬ O' b

theorem PLies.sub {w : World} {O : Nat → Prop} {b : Nat} {k : EK} {xs : List PV} {o : Nat} (h : PLies w O b k xs o) (q m : Nat) : PLies w O b k ((xs.drop q).take m) (o + q * k.sz) where
  fit i x hx := by
    rw [List.getElem?_take] at hx
    split at hx
    · rw [List.getElem?_drop] at hx; exact h.fit _ x hx
    · cases hx
  rep i x j c hx hj := by
    rw [List.getElem?_take] at hx
    split at hx
    · rw [List.getElem?_drop] at hx
      obtain ⟨u, h1, h2, h3⟩ := h.rep _ x j c hx hj
      refine ⟨u, ?_, h2, h3⟩
      rw [← h1, Nat.add_mul]
      simp only [Nat.add_assoc]
    · cases hx
theorem PR.of_lies_sl {w : World} {O : Nat → Prop} {b : Nat} {k : EK} {xs : List PV} {o cap : Nat} (h : PLies w O b k xs o) (hb : xs ≠ [] → b < w.heap.size ∧ ¬ O b) (hc : xs.length ≤ cap) : PR w O (.sl k xs) (.slice (some ⟨b, o, none⟩) xs.length cap) :=
  .sl k xs b o cap h.fit hb (fun i x j c hx hj => by obtain ⟨u, h1, h2, _⟩ := h.rep i x j c hx hj; exact ⟨u, h1, h2⟩) (fun i x j c hx hj => by obtain ⟨u, h1, _, h3⟩ := h.rep i x j c hx hj; rw [h1]; exact h3) hc
theorem PR.of_lies_pp {w : World} {O : Nat → Prop} {b : Nat} {k : EK} {xs : List PV} {o i f : Nat} (h : PLies w O b k xs o) (hi : i < xs.length) (hb : xs ≠ [] → b < w.heap.size ∧ ¬ O b) : PR w O (.pp k xs i f) (.pointer (some ⟨b, o + i * k.sz + f, none⟩)) :=
  .pp k xs i f b o hi h.fit hb (fun i x j c hx hj => by obtain ⟨u, h1, h2, _⟩ := h.rep i x j c hx hj; exact ⟨u, h1, h2⟩) (fun i x j c hx hj => by obtain ⟨u, h1, _, h3⟩ := h.rep i x j c hx hj; rw [h1]; exact h3)

theorem Same.shrink {w : World} {O O' : Nat → Prop} (h : ∀ b, O' b → O b) : Same w O w O' := ⟨fun _ _ _ => rfl, Nat.le_refl _, fun b hb => .inl (h b hb)⟩

theorem fz_len {H : Heap} {n : Nat} {v : V} {x : PV} (h : fzV n H v = some x) : x.cells.length = v.cells.length := by
  have one : x.isAgg = false → v.cells = [v] → x.cells.length = v.cells.length := fun h1 h2 => by
    have h3 : x.cells = [x] := by cases x <;> simp_all [PV.isAgg, PV.cells]
    rw [h2, h3]; rfl
  cases n with
  | zero => simp [fzV] at h
  | succ n =>
    cases v with
    | p y => simp [fzV] at h; subst h; simp [V.cells]
    | agg m cs =>
      simp only [fzV, Option.map_eq_some_iff] at h
      obtain ⟨l, hl, rfl⟩ := h
      exact (fzL_get hl).1
    | tup vs => simp [fzV] at h
    | lp id i f => exact one (fzV_isAgg h) rfl
    | ls id => exact one (fzV_isAgg h) rfl
    | lsub id i f => exact one (fzV_isAgg h) rfl
    | fn f cs => exact one (fzV_isAgg h) rfl
    | lm id => exact one (fzV_isAgg h) rfl
theorem fz_wf {H : Heap} {n : Nat} {v : V} {x : PV} (h : fzV n H v = some x) (hw : v.wf) : x.wf := by
  cases hx : x with
  | agg m l =>
    cases n with
    | zero => simp [fzV] at h
    | succ n =>
      subst hx
      cases v with
      | p y => simp [fzV] at h; subst h; exact hw
      | agg m' cs =>
        simp only [fzV, Option.map_eq_some_iff] at h
        obtain ⟨l', hl, e⟩ := h
        cases e
        obtain ⟨g1, g2⟩ := fzL_get hl
        refine ⟨g1.trans hw.1, ?_⟩
        intro i c hi
        have hv := List.getElem?_eq_getElem (l := cs) (i := i) (by have := (List.getElem?_eq_some_iff.1 hi).1; omega)
        exact (fzV_isAgg (g2 i _ c hv hi)).trans (hw.2 i _ hv)
      | tup vs => simp [fzV] at h
      | lp id i f => have := fzV_isAgg h; simp [PV.isAgg, V.isAgg] at this
      | ls id => have := fzV_isAgg h; simp [PV.isAgg, V.isAgg] at this
      | lsub id i f => have := fzV_isAgg h; simp [PV.isAgg, V.isAgg] at this
      | fn f cs => have := fzV_isAgg h; simp [PV.isAgg, V.isAgg] at this
      | lm id => have := fzV_isAgg h; simp [PV.isAgg, V.isAgg] at this
  | _ => trivial
section
variable {w : World} {X : Nat → Prop} {ι : List Loc} {H : Heap} (hH : HR w X ι H) {S O' : Nat → Prop} (hS : Fz ι H S O') (hO : ∀ b, O' b → OX X ι H b)
include hH hS hO
theorem fz_cells {n : Nat} (ih : ∀ m, m ≤ n → ∀ (v : V) (x : PV) (u : Value), fzV m H v = some x → VR w (OX X ι H) ι v u → (∀ id ∈ v.refs, S id) → PR w O' x u)
    {v : V} {x : PV} (h : fzV n H v = some x) {j : Nat} {c : V} {c' : PV} (hc : v.cells[j]? = some c) (hc' : x.cells[j]? = some c') {u : Value} (hu : VR w (OX X ι H) ι c u) (hs : ∀ id ∈ v.refs, S id) : PR w O' c' u := by
  have _u0 := hH
  have _u1 := hS
  cases n with
  | zero => simp [fzV] at h
  | succ n =>
    have hsc := fun id hid => hs id (cells_refs hc id hid)
    have one : x.isAgg = false → v.cells = [v] → PR w O' c' u := by
      intro h1 h2
      have h3 : x.cells = [x] := by cases x <;> simp_all [PV.isAgg, PV.cells]
      rw [h2] at hc; rw [h3] at hc'
      cases j with
      | zero => simp at hc hc'; subst hc; subst hc'; exact ih (n + 1) (Nat.le_refl _) _ _ u h hu hs
      | succ j => simp at hc
    cases v with
    | p y =>
      simp [fzV] at h; subst h
      simp only [V.cells, List.getElem?_map, hc', Option.map_some, Option.some.injEq] at hc
      subst hc
      cases hu with | p _ _ hu => exact hu.keep (Same.shrink hO)
    | agg m cs =>
      simp only [fzV, Option.map_eq_some_iff] at h
      obtain ⟨l, hl, rfl⟩ := h
      simp only [V.cells, PV.cells] at hc hc'
      exact ih n (Nat.le_succ _) c c' u ((fzL_get hl).2 j c c' hc hc') hu hsc
    | tup vs => simp [fzV] at h
    | lp id i f => exact one (fzV_isAgg h) rfl
    | ls id => exact one (fzV_isAgg h) rfl
    | lsub id i f => exact one (fzV_isAgg h) rfl
    | fn f cs => exact one (fzV_isAgg h) rfl
    | lm id => exact one (fzV_isAgg h) rfl
theorem fz_lies {n : Nat} (ih : ∀ m, m ≤ n → ∀ (v : V) (x : PV) (u : Value), fzV m H v = some x → VR w (OX X ι H) ι v u → (∀ id ∈ v.refs, S id) → PR w O' x u)
    {vs : List V} {xs : List PV} (h : fzL (fzV n H) vs = some xs) {b o : Nat} {k : EK} (hl : VLies w (OX X ι H) ι b k vs o) (hs : ∀ id ∈ V.refs.refsL vs, S id) : PLies w O' b k xs o where
  fit i x hx := by
    obtain ⟨h1, h2⟩ := fzL_get h
    have hi : i < vs.length := by have := (List.getElem?_eq_some_iff.1 hx).1; omega
    have hv := List.getElem?_eq_getElem hi
    have := hl.fit i _ hv
    have hz := h2 i _ x hv hx
    exact ⟨(fz_len hz).trans this.1, (fzV_isAgg hz).trans this.2, fz_wf hz this.3⟩
  rep i x j c hx hj := by
    obtain ⟨h1, h2⟩ := fzL_get h
    have hi : i < vs.length := by have := (List.getElem?_eq_some_iff.1 hx).1; omega
    have hv := List.getElem?_eq_getElem hi
    have hz := h2 i _ x hv hx
    have hjl : j < vs[i].cells.length := by rw [← fz_len hz]; exact (List.getElem?_eq_some_iff.1 hj).1
    obtain ⟨u, h3, h4, h5⟩ := hl.rep i _ j _ hv (List.getElem?_eq_getElem hjl)
    exact ⟨u, h3, h4, fz_cells hH hS hO ih hz (List.getElem?_eq_getElem hjl) hj h5 (fun id hid => hs id (mem_refsL hv hid))⟩
theorem cont_sound {n : Nat} (ih : ∀ m, m ≤ n → ∀ (v : V) (x : PV) (u : Value), fzV m H v = some x → VR w (OX X ι H) ι v u → (∀ id ∈ v.refs, S id) → PR w O' x u)
    {id : Nat} {k : EK} {xs : List PV} (h : cont (fzV n H) H id = some (k, xs)) (hi : S id) {l : Loc} (hl : ι[id]? = some l) :
    l.sz = k.sz ∧ l.len = xs.length ∧ (l.pl = none → xs = []) ∧ ∀ b o, l.pl = some (b, o) → b < w.heap.size ∧ ¬ O' b ∧ PLies w O' b k xs o := by
  unfold cont at h
  cases hB : H[id]? with
  | none => simp [hB] at h
  | some B =>
    have hbr := hH.blk id l B hl hB
    have off : B.live = true → ∀ b o, l.pl = some (b, o) → ¬ O' b := fun hv b o hp => hS.off id l b o hi hl hp (by simp [hB]) ⟨B, hB, hv⟩
    rw [hB] at h
    cases B with
    | dead => simp at h
    | mp => simp at h
    | fm => simp at h
    | pu k' xs' =>
      simp at h; obtain ⟨rfl, rfl⟩ := h
      obtain ⟨h1, h2, h3⟩ := hbr
      refine ⟨h1, h2, fun hn => by simpa [hn] using h3, fun b o hp => ?_⟩
      simp only [hp] at h3
      exact ⟨own_lt hH ⟨id, l, _, o, hl, hB, rfl, hp⟩, off rfl b o hp, Lies.keep h3.2.2 (fun _ => rfl) (fun _ _ _ _ _ _ _ hR => hR.keep (Same.shrink hO))⟩
    | fz k' xs' =>
      simp at h; obtain ⟨rfl, rfl⟩ := h
      obtain ⟨h1, h2, h3⟩ := hbr
      refine ⟨h1, h2, fun hn => by simpa [hn] using h3, fun b o hp => ?_⟩
      simp only [hp] at h3
      exact ⟨h3.1, fun hb => h3.2.1 (hO b hb), Lies.keep h3.2.2 (fun _ => rfl) (fun _ _ _ _ _ _ _ hR => hR.keep (Same.shrink hO))⟩
    | mi k' vs =>
      simp only [Option.map_eq_some_iff] at h
      obtain ⟨l', hl', h⟩ := h
      simp at h; obtain ⟨rfl, rfl⟩ := h
      obtain ⟨h1, h2, h3⟩ := hbr
      refine ⟨h1, h2.trans (fzL_get hl').1.symm, fun hn => ?_, fun b o hp => ?_⟩
      · simp [hn] at h3; subst h3; simp [fzL] at hl'; exact hl'
      · simp only [hp] at h3
        exact ⟨own_lt hH ⟨id, l, _, o, hl, hB, rfl, hp⟩, off rfl b o hp, fz_lies hH hS hO ih hl' h3.2.2 (hS.closed id _ hi hB)⟩
theorem fzV_sound : ∀ (n m : Nat), m ≤ n → ∀ (v : V) (x : PV) (u : Value), fzV m H v = some x → VR w (OX X ι H) ι v u → (∀ id ∈ v.refs, S id) → PR w O' x u := by
  intro n
  induction n with
  | zero => intro m hm v x u h; obtain rfl : m = 0 := (by omega); simp [fzV] at h
  | succ n ihn =>
    intro m hm v x u h hv hs
    rcases Nat.lt_or_ge m (n + 1) with hlt | hge
    · exact ihn m (by omega) v x u h hv hs
    obtain rfl : m = n + 1 := by omega
    have ih := ihn
    cases v with
    | p y => simp [fzV] at h; subst h; cases hv with | p _ _ hv => exact hv.keep (Same.shrink hO)
    | agg m cs =>
      simp only [fzV, Option.map_eq_some_iff] at h
      obtain ⟨l, hl, rfl⟩ := h
      obtain ⟨hll, hlg⟩ := fzL_get hl
      cases hv with
      | agg _ _ us hn hu hsc hc h =>
        have get : ∀ (i : Nat) (c : PV), l[i]? = some c → ∃ v, cs[i]? = some v := fun i c hi => ⟨_, List.getElem?_eq_getElem (by have := (List.getElem?_eq_some_iff.1 hi).1; omega)⟩
        refine .agg m l us (by omega) hu ?_ hc ?_
        · intro i c hi
          obtain ⟨v, hv⟩ := get i c hi
          exact (fzV_isAgg (hlg i v c hv hi)).trans (hsc i v hv)
        · intro i c u hi hui
          obtain ⟨v, hv⟩ := get i c hi
          exact ih n (Nat.le_refl _) v c u (hlg i v c hv hi) (h i v u hv hui) (fun id hid => hs id (mem_refsL hv hid))
    | tup vs => simp [fzV] at h
    | fn f cs =>
      simp only [fzV, Option.map_eq_some_iff] at h
      obtain ⟨l, hl, rfl⟩ := h
      obtain ⟨hll, hlg⟩ := fzL_get hl
      cases hv with
      | fn _ _ us hn h =>
        refine .fn f l us (by omega) ?_
        intro i c u hi hui
        have hv := List.getElem?_eq_getElem (l := cs) (i := i) (by have := (List.getElem?_eq_some_iff.1 hi).1; omega)
        exact ih n (Nat.le_refl _) _ c u (hlg i _ c hv hi) (h i _ u hv hui) (fun id hid => hs id (mem_refsL hv hid))
    | lp id i f =>
      simp only [fzV] at h
      cases hc : cont (fzV n H) H id with
      | none => simp [hc] at h
      | some kx =>
        obtain ⟨k, xs⟩ := kx
        simp only [hc] at h
        split at h
        · rename_i hi
          simp at h; subst h
          cases hv with
          | lp _ _ _ l b o hl hp =>
            obtain ⟨h1, h2, h3, h4⟩ := cont_sound hH hS hO ih hc (hs id (by simp [V.refs])) hl
            obtain ⟨h5, h6, h7⟩ := h4 b o hp
            rw [h1]
            exact PR.of_lies_pp h7 hi (fun _ => ⟨h5, h6⟩)
        · simp at h
    | ls id =>
      simp only [fzV] at h
      cases hc : cont (fzV n H) H id with
      | none => simp [hc] at h
      | some kx =>
        obtain ⟨k, xs⟩ := kx
        simp [hc] at h; subst h
        cases hv with
        | ls _ l b o cap hl hp g1 g2 =>
          obtain ⟨h1, h2, h3, h4⟩ := cont_sound hH hS hO ih hc (hs id (by simp [V.refs])) hl
          obtain ⟨h5, h6, h7⟩ := h4 b o hp
          rw [h2] at g1 ⊢
          exact PR.of_lies_sl h7 (fun _ => ⟨h5, h6⟩) g1
        | lsNil _ l a hl hp g1 =>
          obtain ⟨h1, h2, h3, h4⟩ := cont_sound hH hS hO ih hc (hs id (by simp [V.refs])) hl
          rw [h3 hp]
          exact .slNil k a
    | lsub id q m =>
      simp only [fzV] at h
      cases hc : cont (fzV n H) H id with
      | none => simp [hc] at h
      | some kx =>
        obtain ⟨k, xs⟩ := kx
        simp only [hc] at h
        split at h
        · rename_i hqm
          simp at h; subst h
          cases hv with
          | lsub _ _ _ l b o cap hl hp g1 g2 =>
            obtain ⟨h1, h2, h3, h4⟩ := cont_sound hH hS hO ih hc (hs id (by simp [V.refs])) hl
            obtain ⟨h5, h6, h7⟩ := h4 b o hp
            have hlen : ((xs.drop q).take m).length = m := by simp; omega
            have := PR.of_lies_sl (cap := cap) (h7.sub q m) (fun _ => ⟨h5, h6⟩) (by omega)
            rw [hlen] at this
            rw [h1]
            exact this
          | lsubNil _ _ l a hl hg => rw [List.take_zero]; exact .slNil k a
        · simp at h
    | lm id =>
      simp only [fzV] at h
      cases hv with
      | lm _ l r o hl hp =>
        cases hB : H[id]? with
        | none => simp [hB] at h
        | some B =>
          have hbr := hH.blk id l B hl hB
          cases B with
          | mp ks vs =>
            simp [hB] at h; subst h
            simp only [BR, hp] at hbr
            obtain ⟨es, clk, g0, g1, g2, g3, g4⟩ := hbr.at_
            exact .mp ks vs r es clk g0 (hS.off id l r o (hs id (by simp [V.refs])) hl hp (by simp [hB]) ⟨_, hB, rfl⟩) g1 g2 (fun i c e a b => (g3 i c e a b).keep (Same.shrink hO)) (fun i c e a b => (g4 i c e a b).keep (Same.shrink hO))
          | fm ks vs =>
            simp [hB] at h; subst h
            simp only [BR, hp] at hbr
            obtain ⟨es, clk, g0, g1, g2, g3, g4⟩ := hbr.2.at_
            exact .mp ks vs r es clk g0 (fun hb => hbr.1 (hO r hb)) g1 g2 (fun i c e a b => (g3 i c e a b).keep (Same.shrink hO)) (fun i c e a b => (g4 i c e a b).keep (Same.shrink hO))
          | _ => simp [hB] at h
end

theorem inAll_iff {ids : List Nat} : ∀ {l : List Nat}, inAll ids l = true → ∀ i ∈ l, i ∈ ids
  | [], _, i, hi => by simp at hi
  | j :: r, h, i, hi => by
    simp only [inAll, Bool.and_eq_true] at h
    rcases List.mem_cons.1 hi with rfl | hi
    · exact mem_iff.1 h.1
    · exact inAll_iff h.2 i hi
theorem closedB_iff {H : Heap} {ids : List Nat} : ∀ {l : List Nat}, closedB H ids l = true → ∀ id ∈ l, ∀ B, H[id]? = some B → ∀ j ∈ B.refs, j ∈ ids
  | [], _, i, hi => by simp at hi
  | k :: r, h, i, hi => by
    simp only [closedB, Bool.and_eq_true] at h
    rcases List.mem_cons.1 hi with rfl | hi
    · intro B hB; rw [hB] at h; exact inAll_iff h.1
    · exact closedB_iff h.2 i hi
theorem fzIds_get {H0 : Heap} {ids : List Nat} : ∀ {H H1 : Heap} {n : Nat}, fzIds H0 ids n H = some H1 → H1.length = H.length ∧ ∀ (i : Nat) (B B' : Blk), H[i]? = some B → H1[i]? = some B' → (mem (n + i) ids = true → fzBlk H0 B = some B') ∧ (mem (n + i) ids = false → B' = B)
  | [], H1, n, h => by simp [fzIds] at h; subst h; simp
  | b :: r, H1, n, h => by
    simp only [fzIds] at h
    cases h1 : (if mem n ids = true then fzBlk H0 b else some b) with
    | none => simp [h1] at h
    | some b' =>
      cases h2 : fzIds H0 ids (n + 1) r with
      | none => simp [h1, h2] at h
      | some r' =>
        simp [h1, h2] at h; subst h
        obtain ⟨g1, g2⟩ := fzIds_get h2
        refine ⟨by simp [g1], ?_⟩
        intro i B B' hB hB'
        cases i with
        | zero =>
          simp at hB hB'; subst hB; subst hB'
          constructor
          · intro hm; rw [if_pos (by simpa using hm)] at h1; exact h1
          · intro hm; rw [if_neg (by simpa using hm)] at h1; exact (Option.some.inj h1).symm
        | succ i =>
          have := g2 i B B' (by simpa using hB) (by simpa using hB')
          rw [show n + 1 + i = n + (i + 1) from by omega] at this
          exact this
theorem fzBlk_live {H : Heap} {B B' : Blk} (h : fzBlk H B = some B') : B'.live = false := by
  cases B with
  | dead => simp [fzBlk] at h; subst h; rfl
  | pu => simp [fzBlk] at h; subst h; rfl
  | fz => simp [fzBlk] at h; subst h; rfl
  | mp => simp [fzBlk] at h; subst h; rfl
  | fm => simp [fzBlk] at h; subst h; rfl
  | mi k vs => simp only [fzBlk] at h; split at h <;> simp at h; subst h; rfl
theorem Fz.of {w : World} {X : Nat → Prop} {ι : List Loc} {H H1 : Heap} (hH : HR w X ι H) {ids : List Nat} (hc : closedB H ids ids = true) (h1 : fzIds H ids 0 H = some H1) : Fz ι H (· ∈ ids) (OX X ι H1) where
  closed id B hi hB := closedB_iff hc id hi B hB
  off id l b o hi hl hp _ hlv := by
    obtain ⟨B, hB, hv⟩ := hlv
    obtain ⟨g1, g2⟩ := fzIds_get h1
    rintro (⟨id', l', B', o', k1, k2, k3, k4⟩ | hx)
    · have hlt : id' < H.length := by have := (List.getElem?_eq_some_iff.1 k2).1; omega
      have hC := List.getElem?_eq_getElem hlt
      have g3 := g2 id' _ B' hC k2
      rw [Nat.zero_add] at g3
      by_cases hm : mem id' ids = true
      · have := fzBlk_live (g3.1 hm); rw [this] at k3; cases k3
      · have e := g3.2 (by simpa using hm)
        subst e
        have := hH.one id id' l l' B _ b o o' hl k1 hB hC hv k3 hp k4
        subst this
        exact hm (mem_iff.2 hi)
    · exact hH.xo b ⟨id, l, B, o, hl, hB, hv, hp⟩ hx
/-- Numbers frozen. -/
theorem HR.freeze {w : World} {X : Nat → Prop} {ι : List Loc} {H H1 : Heap} (hH : HR w X ι H) {ids : List Nat} (hc : closedB H ids ids = true) (h1 : fzIds H ids 0 H = some H1) : HR w X ι H1 ∧ Fr w ι H [] w ι H1 := by
  obtain ⟨g1, g2⟩ := fzIds_get h1
  have old : ∀ (i : Nat) (B' : Blk), H1[i]? = some B' → ∃ B, H[i]? = some B := fun i B' hi => ⟨_, List.getElem?_eq_getElem (by have := (List.getElem?_eq_some_iff.1 hi).1; omega)⟩
  refine hH.less g1 ?_ ?_
  · intro id B' hB' hv
    obtain ⟨B, hB⟩ := old id B' hB'
    have g3 := g2 id B B' hB hB'
    rw [Nat.zero_add] at g3
    by_cases hm : mem id ids = true
    · have := fzBlk_live (g3.1 hm); rw [this] at hv; cases hv
    · have e := g3.2 (by simpa using hm); subst e; exact ⟨_, hB, hv⟩
  · intro hs id l B' hl hB'
    obtain ⟨B, hB⟩ := old id B' hB'
    have g3 := g2 id B B' hB hB'
    rw [Nat.zero_add] at g3
    have hO : ∀ b, OX X ι H1 b → OX X ι H b := fun b hb => hb.elim (fun h => (hs.own b h).elim .inl (fun h2 => by
      obtain ⟨id', l', C', o', k1, k2, k3, k4⟩ := h
      obtain ⟨C, hC⟩ := old id' C' k2
      have g4 := g2 id' C C' hC k2
      rw [Nat.zero_add] at g4
      by_cases hm : mem id' ids = true
      · have := fzBlk_live (g4.1 hm); rw [this] at k3; cases k3
      · have e := g4.2 (by simpa using hm); subst e; exact .inl ⟨id', l', _, o', k1, hC, k3, k4⟩)) .inr
    have hF := Fz.of hH hc h1
    have hbr := hH.blk id l B hl hB
    by_cases hm : mem id ids = true
    · have e := g3.1 hm
      have hid := mem_iff.1 hm
      cases B with
      | dead => simp [fzBlk] at e; subst e; trivial
      | fz k xs => simp [fzBlk] at e; subst e; exact hbr.keep (hs.withX X) (fun hv => by simp [Blk.live] at hv) (fun _ _ => rfl)
      | fm k xs => simp [fzBlk] at e; subst e; exact hbr.keep (hs.withX X) (fun hv => by simp [Blk.live] at hv) (fun _ _ => rfl)
      | pu k xs =>
        simp [fzBlk] at e; subst e
        obtain ⟨h2, h3, h4⟩ := hbr
        refine ⟨h2, h3, ?_⟩
        cases hp : l.pl with
        | none => simpa [hp] using h4
        | some p =>
          obtain ⟨b, o⟩ := p
          simp only [hp] at h4 ⊢
          exact ⟨own_lt hH ⟨id, l, _, o, hl, hB, rfl, hp⟩, hF.off id l b o hid hl hp (by simp [hB]) ⟨_, hB, rfl⟩, Lies.keep h4.2.2 (fun _ => rfl) (fun _ _ _ _ _ _ _ hR => hR.keep (Same.shrink hO))⟩
      | mi k vs =>
        simp only [fzBlk] at e
        cases hz : fzL (fzV fuelZ H) vs with
        | none => simp [hz] at e
        | some xs =>
          simp [hz] at e; subst e
          obtain ⟨h2, h3, h4⟩ := hbr
          refine ⟨h2, h3.trans (fzL_get hz).1.symm, ?_⟩
          cases hp : l.pl with
          | none => simp [hp] at h4; subst h4; simp [fzL] at hz; simp [hz]
          | some p =>
            obtain ⟨b, o⟩ := p
            simp only [hp] at h4 ⊢
            exact ⟨own_lt hH ⟨id, l, _, o, hl, hB, rfl, hp⟩, hF.off id l b o hid hl hp (by simp [hB]) ⟨_, hB, rfl⟩, fz_lies hH hF hO (fzV_sound hH hF hO fuelZ) hz h4.2.2 (hF.closed id _ hid hB)⟩
      | mp ks vs =>
        simp [fzBlk] at e; subst e
        simp only [BR] at hbr ⊢
        cases hp : l.pl with
        | none => simp only [hp] at hbr
        | some p =>
          obtain ⟨b, o⟩ := p
          simp only [hp] at hbr ⊢
          exact ⟨hF.off id l b o hid hl hp (by simp [hB]) ⟨_, hB, rfl⟩, hbr.keep (hs.withX X) rfl⟩
    · have e := g3.2 (by simpa using hm); subst e
      exact hbr.keep (hs.withX X) (fun _ _ _ _ => rfl) (fun _ _ => rfl)
end Go.Ab
